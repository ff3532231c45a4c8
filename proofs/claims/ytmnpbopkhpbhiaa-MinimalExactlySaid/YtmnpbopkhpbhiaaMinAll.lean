/- minimal: all the smallest sets, in order. -/
import Derived.Test.YtmnpbopkhpbhiaaMinSmall
import Derived.Test.YtmnpbopkhpbhiaaMinSort
import Derived.Test.YtmnpbopkhpbhiaaRoundReg
set_option linter.unusedVariables false
set_option linter.unusedSimpArgs false
namespace Go.Proofs.Ytmnpbopkhpbhiaa
open Go.RowKit
set_option maxRecDepth 100000
attribute [local go_sem] Oper.semAt_some
theorem enters_small1 (args : Array Value) (w : World) : (callFunc 139 args).run Try.prog w = .ok (.enter 139 args) w :=
  enters_of Try.func139 (by kernel_rfl) rfl args w
theorem smallest_spec (w : World) (a : Option Addr) (n c : Nat) (u : Int) (f : Value) (k : Nat) (fst lb : Array Value) :
    Calls Try.prog 118 #[.agg #[.slice a n c, .int .u64 u, f], .func (.func k) fst lb] w fun e w' =>
      e = .returned (.func (.func 139) #[] #[ptr w.heap.size, ptr (w.heap.size + 1)]) ∧ (w.alloc (.cells #[.slice a n c, .int .u64 u, f] 87)).alloc (.cells #[.func (.func k) fst lb] 85) = w' := by
  go_enter Try.func118, Try.ntmps118
  go_wp2_with fail
  go_ret
  exact ⟨rfl, rfl⟩
theorem Turn.grown {n : Nat} {M : Nat → Prop} {A B : World} {row : Option Nat} (hg : A.grownBy B row) (hr : ∀ k, row = some k → n ≤ k) (hn : n ≤ A.heap.size) : Turn n M A B :=
  ⟨hg.os, hg.tape, hg.output, hg.size, fun k hk _ => hg.block k (by omega) (fun e => by have := hr k e.symm; omega)⟩
/-- The error, if there are too many sets. -/
def tooMany (n : Nat) : Int := if 256 < n then 2 else 0
/-- What is handed back: the sets in order, or none. -/
def AllR (L xss : List (List Int)) : Prop := if 256 < L.length then xss = [] else xss.Perm L ∧ xss.Pairwise fun a b => beforeB b a = false
set_option maxHeartbeats 4000000 in
theorem allq_spec (w : World) (ps : List Int) (F0 F : Nat → Bool) (v fine : Value) (hq : IsQ w ps F0 v) (hF : Fine w fine ps.length F) :
    Calls Try.prog 76 #[v, fine] w fun e w' => ∃ v' us xss, e = .returned (.tuple #[v', .int .i64 (tooMany (smallF F ps.length (2 ^ ps.length)).length)]) ∧
      AllR ((smallF F ps.length (2 ^ ps.length)).map (selI ps)) xss ∧
      Own w' w.heap.size 25 v' us ∧ Rows w' w.heap.size us xss ∧ Same w w' := by
  have hq0 := hq
  obtain ⟨a, c, f, rfl, hi, hl, -⟩ := hq
  have hF0 := hF
  obtain ⟨kf, fst, lb, rfl, -⟩ := hF
  obtain ⟨u, hu⟩ : ∃ u : Int, u = ((2 ^ ps.length - 1 : Nat) : Int) := ⟨_, rfl⟩
  obtain ⟨W2, hW2⟩ : ∃ W2, W2 = (w.alloc (.cells #[.slice a ps.length c, .int .u64 u, f] 87)).alloc (.cells #[.slice none 0 0] 40) := ⟨_, rfl⟩
  obtain ⟨W3, hW3⟩ : ∃ W3, W3 = (W2.alloc (.cells #[.slice a ps.length c, .int .u64 u, f] 87)).alloc (.cells #[.func (.func kf) fst lb] 85) := ⟨_, rfl⟩
  have hz2 : W2.heap.size = w.heap.size + 1 + 1 := by rw [hW2]; simp
  have hz3 : W3.heap.size = W2.heap.size + 1 + 1 := by rw [hW3]; simp
  have hS2 : Same w W2 := by rw [hW2]; exact ((Same.refl w).alloc _).alloc _
  have hS23 : Same W2 W3 := by rw [hW3]; exact ((Same.refl W2).alloc _).alloc _
  have hS3 := hS2.trans hS23
  have r0 : Rec W3 w.heap.size 87 #[.slice a ps.length c, .int .u64 u, f] := by
    rw [hW3, hW2]; exact Rec.same ((((Same.refl _).alloc _).alloc _).alloc _) (Rec.new w _ _)
  have bl : Boxed W3 (w.heap.size + 1) 40 (.slice none 0 0) := by
    refine Boxed.same hS23 ?_
    rw [hW2]; have := Boxed.new (w.alloc (.cells #[.slice a ps.length c, .int .u64 u, f] 87)) 40 (.slice none 0 0)
    rw [World.size_alloc] at this; exact this
  have r1 : Rec W3 W2.heap.size 87 #[.slice a ps.length c, .int .u64 u, f] := by
    rw [hW3]; exact Rec.same ((Same.refl _).alloc _) (Rec.new W2 _ _)
  have b2 : Boxed W3 (W2.heap.size + 1) 85 (.func (.func kf) fst lb) := by
    rw [hW3]; have := Boxed.new (W2.alloc (.cells #[.slice a ps.length c, .int .u64 u, f] 87)) 85 (.func (.func kf) fst lb)
    rw [World.size_alloc] at this; exact this
  have hseq := small1_seq w W3 ps.length F (.func (.func kf) fst lb) a c W2.heap.size (W2.heap.size + 1) f (fun q => q = w.heap.size + 1) hl hF0 hS3.keep (by rw [← hu]; exact r1) b2 (fun k hk => by have hk' : k = w.heap.size + 1 := hk; omega)
  have HC := smallest_spec W2 a ps.length c u f kf fst lb
  rw [← hW3] at HC
  rw [← hu] at hq0 ⊢
  have HQ := Lib.hid hq0
  have HSEQ := Lib.hid hseq
  have HW2 := Lib.hid hW2
  have HW3 := Lib.hid hW3
  have HU := Lib.hid hu
  rw [hW2] at HC
  clear hq0 hseq hW2 hW3 hu hF0 hi
  refine calls_of_marks Try.func76 rfl ?_
  simp only [Try.ntmps76, List.size_toArray, List.length_cons, List.length_nil, Nat.reduceAdd, Nat.reduceSub, Array.replicate_succ, Array.replicate_zero, List.push_toArray, List.append_toArray, List.nil_append, List.cons_append]
  go_wp2_with fail
  refine HC.mono ?_
  clear HC
  rintro e wz ⟨rfl, rfl⟩
  go_wp2_with fail
  have hM : ∀ q, q = w.heap.size + 1 → q < W3.heap.size := fun q hq => by omega
  refine wp_range (M := fun q => q = w.heap.size + 1) 139 #[ptr W2.heap.size, ptr (W2.heap.size + 1)] (by simp [HW2.out]; rfl) enters_small1 HSEQ.out (fun _ _ _ h => by unfold RNat at h; rw [h]; rfl) hM
    (fun pre A => ∃ v us, Boxed A (w.heap.size + 1) 40 v ∧ Own A (W3.heap.size + 2) 25 v us ∧ Rows A (W3.heap.size + 2) us (pre.map (selI ps)) ∧ Turn W3.heap.size (fun q => q = w.heap.size + 1) W3 A)
    (fun _ => False)
    (fun pre A B h hs hc => by
      obtain ⟨v, us, h1, h2, h3, h4⟩ := h
      exact ⟨v, us, stable_boxed _ _ _ _ A B h1 hs hc, own_keep hc.keep h2, h3.keep hc.keep, stable_turn _ _ _ A B h4 hs hc⟩)
    (fun A B h hs hc => h)
    ⟨_, [], bl, World.ownsRow_nil _ _ _ _, Rows.nil _ _, Turn.refl _ _ _⟩ ?round ?done ?stop
  case round =>
    rintro y pr x A args hy1 hy2 hpre ⟨v1, us, b1, o1, rr1, ht⟩ hx hsz
    unfold RNat at hx
    subst hx
    obtain ⟨a1, n1, c1, rfl, -⟩ := o1.slice
    gi_wp2_with fail
    refine ⟨Calm.refl _ _, fun A2 hcA hzA => ?_⟩
    have b12 : Boxed A2 (w.heap.size + 1) 40 (.slice a1 n1 c1) := hcA.same _ _ b1 rfl
    have o12 := own_keep hcA.keep o1
    have rr12 := rr1.keep hcA.keep
    have ht2 := ht.trans (hcA.turn (M := fun q => q = w.heap.size + 1))
    have r02 : Rec A2 w.heap.size 87 #[.slice a ps.length c, .int .u64 u, f] := by
      have bq := r0
      unfold Rec at bq ⊢
      rw [ht2.same w.heap.size (by omega) (by omega)]
      exact bq
    have hBl : Below w.heap.size w A2 := hS3.out.trans (ht2.below (by omega) (fun q hq => by have hq' : q = w.heap.size + 1 := hq; omega))
    have hxs : x < 4096 := by
      have hm : x ∈ smallF F ps.length (2 ^ ps.length) := hpre.subset (by simp)
      have := ((smallF_mem _ _ _ _).1 hm).1
      have := pow_le hl
      omega
    have HL := Lib.hid fun W (h : Same A2 W) => list_spec W ps F0 _ x (HQ.out.keep ((Same.mk hBl).keep.trans h.keep)) hxs
    have q0 := r02.cell 0
    have q1 := r02.cell 1
    have q2 := r02.cell 2
    simp at q0 q1 q2
    have k0 := r02.lt
    have cl := b12.cell
    have ll := b12.lt
    have hA2 : W3.heap.size + 2 ≤ A2.heap.size := by omega
    have HA2 := Lib.hid hA2
    have HB12 := Lib.hid b12
    have HO12 := Lib.hid o12
    have HR12 := Lib.hid rr12
    have HT2 := Lib.hid ht2
    have HR02 := Lib.hid r02
    have HPRE := Lib.hid hpre
    clear hA2 b12 o12 rr12 ht2 hpre o1 rr1 hBl hxs r02 b1 ht hcA hsz hzA
    gi_wp2_with fail
    have hcnt : (pr.map (selI ps)).length ≤ 4096 := by
      have h1 := (List.IsPrefix.length_le HPRE.out)
      have h2 := smallF_len F ps.length (2 ^ ps.length)
      have h3 := pow_le hl
      rw [List.length_append, List.length_singleton] at h1
      rw [List.length_map]; omega
    have hus : us.length ≤ 4096 := by rw [HR12.out.1]; exact hcnt
    have HUS := Lib.hid hus
    clear hcnt hus
    have FIN : ∀ (act : Act) (w6 w7 : World) (a6 : Option Addr) (n6 c6 : Nat) (a7 : Option Addr) (n7 c7 : Nat), Same A2 w6 → Own w6 A2.heap.size 3 (.slice a6 n6 c6) (intVs (selI ps x)) → Own w7 (W3.heap.size + 2) 25 (.slice a7 n7 c7) (us ++ [.slice a6 n6 c6]) →
        (w6.alloc (.cells #[.slice a6 n6 c6] 25)).grownBy w7 (Value.ownBlock (.slice a1 n1 c1)) → (∀ q, Value.ownBlock (.slice a1 n1 c1) = some q → W3.heap.size + 2 ≤ q) →
        roundEnd (W3.heap.size + 2) (fun q => q = w.heap.size + 1) A2 (fun A => ∃ v us, Boxed A (w.heap.size + 1) 40 v ∧ Own A (W3.heap.size + 2) 25 v us ∧ Rows A (W3.heap.size + 2) us ((pr ++ [x]).map (selI ps)) ∧ Turn W3.heap.size (fun q => q = w.heap.size + 1) W3 A) (fun _ => False) .normal act
          (w7.setCell ⟨w.heap.size + 1, 0, none⟩ (.slice a7 n7 c7)) := by
      intro act w6 w7 a6 n6 c6 a7 n7 c7 hs6 ho6 ho7 hg7 hb7
      have hs6a : Same A2 (w6.alloc (.cells #[.slice a6 n6 c6] 25)) := hs6.alloc _
      have hB7 : Boxed w7 (w.heap.size + 1) 40 (.slice a1 n1 c1) := Boxed.grownNe hg7 (Boxed.same hs6a HB12.out) (fun e => by have := hb7 _ e.symm; omega)
      have T1 : Turn (W3.heap.size + 2) (fun q => q = w.heap.size + 1) A2 w7 := (hs6a.turn HA2.out).trans (Turn.grown hg7 (fun k hk => hb7 k hk) (Nat.le_trans HA2.out hs6a.size))
      have T2 : Turn (W3.heap.size + 2) (fun q => q = w.heap.size + 1) w7 (w7.setCell ⟨w.heap.size + 1, 0, none⟩ (.slice a7 n7 c7)) := Turn.setCell w7 _ (.inr rfl)
      have hrows : Rows w7 (W3.heap.size + 2) (us ++ [.slice a6 n6 c6]) ((pr ++ [x]).map (selI ps)) := by
        rw [List.map_append]
        exact app_rows (w3 := A2) (w5 := w6) (cur := w6.alloc (.cells #[.slice a6 n6 c6] 25)) hs6 ((Same.refl w6).alloc _) HO12.out HR12.out HA2.out ho6 hg7
      have hfar : ∀ (v : Value) (cs : List Value) (e : TypeId), Own w7 (W3.heap.size + 2) e v cs → Own (w7.setCell ⟨w.heap.size + 1, 0, none⟩ (.slice a7 n7 c7)) (W3.heap.size + 2) e v cs := fun v cs e h => own_set h (by show w.heap.size + 1 < _; omega) _
      exact ⟨T1.trans T2, _, _, hB7.set _, hfar _ _ _ ho7, ⟨hrows.1, fun j h1 h2 => hfar _ _ _ (hrows.2 j h1 h2)⟩, HT2.out.trans ((T1.trans T2).mono (by omega) (fun _ h => h))⟩
    refine wpIn_region_held (S := fun W => W.cell? ⟨w.heap.size, 0, none⟩ = some (.slice a ps.length c) ∧ W.cell? ⟨w.heap.size, 1, none⟩ = some (.int .u64 u) ∧ W.cell? ⟨w.heap.size, 2, none⟩ = some f) (by kernel_rfl) (by kernel_rfl) ⟨q0, q1, q2⟩ (fun hHeld => ?_)
    refine wpAnyH_take (i := 1) (v := .agg #[.slice a ps.length c, .int .u64 u, f]) rfl (by kernel_rfl) (by kernel_rfl) (by kernel_rfl) (fun _ _ _ h => h) (Or.inl ⟨by rfl, ?_⟩) hHeld ?_
    · rintro W ⟨s0, s1, s2⟩
      go_simp
    (try simp only [Act.put, List.setIfInBounds_toArray, List.set_cons_zero, List.set_cons_succ])
    refine wpAnyH_take (i := 2) (v := .int .u64 x) rfl (by kernel_rfl) (by kernel_rfl) (by kernel_rfl) (fun _ _ _ h => h) (Or.inl ⟨by rfl, ?_⟩) hHeld ?_
    · rintro W ⟨s0, s1, s2⟩
      go_simp
    (try simp only [Act.put, List.setIfInBounds_toArray, List.set_cons_zero, List.set_cons_succ])
    refine wpAnyH_ready (rs := [0, 3]) (by kernel_rfl) (by simp) ?_
    refine AllReadyH.cons rfl (fun K hK => ?_) (AllReadyH.cons rfl (fun K hK => ?_) AllReadyH.nil)
    · skip
      go_simp
      refine hK.out _ _ (by (try dsimp only); exact ⟨q0, q1, q2⟩) (fun hHeld => ?_)
      clear hK K
      (try simp only [Act.put, List.setIfInBounds_toArray, List.set_cons_zero, List.set_cons_succ])
      refine wpAnyH_ready (rs := [3]) (by kernel_rfl) (by simp) ?_
      refine AllReadyH.cons rfl (fun K hK => ?_) AllReadyH.nil
      go_simp
      refine (HL.out _ (Same.refl A2).drew).mono ?_
      rintro e w6 ⟨v6, rfl, ho6, hs6⟩
      obtain ⟨a6, n6, c6, rfl, -⟩ := ho6.slice
      have hs6' : Same A2 w6 := ((Same.refl A2).drew).trans hs6
      have hB6 := Boxed.same hs6' HB12.out
      have cl6 := hB6.cell
      have ll6 := hB6.lt
      have HO6 := Lib.hid ho6
      have hR6 := Rec.same hs6' HR02.out
      have q06 := hR6.cell 0
      have q16 := hR6.cell 1
      have q26 := hR6.cell 2
      simp at q06 q16 q26
      have k06 := hR6.lt
      clear ho6
      refine hK.out _ _ (by (try dsimp only); exact ⟨q06, q16, q26⟩) (fun hHeld => ?_)
      clear hK K
      (try simp only [Act.put, List.setIfInBounds_toArray, List.set_cons_zero, List.set_cons_succ])
      refine wpAnyH_ready (rs := [4]) (by kernel_rfl) (by simp) ?_
      refine AllReadyH.cons rfl (fun K hK => ?_) AllReadyH.nil
      go_simp
      refine hK.out _ _ (by (try dsimp only); exact ⟨cell_alloc q06 _, cell_alloc q16 _, cell_alloc q26 _⟩) (fun hHeld => ?_)
      clear hK K
      (try simp only [Act.put, List.setIfInBounds_toArray, List.set_cons_zero, List.set_cons_succ])
      refine wpAnyH_ready (rs := [5]) (by kernel_rfl) (by simp) ?_
      refine AllReadyH.cons rfl (fun K hK => ?_) AllReadyH.nil
      refine step_append_src rfl _ _ 40 rfl Try.underlying40 info_ints rfl (own_keep (hs6'.alloc _).keep HO12.out) rfl (cells_one (h_new' _ rfl)) rfl (by intro q hq; rw [List.mem_singleton.1 hq]; rfl) (by simp only [List.length_singleton]; have := HUS.out; omega) (by decide) (Nat.le_trans HA2.out (hs6'.alloc _).size) ?_
      rintro a7 n7 c7 w7 ho7 hg7 hb7 hw7
      have hne7 : ∀ q, q < W3.heap.size + 2 → some q ≠ Value.ownBlock (.slice a1 n1 c1) := fun q hq e => by have := hb7 q e.symm; omega
      have hB7 := Boxed.grownNe hg7 (hB6.alloc (.cells #[.slice a6 n6 c6] 25)) (hne7 _ (by omega))
      have hR7 := Rec.grown hg7 (Rec.same ((Same.refl w6).alloc (.cells #[.slice a6 n6 c6] 25)) hR6) (hne7 _ (by omega))
      have cl7 := hB7.cell
      have ll7 := hB7.lt
      have fl7 := hB7.frozen
      have q07 := hR7.cell 0
      have q17 := hR7.cell 1
      have q27 := hR7.cell 2
      simp at q07 q17 q27
      refine hK.out _ _ (by (try dsimp only); exact ⟨q07, q17, q27⟩) (fun hHeld => ?_)
      clear hK K
      (try simp only [Act.put, List.setIfInBounds_toArray, List.set_cons_zero, List.set_cons_succ])
      refine wpAnyH_ready (rs := [6]) (by kernel_rfl) (by simp) ?_
      refine AllReadyH.cons rfl (fun K hK => ?_) AllReadyH.nil
      go_simp
      refine hK.out _ _ (by (try dsimp only); exact ⟨(cell_far _ _ _ _ (by simp)).trans q07, (cell_far _ _ _ _ (by simp)).trans q17, (cell_far _ _ _ _ (by simp)).trans q27⟩) (fun hHeld => ?_)
      clear hK K
      (try simp only [Act.put, List.setIfInBounds_toArray, List.set_cons_zero, List.set_cons_succ])
      refine wpAnyH_done (by kernel_rfl) ?_ _
      exact FIN { tmps := #[], defers := [] } w6 w7 a6 n6 c6 a7 n7 c7 hs6' HO6.out ho7 hg7 hb7
    · skip
      go_simp
      refine (HL.out _ (Same.refl A2).drew).mono ?_
      rintro e w6 ⟨v6, rfl, ho6, hs6⟩
      obtain ⟨a6, n6, c6, rfl, -⟩ := ho6.slice
      have hs6' : Same A2 w6 := ((Same.refl A2).drew).trans hs6
      have hB6 := Boxed.same hs6' HB12.out
      have cl6 := hB6.cell
      have ll6 := hB6.lt
      have HO6 := Lib.hid ho6
      have hR6 := Rec.same hs6' HR02.out
      have q06 := hR6.cell 0
      have q16 := hR6.cell 1
      have q26 := hR6.cell 2
      simp at q06 q16 q26
      have k06 := hR6.lt
      clear ho6
      refine hK.out _ _ (by (try dsimp only); exact ⟨q06, q16, q26⟩) (fun hHeld => ?_)
      clear hK K
      (try simp only [Act.put, List.setIfInBounds_toArray, List.set_cons_zero, List.set_cons_succ])
      refine wpAnyH_ready (rs := [0, 4]) (by kernel_rfl) (by simp) ?_
      refine AllReadyH.cons rfl (fun K hK => ?_) (AllReadyH.cons rfl (fun K hK => ?_) AllReadyH.nil)
      · skip
        go_simp
        refine hK.out _ _ (by (try dsimp only); exact ⟨q06, q16, q26⟩) (fun hHeld => ?_)
        clear hK K
        (try simp only [Act.put, List.setIfInBounds_toArray, List.set_cons_zero, List.set_cons_succ])
        refine wpAnyH_ready (rs := [4]) (by kernel_rfl) (by simp) ?_
        refine AllReadyH.cons rfl (fun K hK => ?_) AllReadyH.nil
        go_simp
        refine hK.out _ _ (by (try dsimp only); exact ⟨cell_alloc q06 _, cell_alloc q16 _, cell_alloc q26 _⟩) (fun hHeld => ?_)
        clear hK K
        (try simp only [Act.put, List.setIfInBounds_toArray, List.set_cons_zero, List.set_cons_succ])
        refine wpAnyH_ready (rs := [5]) (by kernel_rfl) (by simp) ?_
        refine AllReadyH.cons rfl (fun K hK => ?_) AllReadyH.nil
        refine step_append_src rfl _ _ 40 rfl Try.underlying40 info_ints rfl (own_keep (hs6'.alloc _).keep HO12.out) rfl (cells_one (h_new' _ rfl)) rfl (by intro q hq; rw [List.mem_singleton.1 hq]; rfl) (by simp only [List.length_singleton]; have := HUS.out; omega) (by decide) (Nat.le_trans HA2.out (hs6'.alloc _).size) ?_
        rintro a7 n7 c7 w7 ho7 hg7 hb7 hw7
        have hne7 : ∀ q, q < W3.heap.size + 2 → some q ≠ Value.ownBlock (.slice a1 n1 c1) := fun q hq e => by have := hb7 q e.symm; omega
        have hB7 := Boxed.grownNe hg7 (hB6.alloc (.cells #[.slice a6 n6 c6] 25)) (hne7 _ (by omega))
        have hR7 := Rec.grown hg7 (Rec.same ((Same.refl w6).alloc (.cells #[.slice a6 n6 c6] 25)) hR6) (hne7 _ (by omega))
        have cl7 := hB7.cell
        have ll7 := hB7.lt
        have fl7 := hB7.frozen
        have q07 := hR7.cell 0
        have q17 := hR7.cell 1
        have q27 := hR7.cell 2
        simp at q07 q17 q27
        refine hK.out _ _ (by (try dsimp only); exact ⟨q07, q17, q27⟩) (fun hHeld => ?_)
        clear hK K
        (try simp only [Act.put, List.setIfInBounds_toArray, List.set_cons_zero, List.set_cons_succ])
        refine wpAnyH_ready (rs := [6]) (by kernel_rfl) (by simp) ?_
        refine AllReadyH.cons rfl (fun K hK => ?_) AllReadyH.nil
        go_simp
        refine hK.out _ _ (by (try dsimp only); exact ⟨(cell_far _ _ _ _ (by simp)).trans q07, (cell_far _ _ _ _ (by simp)).trans q17, (cell_far _ _ _ _ (by simp)).trans q27⟩) (fun hHeld => ?_)
        clear hK K
        (try simp only [Act.put, List.setIfInBounds_toArray, List.set_cons_zero, List.set_cons_succ])
        refine wpAnyH_done (by kernel_rfl) ?_ _
        exact FIN { tmps := #[], defers := [] } w6 w7 a6 n6 c6 a7 n7 c7 hs6' HO6.out ho7 hg7 hb7
      · skip
        go_simp
        refine hK.out _ _ (by (try dsimp only); exact ⟨cell_alloc q06 _, cell_alloc q16 _, cell_alloc q26 _⟩) (fun hHeld => ?_)
        clear hK K
        (try simp only [Act.put, List.setIfInBounds_toArray, List.set_cons_zero, List.set_cons_succ])
        refine wpAnyH_ready (rs := [0]) (by kernel_rfl) (by simp) ?_
        refine AllReadyH.cons rfl (fun K hK => ?_) AllReadyH.nil
        go_simp
        refine hK.out _ _ (by (try dsimp only); exact ⟨cell_alloc q06 _, cell_alloc q16 _, cell_alloc q26 _⟩) (fun hHeld => ?_)
        clear hK K
        (try simp only [Act.put, List.setIfInBounds_toArray, List.set_cons_zero, List.set_cons_succ])
        refine wpAnyH_ready (rs := [5]) (by kernel_rfl) (by simp) ?_
        refine AllReadyH.cons rfl (fun K hK => ?_) AllReadyH.nil
        refine step_append_src rfl _ _ 40 rfl Try.underlying40 info_ints rfl (own_keep (hs6'.alloc _).keep HO12.out) rfl (cells_one (h_new' _ rfl)) rfl (by intro q hq; rw [List.mem_singleton.1 hq]; rfl) (by simp only [List.length_singleton]; have := HUS.out; omega) (by decide) (Nat.le_trans HA2.out (hs6'.alloc _).size) ?_
        rintro a7 n7 c7 w7 ho7 hg7 hb7 hw7
        have hne7 : ∀ q, q < W3.heap.size + 2 → some q ≠ Value.ownBlock (.slice a1 n1 c1) := fun q hq e => by have := hb7 q e.symm; omega
        have hB7 := Boxed.grownNe hg7 (hB6.alloc (.cells #[.slice a6 n6 c6] 25)) (hne7 _ (by omega))
        have hR7 := Rec.grown hg7 (Rec.same ((Same.refl w6).alloc (.cells #[.slice a6 n6 c6] 25)) hR6) (hne7 _ (by omega))
        have cl7 := hB7.cell
        have ll7 := hB7.lt
        have fl7 := hB7.frozen
        have q07 := hR7.cell 0
        have q17 := hR7.cell 1
        have q27 := hR7.cell 2
        simp at q07 q17 q27
        refine hK.out _ _ (by (try dsimp only); exact ⟨q07, q17, q27⟩) (fun hHeld => ?_)
        clear hK K
        (try simp only [Act.put, List.setIfInBounds_toArray, List.set_cons_zero, List.set_cons_succ])
        refine wpAnyH_ready (rs := [6]) (by kernel_rfl) (by simp) ?_
        refine AllReadyH.cons rfl (fun K hK => ?_) AllReadyH.nil
        go_simp
        refine hK.out _ _ (by (try dsimp only); exact ⟨(cell_far _ _ _ _ (by simp)).trans q07, (cell_far _ _ _ _ (by simp)).trans q17, (cell_far _ _ _ _ (by simp)).trans q27⟩) (fun hHeld => ?_)
        clear hK K
        (try simp only [Act.put, List.setIfInBounds_toArray, List.set_cons_zero, List.set_cons_succ])
        refine wpAnyH_done (by kernel_rfl) ?_ _
        exact FIN { tmps := #[], defers := [] } w6 w7 a6 n6 c6 a7 n7 c7 hs6' HO6.out ho7 hg7 hb7
  case done =>
    rintro B ⟨v1, us, b1, o1, rr1, ht⟩ hD hzB
    obtain ⟨a1, n1, c1, rfl, rfl⟩ := o1.slice
    have hlen : us.length = (smallF F ps.length (2 ^ ps.length)).length := by rw [rr1.1, List.length_map]
    have hbd : us.length ≤ 4096 := by
      have h2 := smallF_len F ps.length (2 ^ ps.length)
      have h3 := pow_le hl
      omega
    have hSB : ∀ B', Turn W3.heap.size (fun q => q = w.heap.size + 1) B B' → Same w B' := fun B' h => ⟨hS3.out.trans ((ht.trans h).below (by omega) (fun q hq => by have hq' : q = w.heap.size + 1 := hq; omega))⟩
    have HSB := Lib.hid hSB
    have HLEN := Lib.hid hlen
    have HD := Lib.hid hD
    have HB1 := Lib.hid b1
    have HO1 := Lib.hid o1
    have HR1 := Lib.hid rr1
    have cl := b1.cell
    have fl := b1.frozen
    have ll := b1.lt
    by_cases hbig : 256 < us.length
    · have HBIG := Lib.hid hbig
      clear hlen hSB hD b1 o1 rr1 ht
      go_wp2_with fail
      have b2 := HB1.out.set (.slice none 0 0)
      have hD2 : (B.setCell ⟨w.heap.size + 1, 0, none⟩ (.slice none 0 0)).heap[W3.heap.size]? = some (.deferred (some [])) := (Below.heap_setCell _ _ _ _ (by simp; omega)).trans HD.out
      have e1 := (Boxed.putObj (o' := .deferred none) b2 hD2 rfl).cell
      have hS := (HSB.out _ (Turn.setCell B (p := ⟨w.heap.size + 1, 0, none⟩) (.slice none 0 0) (.inr rfl))).putObj (D := W3.heap.size) (o' := .deferred none) (by omega)
      refine postM_mark (D := W3.heap.size) (v := .tuple #[.slice none 0 0, .int .i64 2]) (by rw [hz3, hz2]) hD2 (by simp [results, Try.results76, go_sem, e1]) ?_
      have hb := HBIG.out
      rw [HLEN.out] at hb
      exact ⟨_, [], [], by rw [tooMany, if_pos hb], by rw [AllR, List.length_map, if_pos hb], World.ownsRow_nil _ _ _ _, Rows.nil _ _, hS⟩
    · have hsel : ∀ x ∈ (smallF F ps.length (2 ^ ps.length)).map (selI ps), x.length ≤ 17592186044416 := by
        intro x hx
        obtain ⟨t, _, rfl⟩ := List.mem_map.1 hx
        have := selI_len ps t
        omega
      have HC := sortF_spec B (W3.heap.size + 2) _ us _ o1 rr1 (by rw [List.length_map, ← hlen]; omega) hsel
      have HBIG := Lib.hid hbig
      clear hlen hSB hD b1 o1 rr1 ht hsel
      go_wp2_with fail
      refine HC.mono ?_
      clear HC
      rintro e B2 ⟨rfl, us', xss', ho2, hr2, hp2, hs2, hg2⟩
      have hne2 : ∀ q, q < W3.heap.size + 2 → some q ≠ Value.ownBlock (.slice a1 us.length c1) := fun q hq e => by have := (own_base HO1.out e.symm).1; omega
      have b2 := Boxed.grownNe hg2 HB1.out (hne2 _ (by omega))
      have hDg := h_grown hg2 HD.out (hne2 _ (by omega))
      have T1 : Turn W3.heap.size (fun q => q = w.heap.size + 1) B B2 := Turn.grown hg2 (fun k hk => by have := (own_base HO1.out hk).1; omega) (by omega)
      have hzz := hg2.size
      have HDG := Lib.hid hDg
      have HB2 := Lib.hid b2
      have HO2 := Lib.hid ho2
      have HR2 := Lib.hid hr2
      have HP2 := Lib.hid hp2
      have HS2 := Lib.hid hs2
      have HT1 := Lib.hid T1
      have cl2 := b2.cell
      have fl2 := b2.frozen
      have ll2 := b2.lt
      clear cl fl ll hDg b2 ho2 hr2 hp2 hs2 T1 hg2
      go_wp2_with fail
      have b3 := HB2.out.set (.slice a1 us.length c1)
      have hD3 : (B2.setCell ⟨w.heap.size + 1, 0, none⟩ (.slice a1 us.length c1)).heap[W3.heap.size]? = some (.deferred (some [])) := (Below.heap_setCell _ _ _ _ (by simp; omega)).trans HDG.out
      have e1 := (Boxed.putObj (o' := .deferred none) b3 hD3 rfl).cell
      have hS := (HSB.out _ (HT1.out.trans (Turn.setCell B2 (p := ⟨w.heap.size + 1, 0, none⟩) (.slice a1 us.length c1) (.inr rfl)))).putObj (D := W3.heap.size) (o' := .deferred none) (by omega)
      have hK := (Calm.putObj (n := 0) (.deferred none) hD3 rfl (by omega)).keep
      have hfar : ∀ (v : Value) (cs : List Value) (e : TypeId), Own B2 (W3.heap.size + 2) e v cs → Own ((B2.setCell ⟨w.heap.size + 1, 0, none⟩ (.slice a1 us.length c1)).putObj W3.heap.size (.deferred none)) w.heap.size e v cs :=
        fun v cs e h => own_lower (own_keep hK (own_set h (by show w.heap.size + 1 < _; omega) _)) (by omega)
      refine postM_mark (D := W3.heap.size) (v := .tuple #[.slice a1 us.length c1, .int .i64 0]) (by rw [hz3, hz2]) hD3 (by simp [results, Try.results76, go_sem, e1]) ?_
      have hb := HBIG.out
      rw [HLEN.out] at hb
      exact ⟨_, us', xss', by rw [tooMany, if_neg hb], by rw [AllR, List.length_map, if_neg hb]; exact ⟨HP2.out, HS2.out⟩, hfar _ _ _ HO2.out, ⟨HR2.out.1, fun j h1 h2 => hfar _ _ _ (HR2.out.2 j h1 h2)⟩, hS⟩
  case stop =>
    rintro B h
    exact h.elim
end Go.Proofs.Ytmnpbopkhpbhiaa
