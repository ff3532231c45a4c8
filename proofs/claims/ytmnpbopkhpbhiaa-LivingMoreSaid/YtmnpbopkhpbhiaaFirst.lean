/- living.subsets, living.first. -/
import Derived.Test.YtmnpbopkhpbhiaaSubsets
set_option linter.unusedVariables false
set_option linter.unusedSimpArgs false
namespace Go.Proofs.Ytmnpbopkhpbhiaa
open Go.RowKit
set_option maxRecDepth 100000
attribute [local go_sem] Oper.semAt_some
theorem enters_subsets1 (args : Array Value) (w : World) : (callFunc 103 args).run Try.prog w = .ok (.enter 103 args) w :=
  enters_of Try.func103 (by kernel_rfl) rfl args w
theorem subsets_spec (w : World) (a : Option Addr) (n cap : Nat) :
    Calls Try.prog 60 #[.slice a n cap] w fun e w' => e = .returned (.func (.func 103) #[] #[ptr w.heap.size]) ∧ w.alloc (.cells #[.slice a n cap] 25) = w' := by
  go_enter Try.func60, Try.ntmps60
  go_wp2_with fail
  go_ret
  exact ⟨rfl, rfl⟩
theorem subsets_box (w : World) (a : Option Addr) (n cap : Nat) :
    Calls Try.prog 60 #[.slice a n cap] w fun e w' => ∃ b, e = .returned (.func (.func 103) #[] #[ptr b]) ∧ Boxed w' b 25 (.slice a n cap) ∧ Same w w' :=
  (subsets_spec w a n cap).mono fun _ _ h => ⟨_, h.1, by rw [← h.2]; exact Boxed.new _ _ _, by rw [← h.2]; exact (Same.refl w).alloc _⟩
theorem Ints.nil' (w : World) (c : Nat) : Ints w (.slice none 0 c) [] := ⟨none, c, rfl, by simp, by simp, fun i h => by simp at h⟩
theorem cell_far (w : World) (p a : Addr) (v : Value) (h : a.block ≠ p.block) : (w.setCell p v).cell? a = w.cell? a := by
  unfold World.cell?
  rw [Below.heap_setCell _ _ _ _ h]
/-- A store into a box that holds no int leaves a list of ints. -/
theorem Ints.setBox {A : World} {y : Value} {x : List Int} {b : Nat} {t : TypeId} {u0 : Value} (h : Ints A y x) (hb : Boxed A b t u0) (hu : ∀ i, u0 ≠ .int .i64 i) (u : Value) : Ints (A.setCell ⟨b, 0, none⟩ u) y x := by
  obtain ⟨a, c, e, h1, h2, hc⟩ := h
  refine ⟨a, c, e, h1, h2, fun i hi => ?_⟩
  obtain ⟨ad, v, ha, hv, hr⟩ := hc i hi
  refine ⟨ad, v, ha, ?_, hr⟩
  rw [cell_far]
  · exact hv
  · intro he
    unfold RInt at hr
    subst hr
    unfold World.cell? at hv
    have hb' : A.heap[(ad.add i).block]? = some (.cells #[u0] t (0, 0)) := by rw [he]; exact hb
    rw [hb'] at hv
    simp only at hv
    split at hv
    · cases hv
    · rcases Nat.eq_zero_or_pos (ad.add i).off with h0 | h0
      · rw [h0] at hv
        simp at hv
        exact hu _ hv
      · rw [Array.getElem?_eq_none (by simp; omega)] at hv
        cases hv
theorem find_prefix {α : Type} {p : α → Bool} {pr : List α} {x : α} {xs : List α} (h : pr ++ [x] <+: xs) (hn : ∀ z, z ∈ pr → p z = false) (hx : p x = true) : xs.find? p = some x := by
  obtain ⟨t, rfl⟩ := h
  rw [List.find?_append, List.find?_append, List.find?_eq_none.2 (fun z hz => by rw [hn z hz]; simp)]
  simp [hx]
set_option maxHeartbeats 2000000 in
theorem first_spec (w : World) (gf okf : Nat) (lb pre post : Array Value) (xs : List (List Int)) (ok : List Int → Bool)
    (eg : ∀ args w, (callFunc gf args).run Try.prog w = .ok (.enter gf args) w) (eo : ∀ args w, (callFunc okf args).run Try.prog w = .ok (.enter okf args) w)
    (hseq : ∀ W3, Same w W3 → W3.heap.size = w.heap.size + 1 + 1 + 1 → SeqOf Try.prog gf lb RSet xs (fun q => q = w.heap.size + 1 ∨ q = w.heap.size + 1 + 1) W3)
    (hok : ∀ A y x, x ∈ xs → Below w.heap.size w A → Ints A y x → Calls Try.prog okf (pre ++ #[y] ++ post) A fun e w' => e = .returned (.bool (ok x)) ∧ Same A w') :
    Calls Try.prog 59 #[.func (.func gf) #[] lb, .func (.func okf) pre post] w fun e w' =>
      ∃ v, e = .returned (.tuple #[v, .bool (xs.find? ok).isSome]) ∧ Ints w' v ((xs.find? ok).getD []) ∧ Same w w' := by
  obtain ⟨W3, hW3⟩ : ∃ W3, W3 = ((w.alloc (.cells #[.func (.func okf) pre post] 57)).alloc (.cells #[.slice none 0 0] 25)).alloc (.cells #[.bool false] 4) := ⟨_, rfl⟩
  have hz3 : W3.heap.size = w.heap.size + 1 + 1 + 1 := by rw [hW3]; simp
  have hS3 : Same w W3 := by rw [hW3]; exact (((Same.refl w).alloc _).alloc _).alloc _
  have bo : Boxed W3 w.heap.size 57 (.func (.func okf) pre post) := by rw [hW3]; exact ((Boxed.new _ _ _).alloc _).alloc _
  have bx : Boxed W3 (w.heap.size + 1) 25 (.slice none 0 0) := by
    rw [hW3]; have := Boxed.new (w.alloc (.cells #[.func (.func okf) pre post] 57)) 25 (.slice none 0 0)
    rw [World.size_alloc] at this; exact this.alloc _
  have bm : Boxed W3 (w.heap.size + 1 + 1) 4 (.bool false) := by
    rw [hW3]; have := Boxed.new ((w.alloc (.cells #[.func (.func okf) pre post] 57)).alloc (.cells #[.slice none 0 0] 25)) 4 (.bool false)
    rw [World.size_alloc, World.size_alloc] at this; exact this
  have HSEQ := Lib.hid (hseq W3 hS3 hz3)
  have HOK := Lib.hid hok
  have HW3 := Lib.hid hW3
  have HZ := Lib.hid hz3
  clear hseq hok hW3 hz3
  refine calls_of_marks Try.func59 rfl ?_
  simp only [Try.ntmps59, List.size_toArray, List.length_cons, List.length_nil, Nat.reduceAdd, Nat.reduceSub, Array.replicate_succ, Array.replicate_zero, List.push_toArray, List.append_toArray, List.nil_append, List.cons_append]
  go_wp2_with fail
  rw [← HW3.out]
  refine wp_range (M := fun q => q = w.heap.size + 1 ∨ q = w.heap.size + 1 + 1) gf lb rfl eg HSEQ.out (fun _ _ _ h => by obtain ⟨u, rfl, _⟩ := h; rfl) (fun q hq => by have := HZ.out; omega)
    (fun pre A => (∀ x, x ∈ pre → ok x = false) ∧ Boxed A (w.heap.size + 1) 25 (.slice none 0 0) ∧ Boxed A (w.heap.size + 1 + 1) 4 (.bool false) ∧ Turn W3.heap.size (fun q => q = w.heap.size + 1 ∨ q = w.heap.size + 1 + 1) W3 A)
    (fun A => ∃ x v, xs.find? ok = some x ∧ Ints A v x ∧ Boxed A (w.heap.size + 1) 25 v ∧ Boxed A (w.heap.size + 1 + 1) 4 (.bool true) ∧ Turn W3.heap.size (fun q => q = w.heap.size + 1 ∨ q = w.heap.size + 1 + 1) W3 A)
    (fun pre => (stable_pure _ _).and ((stable_boxed _ _ _ _).and ((stable_boxed _ _ _ _).and (stable_turn _ _ _))))
    (fun A B h hs hc => by
      obtain ⟨x, v, h1, h2, h3, h4, h5⟩ := h
      exact ⟨x, v, h1, h2.keep hc.keep, stable_boxed _ _ _ _ A B h3 hs hc, stable_boxed _ _ _ _ A B h4 hs hc, stable_turn _ _ _ A B h5 hs hc⟩)
    ⟨by simp, bx, bm, Turn.refl _ _ _⟩ ?round ?done ?stop
  case round =>
    rintro y pr x A args hy1 hy2 hpre ⟨hno, b1, b2, ht⟩ ⟨u, rfl, hu⟩ hsz
    obtain ⟨au, nu, cu, rfl⟩ : ∃ au nu cu, u = .slice au nu cu := by obtain ⟨a, c, e, _⟩ := hu; exact ⟨a, _, c, e⟩
    have HU := Lib.hid hu
    have HNO := Lib.hid hno
    clear hu hno
    gi_wp2_with fail
    refine ⟨Calm.refl _ _, fun A2 hcA hzA => ?_⟩
    have b12 : Boxed A2 (w.heap.size + 1) 25 (.slice none 0 0) := hcA.same _ _ b1 rfl
    have b22 : Boxed A2 (w.heap.size + 1 + 1) 4 (.bool false) := hcA.same _ _ b2 rfl
    have ht2 := ht.trans (hcA.turn (M := fun q => q = w.heap.size + 1 ∨ q = w.heap.size + 1 + 1))
    have bo2 : Boxed A2 w.heap.size 57 (.func (.func okf) pre post) := by
      have := bo.lt
      have h2 := ht2.same w.heap.size this (by omega)
      have bq := bo
      unfold Boxed at bq ⊢
      rw [h2]
      exact bq
    have hxm : x ∈ xs := hpre.subset (by simp)
    have hBl : Below w.heap.size w A2 := hS3.out.trans (ht2.below (by have := HZ.out; omega) (by intro q hq; omega))
    have hc := HOK.out A2 (.slice au nu cu) x hxm hBl (HU.out.keep hcA.keep)
    have co := bo2.cell
    have lo := bo2.lt
    have hzw : W3.heap.size + 2 ≤ A2.heap.size := by omega
    have HZW := Lib.hid hzw
    clear hzw hsz
    gi_wp2_with fail
    refine ⟨trivial, rfl, CallsIn.mono (CallsIn.inRound _ (callsIn_wide.2 hc)) ?_⟩
    clear hc
    rintro e A3 ⟨rfl, hs⟩
    have hc3 : Calm (W3.heap.size + 2) A2 A3 := hs.calm HZW.out
    have b13 : Boxed A3 (w.heap.size + 1) 25 (.slice none 0 0) := Boxed.same hs b12
    have b23 : Boxed A3 (w.heap.size + 1 + 1) 4 (.bool false) := Boxed.same hs b22
    have ht3 := ht2.trans ((hc3.mono (by omega)).turn (M := fun q => q = w.heap.size + 1 ∨ q = w.heap.size + 1 + 1))
    cases hx : ok x with
    | true =>
      have f1 := b13.frozen
      have l1 := b13.lt
      have c1 := b13.cell
      have f2 := b23.frozen
      have l2 := b23.lt
      have c2 := b23.cell
      have HX := Lib.hid hx
      clear hx
      have hu3 : Ints A3 (.slice au nu cu) x := (HU.out.keep hcA.keep).keep hs.keep
      have HU3 := Lib.hid hu3
      clear hu3
      gi_wp2_with fail
      have T1 := Turn.setCell (n := W3.heap.size + 2) (M := fun q => q = w.heap.size + 1 ∨ q = w.heap.size + 1 + 1) A3 (p := ⟨w.heap.size + 1, 0, none⟩) (.slice au nu cu) (.inr (.inl rfl))
      have T2 := Turn.setCell (n := W3.heap.size + 2) (M := fun q => q = w.heap.size + 1 ∨ q = w.heap.size + 1 + 1) (A3.setCell ⟨w.heap.size + 1, 0, none⟩ (.slice au nu cu)) (p := ⟨w.heap.size + 1 + 1, 0, none⟩) (.bool true) (.inr (.inr rfl))
      have b24 := b23.other (B' := w.heap.size + 1) (by omega) (.slice au nu cu)
      refine ⟨hc3.turn.trans (T1.trans T2), x, .slice au nu cu, find_prefix hpre HNO.out HX.out, ?_, (b13.set _).other (by omega) _, b24.set _, ht3.trans ((T1.trans T2).mono (by omega) (fun _ h => h))⟩
      exact (HU3.out.setBox b13 (fun i h => by cases h) _).setBox b24 (fun i h => by cases h) _
    | false =>
      have HX := Lib.hid hx
      clear hx
      gi_wp2_with fail
      refine ⟨hc3.turn, ?_, b13, b23, ht3⟩
      intro z hz
      rcases List.mem_append.1 hz with h | h
      · exact HNO.out z h
      · obtain rfl := List.mem_singleton.1 h
        exact HX.out
  case done =>
    rintro B ⟨hno, b1, b2, ht⟩ hD hzB
    have c1 := b1.cell
    have f1 := b1.frozen
    have l1 := b1.lt
    have c2 := b2.cell
    have f2 := b2.frozen
    have l2 := b2.lt
    have HD := Lib.hid hD
    have HNO := Lib.hid hno
    clear hD hno
    go_wp2_with fail
    have b24 := b2.other (B' := w.heap.size + 1) (by omega) (.slice none 0 0)
    have b25 := b24.set (.bool false)
    have b15 := (b1.set (.slice none 0 0)).other (B' := w.heap.size + 1 + 1) (by omega) (.bool false)
    have T1 := Turn.setCell (n := W3.heap.size) (M := fun q => q = w.heap.size + 1 ∨ q = w.heap.size + 1 + 1) B (p := ⟨w.heap.size + 1, 0, none⟩) (.slice none 0 0) (.inr (.inl rfl))
    have T2 := Turn.setCell (n := W3.heap.size) (M := fun q => q = w.heap.size + 1 ∨ q = w.heap.size + 1 + 1) (B.setCell ⟨w.heap.size + 1, 0, none⟩ (.slice none 0 0)) (p := ⟨w.heap.size + 1 + 1, 0, none⟩) (.bool false) (.inr (.inr rfl))
    have hz3 := HZ.out
    have hD2 : ((B.setCell ⟨w.heap.size + 1, 0, none⟩ (.slice none 0 0)).setCell ⟨w.heap.size + 1 + 1, 0, none⟩ (.bool false)).heap[W3.heap.size]? = some (.deferred (some [])) :=
      (Below.heap_setCell _ _ _ _ (by simp; omega)).trans ((Below.heap_setCell _ _ _ _ (by simp; omega)).trans HD.out)
    have e1 := (Boxed.putObj (o' := .deferred none) b15 hD2 rfl).cell
    have e2 := (Boxed.putObj (o' := .deferred none) b25 hD2 rfl).cell
    have hSB : Same w (((B.setCell ⟨w.heap.size + 1, 0, none⟩ (.slice none 0 0)).setCell ⟨w.heap.size + 1 + 1, 0, none⟩ (.bool false)).putObj W3.heap.size (.deferred none)) :=
      Same.putObj ⟨hS3.out.trans ((ht.trans (T1.trans T2)).below (by omega) (by intro q hq; omega))⟩ (by omega)
    have hnone : xs.find? ok = none := List.find?_eq_none.2 (fun z hz => by rw [HNO.out z hz]; simp)
    refine postM_mark (D := W3.heap.size) (v := .tuple #[.slice none 0 0, .bool false]) rfl hD2 (by simp [results, Try.results59, go_sem, e1, e2]) ⟨_, by rw [hnone]; rfl, by rw [hnone]; exact Ints.nil' _ _, hSB⟩
  case stop =>
    rintro B ⟨x, v, hf, hv, b1, b2, ht⟩ hD hzB
    have hz3 := HZ.out
    have e1 := (Boxed.putObj (o' := .deferred none) b1 hD rfl).cell
    have e2 := (Boxed.putObj (o' := .deferred none) b2 hD rfl).cell
    have hSB : Same w (B.putObj W3.heap.size (.deferred none)) := Same.putObj ⟨hS3.out.trans (ht.below (by omega) (by intro q hq; omega))⟩ (by omega)
    have hv' : Ints (B.putObj W3.heap.size (.deferred none)) v x := by
      refine hv.keep (Calm.putObj (n := 0) _ hD rfl (by omega)).keep
    simp only [Exit.inBlock, Exit.then]
    refine postM_mark (D := W3.heap.size) (v := .tuple #[v, .bool true]) rfl hD (by simp [results, Try.results59, go_sem, e1, e2]) ⟨_, by rw [hf]; rfl, by rw [hf]; exact hv', hSB⟩
/-- first(subsets(own), ok), behind the call of subsets. -/
theorem first_subsets (W : World) (b : Nat) (a : Option Addr) (n c : Nat) (own : List Int) (okf : Nat) (pre post : Array Value) (ok : List Int → Bool) (hb : Boxed W b 25 (.slice a n c)) (hown : Ints W (.slice a n c) own) (hn : own.length ≤ 12)
    (eo : ∀ args w, (callFunc okf args).run Try.prog w = .ok (.enter okf args) w) (hok : ∀ A y x, Same W A → Ints A y x → Calls Try.prog okf (pre ++ #[y] ++ post) A fun e w' => e = .returned (.bool (ok x)) ∧ Same A w') :
    Calls Try.prog 59 #[.func (.func 103) #[] #[ptr b], .func (.func okf) pre post] W fun e w' =>
      ∃ v, e = .returned (.tuple #[v, .bool ((allSubs own).find? ok).isSome]) ∧ Ints w' v (((allSubs own).find? ok).getD []) ∧ Same W w' := by
  refine first_spec W 103 okf #[ptr b] pre post (allSubs own) ok enters_subsets1 eo ?_ ?_
  · intro W3 hS hz
    have hlt := hb.lt
    refine subsets1_seq W W3 own (.slice a n c) b _ hown hn hS.keep (Boxed.same hS hb) ?_
    intro k hk
    have hk' : k = W.heap.size + 1 ∨ k = W.heap.size + 1 + 1 := hk
    omega
  · intro A y x _ hB hy
    exact hok A y x ⟨hB⟩ hy
end Go.Proofs.Ytmnpbopkhpbhiaa
