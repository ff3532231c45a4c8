/- minimal.ask: a question of a formula. -/
import Derived.Test.YtmnpbopkhpbhiaaMinEval
import Derived.Test.YtmnpbopkhpbhiaaRefSmall
import Derived.IntWalk
import Derived.Test.YtmnpbopkhpbhiaaPlainPuts
set_option linter.unusedVariables false
set_option linter.unusedSimpArgs false
namespace Go.Proofs.Ytmnpbopkhpbhiaa
open Go.RowKit
set_option maxRecDepth 100000
/-- The function value f knows what F says of each set below N. -/
def Knows (W : World) (f : Value) (N : Nat) (F : Nat → Bool) : Prop :=
  ∃ B ad c, f = .func (.func 117) #[] #[ptr B] ∧ Boxed W B 124 (.slice (some ad) N c) ∧ N ≤ c ∧ ∀ s, s < N → W.cell? (ad.add s) = some (.bool (F s))
theorem Knows.keep {w W : World} (h : Keep w W) {f : Value} {N : Nat} {F : Nat → Bool} (hk : Knows w f N F) : Knows W f N F := by
  obtain ⟨B, ad, c, e, hb, hc, hs⟩ := hk
  exact ⟨B, ad, c, e, h.same _ _ hb rfl, hc, fun s hl => h.cell (hs s hl)⟩
/-- A question: the people, all of them as a set, what holds. -/
def IsQ (W : World) (ps : List Int) (F : Nat → Bool) (v : Value) : Prop :=
  ∃ a c f, v = .agg #[.slice a ps.length c, .int .u64 ((2 ^ ps.length - 1 : Nat) : Int), f] ∧ Ints W (.slice a ps.length c) ps ∧ ps.length ≤ 12 ∧ Knows W f (2 ^ ps.length) F
theorem IsQ.keep {w W : World} (h : Keep w W) {ps : List Int} {F : Nat → Bool} {v : Value} (hk : IsQ w ps F v) : IsQ W ps F v := by
  obtain ⟨a, c, f, e, h1, h2, h3⟩ := hk
  exact ⟨a, c, f, e, h1.keep h, h2, h3.keep h⟩
theorem enters_known : ∀ args w, (callFunc 117 args).run Try.prog w = .ok (.enter 117 args) w :=
  enters_of Try.func117 (by kernel_rfl) rfl
theorem known_spec (W : World) (B N : Nat) (ad : Addr) (c s : Nat) (F : Nat → Bool) (hb : Boxed W B 124 (.slice (some ad) N c)) (hN : N ≤ 4096) (hs : s < N) (hc : W.cell? (ad.add s) = some (.bool (F s))) :
    Calls Try.prog 117 #[.int .u64 s, ptr B] W fun e w' => e = .returned (.bool (F s)) ∧ W = w' := by
  have c1 := hb.cell
  have l1 := hb.lt
  have z0 : (0 : Int) ≤ (s : Int) := by omega
  have z1 : (s : Int) < (N : Int) := by omega
  generalize F s = b at *
  go_enter Try.func117, Try.ntmps117
  go_wp2_with fail
  go_ret
  exact ⟨rfl, rfl⟩
theorem Rec.set3 {w : World} {b : Nat} {t : TypeId} {c0 c1 c2 : Value} (h : Rec w b t #[c0, c1, c2]) (u0 u1 u2 : Value) :
    Rec (((w.setCell ⟨b, 0, none⟩ u0).setCell ⟨b, 1, none⟩ u1).setCell ⟨b, 2, none⟩ u2) b t #[u0, u1, u2] := by
  simpa using ((h.set 0 u0).set 1 u1).set 2 u2
theorem Same.set3 {w W : World} (h : Same w W) {b : Nat} (hb : w.heap.size ≤ b) (u0 u1 u2 : Value) :
    Same w (((W.setCell ⟨b, 0, none⟩ u0).setCell ⟨b, 1, none⟩ u1).setCell ⟨b, 2, none⟩ u2) :=
  ((h.setCell (p := ⟨b, 0, none⟩) hb u0).setCell (p := ⟨b, 1, none⟩) hb u1).setCell (p := ⟨b, 2, none⟩) hb u2
/-- What the question of g is about. -/
def Gt.qF (g : Gt) (s : Nat) : Bool := g.holds (selI g.rpeople s)
theorem zero_bool (w : World) : (zeroValue 4).run Try.prog w = .ok (.bool false) w := by kernel_rfl
theorem info_bool : (Try.prog.info? 4).map (fun i => (i.zero, i.size, i.bytes)) = some (some (.bool false), 1, 1) := by kernel_rfl
theorem Boxed.grownNe {w W : World} {row : Option Nat} (hg : w.grownBy W row) {b : Nat} {t : TypeId} {v : Value} (hb : Boxed w b t v) (hne : some b ≠ row) : Boxed W b t v := h_grown hg hb hne
/-- The answers for the sets below j, the others not yet. -/
def kn (F : Nat → Bool) (N j : Nat) : List Value := (List.range N).map fun s => .bool (decide (s < j) && F s)
theorem kn_zero (F : Nat → Bool) (N : Nat) : kn F N 0 = List.replicate N (.bool false) := by
  rw [kn, List.eq_replicate_iff]
  refine ⟨by simp, fun b hb => ?_⟩
  obtain ⟨s, _, rfl⟩ := List.mem_map.1 hb
  simp
theorem kn_len (F : Nat → Bool) (N j : Nat) : (kn F N j).length = N := by simp [kn]
theorem kn_set (F : Nat → Bool) (N j : Nat) (hj : j < N) : (kn F N j).set j (.bool (F j)) = kn F N (j + 1) := by
  refine List.ext_getElem (by simp [kn]) fun i h1 h2 => ?_
  rw [List.getElem_set]
  simp only [kn, List.getElem_map, List.getElem_range]
  by_cases e : j = i
  · subst e; simp
  · rw [if_neg e]
    have : decide (i < j) = decide (i < j + 1) := by rw [decide_eq_decide]; omega
    rw [this]
theorem kn_get (F : Nat → Bool) (N j : Nat) (hj : j < N) : (kn F N N)[j]? = some (.bool (F j)) := by
  simp [kn, hj]
theorem known_made {w : World} {F : Nat → Bool} {N K : Nat} (h : w.ownsRow 0 4 1 (.slice (some ⟨K, 0, none⟩) N N) N (madeCells #[.bool false] N).toList) :
    w.ownsRow 0 4 1 (.slice (some ⟨K, 0, none⟩) N N) N (kn F N 0) := by
  rw [toList_madeCells_one, ← kn_zero F N] at h
  exact h
theorem known_keep {w W : World} {F : Nat → Bool} {N K j : Nat} (hs : Same w W) (h : w.ownsRow 0 4 1 (.slice (some ⟨K, 0, none⟩) N N) N (kn F N j)) :
    W.ownsRow 0 4 1 (.slice (some ⟨K, 0, none⟩) N N) N (kn F N j) := by
  have h2 : Own w 0 4 (.slice (some ⟨K, 0, none⟩) N N) (kn F N j) := by unfold Own; rw [kn_len]; exact h
  have h3 := own_keep hs.keep h2
  unfold Own at h3
  rw [kn_len] at h3
  exact h3
theorem far3 (W : World) (b : Nat) (p : Addr) (hp : p.block ≠ b) (u0 u1 u2 : Value) :
    ((((W.setCell ⟨b, 0, none⟩ u0).setCell ⟨b, 1, none⟩ u1).setCell ⟨b, 2, none⟩ u2).drew).cell? p = W.cell? p :=
  (cell_far (((W.setCell ⟨b, 0, none⟩ u0).setCell ⟨b, 1, none⟩ u1)) ⟨b, 2, none⟩ p u2 hp).trans ((cell_far _ ⟨b, 1, none⟩ p u1 hp).trans (cell_far _ ⟨b, 0, none⟩ p u0 hp))
/-- What leaves all blocks but one that holds no int leaves a list of ints. -/
theorem Ints.far {A B : World} {y : Value} {x : List Int} {b : Nat} {t : TypeId} {cs : Array Value} (h : Ints A y x) (hr : Rec A b t cs) (hu : ∀ (i : Nat) (j : Int), cs[i]? ≠ some (Value.int .i64 j)) (hf : ∀ p : Addr, p.block ≠ b → B.cell? p = A.cell? p) : Ints B y x := by
  obtain ⟨a, c, e, h1, h2, hc⟩ := h
  refine ⟨a, c, e, h1, h2, fun i hi => ?_⟩
  obtain ⟨ad, v, ha, hv, hx⟩ := hc i hi
  refine ⟨ad, v, ha, ?_, hx⟩
  rw [hf]
  · exact hv
  · intro he
    unfold RInt at hx
    subst hx
    unfold World.cell? at hv
    have hb' : A.heap[(ad.add i).block]? = some (.cells cs t (0, 0)) := by rw [he]; exact hr
    rw [hb'] at hv
    simp only at hv
    split at hv
    · cases hv
    · exact hu _ _ hv
set_option maxHeartbeats 8000000 in
theorem ask_spec (w : World) (g : Gt) (val : Value) (hg : IsG w g val) :
    Calls Try.prog 75 #[val] w fun e w' => ∃ q, e = .returned (.tuple #[q, .int .i64 g.rerr]) ∧ (∃ a b c n f, q = .agg #[.slice a b c, .int .u64 n, f] ∧ (f = .nilFunc ∨ ∃ k fst lb, f = .func k fst lb)) ∧ (g.rerr = 0 → IsQ w' g.rpeople g.qF q) ∧ Same w w' := by
  obtain ⟨vg, rfl, hat⟩ := hg
  obtain ⟨a, n, c, rfl⟩ := hat.form
  obtain ⟨w1, hW1⟩ : ∃ w1, w1 = (w.alloc (.cells #[.int .i64 g.p, .int .i64 g.n, .slice a n c] 24)).alloc (.cells #[.slice none 0 0, .int .u64 0, .nilFunc] 87) := ⟨_, rfl⟩
  have hS1 : Same w w1 := by rw [hW1]; exact ((Same.refl w).alloc _).alloc _
  have hr1 : Rec w1 w.heap.size 24 #[.int .i64 g.p, .int .i64 g.n, .slice a n c] := by rw [hW1]; exact h_old (h_new _ _) _
  have hr2 : Rec w1 (w.heap.size + 1) 87 #[.slice none 0 0, .int .u64 0, .nilFunc] := by rw [hW1]; exact h_new' _ (by simp)
  have HG := Lib.hid fun W (h : Same w W) => (⟨_, rfl, hat.keep h.keep⟩ : IsG W g (.agg #[.int .i64 g.p, .int .i64 g.n, .slice a n c]))
  have HC := check_spec w1 g _ (HG.out w1 hS1)
  rw [← check_eq] at HC
  have hrr : g.rerr = if g.rcheck ≠ 0 then g.rcheck else if 12 < g.rpeople.length then 2 else 0 := rfl
  have HRR := Lib.hid hrr
  have hrc : g.rcheck = 0 → g.right = true ∧ g.ppl.length ≤ 256 := fun h => ⟨rcheck_right h, ppl_check h⟩
  have HRC := Lib.hid hrc
  have HW1 := Lib.hid hW1
  rw [hW1] at HC
  clear hW1 hat hrr hrc
  generalize g.rcheck = rc at *
  go_enter Try.func75, Try.ntmps75
  go_wp2_with fail
  refine HC.mono ?_
  clear HC
  rintro e w2 ⟨rfl, hd2⟩
  rw [← HW1.out] at hd2
  have hs2 := hS1.trans hd2
  have r1 := Rec.same hd2 hr1
  have r2 := Rec.same hd2 hr2
  have q0 := r1.cell 0
  have q1 := r1.cell 1
  have q2 := r1.cell 2
  have l1 := r1.lt
  have t0 := r2.cell 0
  have t1 := r2.cell 1
  have t2 := r2.cell 2
  have l2 := r2.lt
  have f0 := r2.frozen 0
  have f1 := r2.frozen 1
  have f2 := r2.frozen 2
  simp at q0 q1 q2 t0 t1 t2
  by_cases hc : rc = 0
  · subst hc
    obtain ⟨hright, hppl⟩ := HRC.out rfl
    have HC := mgather_all (SizeOf.sizeOf g + 1) g w2 _ (by omega) (HG.out w2 hs2) (by omega)
    have HPP := Lib.hid hppl
    clear hppl t0 t1 t2 f0 f1 f2
    go_wp2_with fail
    refine HC.mono ?_
    clear HC q0 q1 q2
    rintro e w3 ⟨v3, rfl, ho3, hd3⟩
    obtain ⟨a3, n3, c3, rfl, hn3⟩ := ho3.slice
    have hs3 := hs2.trans hd3
    have r1 := Rec.same hd3 r1
    have r2 := Rec.same hd3 r2
    obtain ⟨w4, hW4⟩ : ∃ w4, w4 = w3.alloc (.cells #[.slice a3 n3 c3] 25) := ⟨_, rfl⟩
    have hd4 : Same w3 w4 := by rw [hW4]; exact (Same.refl _).alloc _
    have hs4 := hs3.trans hd4
    have b4 : Boxed w4 w3.heap.size 25 (.slice a3 n3 c3) := by rw [hW4]; exact Boxed.new _ _ _
    have ho4 := own_keep hd4.keep ho3
    have hrow : ∀ q, Value.ownBlock (.slice a3 n3 c3) = some q → w2.heap.size ≤ q ∧ q < w3.heap.size := fun q hq => own_base ho3 hq
    have HC := sort_spec w4 w2.heap.size _ g.ppl ho4 (by have := HPP.out; omega)
    have HW4 := Lib.hid hW4
    have HROW := Lib.hid hrow
    have hz4 : w4.heap.size = w3.heap.size + 1 := by rw [hW4]; simp
    have HZ4 := Lib.hid hz4
    rw [hW4] at HC
    clear hW4 hn3 ho3 ho4 hrow hz4
    go_wp2_with fail
    refine HC.mono ?_
    clear HC
    rintro e w5 ⟨rfl, ho5, hg5⟩
    rw [← HW4.out] at hg5
    have r1 := Rec.grown hg5 (Rec.same hd4 r1) (by intro e; have := HROW.out _ e.symm; omega)
    have r2 := Rec.grown hg5 (Rec.same hd4 r2) (by intro e; have := HROW.out _ e.symm; omega)
    have b5 := Boxed.grownNe hg5 b4 (by intro e; have := HROW.out _ e.symm; omega)
    have hs5 := Same.grown hs4 hg5 (fun q hq => by have := HROW.out q hq; have := hs2.size; omega)
    have HC := compact_spec w5 w2.heap.size _ (sorted g.ppl) ho5 (by rw [sorted_length]; have := HPP.out; omega)
    rw [compact_puts, show puts [] g.ppl = g.rpeople from rfl] at HC
    have cb5 := b5.cell
    have lb5 := b5.lt
    clear ho5
    go_wp2_with fail
    refine HC.mono ?_
    clear HC cb5 lb5
    rintro e w6 ⟨v6, rfl, hi6, hg6⟩
    obtain ⟨a6, n6, c6, rfl, hn6⟩ := hi6.slice
    have r1 := Rec.grown hg6 r1 (by intro e; have := HROW.out _ e.symm; omega)
    have r2 := Rec.grown hg6 r2 (by intro e; have := HROW.out _ e.symm; omega)
    have b6 := Boxed.grownNe hg6 b5 (by intro e; have := HROW.out _ e.symm; omega)
    have hs6 := Same.grown hs5 hg6 (fun q hq => by have := HROW.out q hq; have := hs2.size; omega)
    have cb6 := b6.cell
    have lb6 := b6.lt
    have fb6 := b6.frozen
    have HI6 := Lib.hid hi6
    have hi7 := Ints.setBox hi6 b6 (fun i h => by cases h) (.slice a6 n6 c6)
    have HI7 := Lib.hid hi7
    have HN6 := Lib.hid hn6
    clear hi6 hn6 hi7
    have hne1 : w.heap.size ≠ w3.heap.size := by have := hd3.size; omega
    have hne2 : w.heap.size + 1 ≠ w3.heap.size := by have := hd3.size; omega
    have rr1 := Rec.other r1 (p := ⟨w3.heap.size, 0, none⟩) hne1 (.slice a6 n6 c6)
    have rr2 := Rec.other r2 (p := ⟨w3.heap.size, 0, none⟩) hne2 (.slice a6 n6 c6)
    have rb7 : Rec (w6.setCell ⟨w3.heap.size, 0, none⟩ (.slice a6 n6 c6)) w3.heap.size 25 #[.slice a6 n6 c6] := by simpa using Rec.set (show Rec w6 w3.heap.size 25 #[.slice a3 n3 c3] from b6) 0 (.slice a6 n6 c6)
    have hS7 : Same w (w6.setCell ⟨w3.heap.size, 0, none⟩ (.slice a6 n6 c6)) := hs6.setCell (p := ⟨w3.heap.size, 0, none⟩) (by have := hs3.size; exact this) _
    have t0 := rr2.cell 0
    have t1 := rr2.cell 1
    have t2 := rr2.cell 2
    have t3 := rr2.lt
    have f0 := rr2.frozen 0
    have f1 := rr2.frozen 1
    have f2 := rr2.frozen 2
    have u0 := rr1.cell 0
    have u1 := rr1.cell 1
    have u2 := rr1.cell 2
    have u3 := rr1.lt
    have p0 := rb7.cell 0
    have p1 := rb7.lt
    simp at t0 t1 t2 t3 u0 u1 u2 u3 p0 p1
    by_cases h12 : 12 < n6
    · have hr2 : g.rerr = 2 := by rw [HRR.out]; simp only [ne_eq, not_true_eq_false, if_false]; rw [if_pos (by rw [← HN6.out]; exact h12)]
      have HR2 := Lib.hid hr2
      have RR2 := Lib.hid rr2
      have HS7 := Lib.hid hS7
      clear hr2 rr1 rr2 rb7 hS7
      go_wp2_with fail
      have r3 := RR2.out.set3 (.slice none 0 0) (.int .u64 0) .nilFunc
      have e0 := r3.cell 0
      have e1 := r3.cell 1
      have e2 := r3.cell 2
      simp at e0 e1 e2
      refine bodyPost_ret (v := .tuple #[.agg #[.slice none 0 0, .int .u64 0, .nilFunc], .int .i64 2]) (by simp [results, Try.results75, go_sem, e0, e1, e2]) rfl ?_
      exact ⟨_, by rw [HR2.out], ⟨_, _, _, _, _, rfl, .inl rfl⟩, (fun h => by rw [HR2.out] at h; cases h), HS7.out.set3 (by omega) _ _ _⟩
    · obtain ⟨N, hN⟩ : ∃ N : Nat, N = 2 ^ n6 := ⟨_, rfl⟩
      have hN1 : 1 ≤ N := by rw [hN]; exact Nat.one_le_two_pow
      have hN2 : N ≤ 4096 := by rw [hN]; exact (Nat.pow_le_pow_right (by omega) (by omega) : 2 ^ n6 ≤ 2 ^ 12)
      have hpow : (2 : Int) ^ n6 = (N : Int) := by rw [hN]; simp
      obtain ⟨w7, hW7⟩ : ∃ w7, w7 = w6.setCell ⟨w3.heap.size, 0, none⟩ (.slice a6 n6 c6) := ⟨_, rfl⟩
      rw [← hW7] at rr1 rr2 rb7 hS7
      obtain ⟨w8, hW8⟩ : ∃ w8, w8 = w7.alloc (.cells #[.func (.func 115) #[] #[ptr w3.heap.size, ptr w6.heap.size]] 122) := ⟨_, rfl⟩
      have hsz7 : w7.heap.size = w6.heap.size := by rw [hW7]; simp
      have hS78 : Same w7 w8 := by rw [hW8]; exact (Same.refl _).alloc _
      have hbe8 : Boxed w8 w6.heap.size 122 (.func (.func 115) #[] #[ptr w3.heap.size, ptr w6.heap.size]) := by
        rw [hW8, ← hsz7]; exact Boxed.new _ _ _
      have hbp8 : Boxed w8 w3.heap.size 25 (.slice a6 n6 c6) := Boxed.same hS78 rb7
      have hi8 : Ints w8 (.slice a6 n6 c6) g.rpeople := by have h := HI7.out; rw [← hW7] at h; exact h.keep hS78.keep
      have hev := fun (W : World) (s : Nat) (h : Same w8 W) (hs : s < 4096) => eval_all (SizeOf.sizeOf g + 1) g W _ (.slice a6 n6 c6) w3.heap.size w6.heap.size g.rpeople s (by omega) (IsG.keep h.keep (HG.out w8 (hS7.trans hS78))) (fun p hp => (rpeople_mem g p).2 hp) (puts_nodup g.ppl) (by rw [← HN6.out]; omega) hs (Boxed.same h hbp8) (hi8.keep h.keep) (Boxed.same h hbe8)
      have HEV := Lib.hid hev
      have hG8 := HG.out w8 (hS7.trans hS78)
      have hr28 := Rec.same hS78 rr2
      have hr18 := Rec.same hS78 rr1
      have hsz8 : w8.heap.size = w7.heap.size + 1 := by rw [hW8]; simp
      have HW7 := Lib.hid hW7
      have HW8 := Lib.hid hW8
      have RR1 := Lib.hid rr1
      have RR2 := Lib.hid rr2
      have RB7 := Lib.hid rb7
      have HS7 := Lib.hid hS7
      have HN := Lib.hid hN
      have HX := Lib.hid (And.intro hS78 (And.intro hbe8 (And.intro hbp8 (And.intro hG8 (And.intro hr18 hr28)))))
      have HSZ := Lib.hid (And.intro hsz7 hsz8)
      obtain ⟨ib, hib, hibz, hibs, hibb⟩ := info_parts info_bool
      clear hi8 hev rr1 rr2 rb7 hS7 hN hW7 hW8 hS78 hbe8 hbp8 hG8 hr28 hr18 hsz7 hsz8
      go_wp2_with (at_make; refine wpList_make_full _ rfl _ _ 124 rfl 0 4 ib (.bool false) 1 Try.underlying124 hib hibz hibs _ _ _ _ N rfl rfl rfl rfl (by rw [hibb]; omega) (by rw [maxLen]; omega) (Nat.zero_le _) ?_)
      intro w9 ho9 hg9
      rw [← HW7.out, ← HW8.out] at hg9
      have HO9 := Lib.hid ho9
      have HG9 := Lib.hid hg9
      clear ho9 hg9
      go_wp2_with fail
      have hLO := HG9.out.size
      have hKlt : w6.heap.size + 1 < w9.heap.size := (HO9.out.lt _ rfl).2
      have hz8 := HSZ.out.2
      have hz7 := HSZ.out.1
      have hs89 : Same w8 w9 := Same.grown (Same.refl _) HG9.out (fun q hq => by cases hq)
      go_loopw [7, 31] (fun _ i wr => ∃ j : Nat, j ≤ N ∧ i = .int .i64 j ∧ Same w8 wr ∧ Boxed wr w9.heap.size 124 (.slice (some ⟨w6.heap.size + 1, 0, none⟩) N N) ∧ Hid (wr.ownsRow 0 4 1 (.slice (some ⟨w6.heap.size + 1, 0, none⟩) N N) N (kn g.qF N j))) (fun _ i _ => N - (intOf i).toNat)
      case atStart => exact ⟨0, Nat.zero_le _, rfl, hs89.alloc _, Boxed.new _ _ _, Lib.hid (known_keep (hs := (Same.refl _).alloc _) (known_made HO9.out))⟩
      case round =>
        obtain ⟨j, hj, rfl, hS, hB, hO⟩ := hrel
        by_cases hlt : j < N
        · obtain ⟨hS78, hbe8, hbp8, hG8, hr18, hr28⟩ := HX.out
          have hr1 := Rec.same hS hr18
          have hbe := Boxed.same hS hbe8
          have q0 := hr1.cell 0
          have q1 := hr1.cell 1
          have q2 := hr1.cell 2
          have l1 := hr1.lt
          simp at q0 q1 q2
          have ce := hbe.cell
          have le := hbe.lt
          have ck := hB.cell
          have lk := hB.lt
          have HC := fun W (h : Same w8 W) => HEV.out W j h (by omega)
          have HU : Hid ((kn g.qF N j)[j]? = some (.bool (decide (j < j) && g.qF j))) := Lib.hid (by simp [kn, hlt])
          have n1 : w.heap.size ≠ w6.heap.size + 1 := by omega
          have n2 : w6.heap.size ≠ w6.heap.size + 1 := by omega
          have n3 : w9.heap.size ≠ w6.heap.size + 1 := by omega
          have n4 : w8.heap.size ≤ w6.heap.size + 1 := by omega
          have hbj := kn_set g.qF N j hlt
          have hval : g.holds (selI g.rpeople j) = g.qF j := rfl
          rw [hval] at HC
          generalize g.qF j = bj at *
          have HBJ := Lib.hid hbj
          have hr18' := hS78
          have e97 := enters_eval
          generalize (decide (j < j) && bj) = b0 at *
          have z0 : (0 : Int) ≤ (j : Int) := by omega
          have z1 : (j : Int) < (N : Int) := by omega
          have z2 : IntKind.u64.wrap (j : Int) = (j : Int) := IntWalk.u64_in _ (by omega)
          clear hval hbj hS78 hbe8 hbp8 hG8 hr18 hr28 hr1 hbe hr18'
          go_wp2_with fail
          go_region_held3 (fun W => W.cell? ⟨w.heap.size, 0, none⟩ = some (.int .i64 g.p) ∧ W.cell? ⟨w.heap.size, 1, none⟩ = some (.int .i64 g.n) ∧ W.cell? ⟨w.heap.size, 2, none⟩ = some (.slice a n c) ∧ W.cell? ⟨w6.heap.size, 0, none⟩ = some (.func (.func 115) #[] #[ptr w3.heap.size, ptr w6.heap.size]) ∧ W.cell? ⟨w9.heap.size, 0, none⟩ = some (.slice (some ⟨w6.heap.size + 1, 0, none⟩) N N) ∧ Same w8 W)
            (((try go_split_ands); refine ⟨?_, ?_, ?_, ?_, ?_, ?_⟩ <;> repeat (first | assumption | apply Same.drew | apply cell_drew | refine (cell_far _ _ _ _ (by first | exact n1 | exact n2 | exact n3)).trans ?_ | refine Same.setCell ?_ (p := ⟨w6.heap.size + 1, _, none⟩) n4 _)))
            (first
              | ((go_at_call 115; (try go_split_ands); refine (HC _ (by repeat (first | assumption | apply Same.drew))).mono ?_; rintro e wa ⟨rfl, hsa⟩; have hSa : Same wr wa := Same.trans (by repeat (first | exact Same.refl _ | apply Same.drew)) hsa; have hSA := Same.trans hS hSa; have r0 := hSa.keep.cell q0; have r1 := hSa.keep.cell q1; have r2 := hSa.keep.cell q2; have r3 := hSa.keep.cell ce; have r4 := hSa.keep.cell ck; have hOa := known_keep hSa hO.out; have fa := hOa.frozenAt j; have ca := (hOa.cellAt j (by omega)).trans HU.out; have la := (hOa.lt _ rfl).2))
              | (fail))
          have hOb := (hOa.stored j (.bool bj)).1
          rw [HBJ.out] at hOb
          have hSb : Same w8 (wa.setCell ⟨w6.heap.size + 1, j, none⟩ (.bool bj)) := hSA.setCell (p := ⟨w6.heap.size + 1, j, none⟩) n4 _
          have hBb := Rec.other (Boxed.same hSa hB) (p := ⟨w6.heap.size + 1, j, none⟩) n3 (.bool bj)
          have HOB := Lib.hid hOb
          have HBB := Lib.hid hBb
          clear hOb hBb hOa fa ca la r0 r1 r2 r3 r4 z2 n4
          go_wp2_with fail
          go_roundw
          case rel => exact ⟨j + 1, by omega, by go_num, hSb, HBB.out, HOB⟩
          case measure => simp [intOf]; omega
        · obtain rfl : N = j := by omega
          obtain ⟨hS78, hbe8, hbp8, hG8, hr18, hr28⟩ := HX.out
          have hr2 := Rec.same hS hr28
          have hbp := Boxed.same hS hbp8
          have hi8 := HI7.out
          rw [← HW7.out] at hi8
          have hir := (hi8.keep hS78.keep).keep hS.keep
          have HR2 := Lib.hid hr2
          have HIR := Lib.hid hir
          have HSw := Lib.hid ((HS7.out.trans hS78).trans hS)
          have t0 := hr2.cell 0
          have t1 := hr2.cell 1
          have t2 := hr2.cell 2
          have t3 := hr2.lt
          have f0 := hr2.frozen 0
          have f1 := hr2.frozen 1
          have f2 := hr2.frozen 2
          simp at t0 t1 t2
          have cp := hbp.cell
          have lp := hbp.lt
          have z0 : (0 : Int) ≤ (N : Int) := by omega
          have z1 : IntKind.u64.wrap ((N : Int) - 1) = (N : Int) - 1 := IntWalk.u64_in _ (by omega)
          have z2 : IntKind.u64.wrap (N : Int) = (N : Int) := IntWalk.u64_in _ (by omega)
          clear hS78 hbe8 hbp8 hG8 hr18 hr28 hi8 hir hr2 hbp
          have n1 : w3.heap.size ≠ w.heap.size + 1 := by omega
          go_wp2_with fail
          have HK := hO
          have HBX := hB
          have n2 : w9.heap.size ≠ w.heap.size + 1 := by omega
          have n3 : w6.heap.size + 1 ≠ w.heap.size + 1 := by omega
          have n4 : w.heap.size ≤ w.heap.size + 1 := by omega
          go_region
          go_wp2_with fail
          have r3 := HR2.out.set3 (.slice a6 n6 c6) (.int .u64 ((N : Int) - 1)) (.func (.func 117) #[] #[ptr w9.heap.size])
          have e0 := r3.cell 0
          have e1 := r3.cell 1
          have e2 := r3.cell 2
          simp at e0 e1 e2
          replace e0 := cell_drew e0
          replace e1 := cell_drew e1
          replace e2 := cell_drew e2
          refine bodyPost_ret (v := .tuple #[.agg #[.slice a6 n6 c6, .int .u64 ((N : Int) - 1), .func (.func 117) #[] #[ptr w9.heap.size]], .int .i64 0]) (by simp [results, Try.results75, go_sem, e0, e1, e2]) rfl ?_
          refine ⟨_, by rw [HRR.out]; simp only [ne_eq, not_true_eq_false, if_false]; rw [if_neg (by rw [← HN6.out]; omega)], ⟨_, _, _, _, _, rfl, .inr ⟨_, _, _, rfl⟩⟩, fun _ => ?_, (HSw.out.set3 n4 _ _ _).drew⟩
          have hfar : ∀ p : Addr, p.block ≠ w.heap.size + 1 → World.cell? _ p = wr.cell? p := fun p hp => (far3 wr (w.heap.size + 1) p hp (.slice a6 n6 c6) (.int .u64 ((N : Int) - 1)) (.func (.func 117) #[] #[ptr w9.heap.size]))
          have hn6 := HN6.out
          have hN := HN.out
          rw [hn6] at hN
          have hI := Ints.far HIR.out HR2.out (by intro i j; rcases i with _ | _ | _ | i <;> simp) hfar
          rw [hn6] at hI ⊢
          refine ⟨a6, c6, .func (.func 117) #[] #[ptr w9.heap.size], ?_, hI, by omega, ?_⟩
          · rw [← hN, show ((N - 1 : Nat) : Int) = (N : Int) - 1 from by omega]
          · rw [← hN]
            refine ⟨w9.heap.size, ⟨w6.heap.size + 1, 0, none⟩, N, rfl, ?_, Nat.le_refl _, fun s hs => ?_⟩
            · exact Rec.other (Rec.other (Rec.other HBX (p := ⟨w.heap.size + 1, 0, none⟩) n2 _) (p := ⟨w.heap.size + 1, 1, none⟩) n2 _) (p := ⟨w.heap.size + 1, 2, none⟩) n2 _
            · have h := HK.out.cellAt s (by omega)
              rw [kn_get _ _ _ hs] at h
              have h2 := hfar ⟨w6.heap.size + 1, s, none⟩ n3
              rw [show (⟨w6.heap.size + 1, 0, none⟩ : Addr).add s = ⟨w6.heap.size + 1, s, none⟩ from by cases s <;> simp [Addr.add], ← hn6]
              exact h2.trans h
  · have hb : (rc != 0) = true := by simpa using hc
    have HCC := Lib.hid hc
    clear hc
    go_wp2_with fail
    have r3 := r2.set3 (.slice none 0 0) (.int .u64 0) .nilFunc
    have e0 := r3.cell 0
    have e1 := r3.cell 1
    have e2 := r3.cell 2
    simp at e0 e1 e2
    refine bodyPost_ret (v := .tuple #[.agg #[.slice none 0 0, .int .u64 0, .nilFunc], .int .i64 rc]) (by simp [results, Try.results75, go_sem, e0, e1, e2]) rfl ?_
    exact ⟨_, by rw [HRR.out, if_pos HCC.out], ⟨_, _, _, _, _, rfl, .inl rfl⟩, fun h => by rw [HRR.out, if_pos HCC.out] at h; exact absurd h HCC.out, hs2.set3 (by omega) _ _ _⟩
end Go.Proofs.Ytmnpbopkhpbhiaa
