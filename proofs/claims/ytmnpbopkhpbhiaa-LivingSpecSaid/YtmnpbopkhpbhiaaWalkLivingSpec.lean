/- The walk of LivingSpec. -/
import Derived.Test.YtmnpbopkhpbhiaaSaneLiving
set_option linter.unusedVariables false
set_option linter.unusedSimpArgs false
namespace Go.Proofs.Ytmnpbopkhpbhiaa
open Go.RowKit
set_option maxRecDepth 100000
set_option maxHeartbeats 4000000 in
theorem LivingSpec_walk (w : World) (g : Gt) (val : Value) (alive : List Int) (v : Value) (hg : IsG w g val) (hv : Ints w v alive) :
    Calls Try.prog 3 #[val, v] w fun e w' => e = .returned (.bool true) ∧ Same w w' := by
  obtain ⟨vg, rfl, hat⟩ := hg
  obtain ⟨a, n, c, rfl⟩ := hat.form
  obtain ⟨av, nv, cv, rfl, -⟩ := hv.slice
  obtain ⟨W1, hW1⟩ : ∃ W1, W1 = w.alloc (.cells #[.int .i64 g.p, .int .i64 g.n, .slice a n c] 24) := ⟨_, rfl⟩
  have hS1 : Same w W1 := by rw [hW1]; exact (Same.refl w).alloc _
  have hgb : ∀ W, Same W1 W → _ := fun W h => gbox (w := w) (W := W) (by rw [← hW1]; exact h)
  have hG := fun W (h : Same W1 W) => (⟨_, rfl, hat.keep (hS1.trans h).keep⟩ : IsG W g (.agg #[.int .i64 g.p, .int .i64 g.n, .slice a n c]))
  have hA := fun W (h : Same W1 W) => hv.keep (hS1.trans h).keep
  have H0 := sane_spec W1
  have H1 := fun W (h : Same W1 W) => few51_spec W g _ _ alive (hG W h) (hA W h)
  have H2 := fun W (h : Same W1 W) => Living_spec W g _ _ alive (hG W h) (hA W h)
  have H3 := fun W (h : Same W1 W) => refLiving_spec W g _ _ alive (hG W h) (hA W h)
  rw [Living_eq] at H2
  have HGB := Lib.hid hgb
  have HW1 := Lib.hid hW1
  rw [hW1] at H0
  clear hW1 hat hv hgb hG hA
  generalize (g.few24 && decide (alive.length ≤ 80)) = fw at *
  generalize g.rLiving alive = rl at *
  obtain ⟨who, ok, er⟩ := rl
  simp only at H2 H3
  go_enter Try.func3, Try.ntmps3
  go_wp2_with fail
  refine H0.mono ?_
  clear H0
  rintro e w2 ⟨rfl, hs2⟩
  rw [← HW1.out] at hs2
  obtain ⟨q0, q1, q2, lt⟩ := HGB.out _ hs2
  have H1 := H1 w2 hs2
  cases fw with
  | false =>
    go_wp2_with fail
    refine H1.mono ?_
    clear H1
    rintro e w3 ⟨rfl, hs3⟩
    go_wp2_with fail
    go_ret
    exact ⟨rfl, hS1.trans (hs2.trans hs3)⟩
  | true =>
    go_wp2_with fail
    refine H1.mono ?_
    clear H1 q0 q1 q2 lt
    rintro e w3 ⟨rfl, hs3⟩
    have hs3 := hs2.trans hs3
    obtain ⟨q0, q1, q2, lt⟩ := HGB.out _ hs3
    have H2 := H2 w3 hs3
    go_wp2_with fail
    refine H2.mono ?_
    clear H2 q0 q1 q2 lt
    rintro e w4 ⟨v4, rfl, hi4, hs4⟩
    obtain ⟨a4, n4, c4, rfl, -⟩ := hi4.slice
    have HI4 := Lib.hid hi4
    have hs4 := hs3.trans hs4
    obtain ⟨q0, q1, q2, lt⟩ := HGB.out _ hs4
    have H3 := H3 w4 hs4
    clear hi4
    go_wp2_with fail
    refine H3.mono ?_
    clear H3 q0 q1 q2 lt
    rintro e w5 ⟨v5, rfl, hi5, hs5⟩
    obtain ⟨a5, n5, c5, rfl, -⟩ := hi5.slice
    have H4 := SameInts_spec w5 _ _ who who (HI4.out.keep hs5.keep) hi5
    rw [show decide (who = who) = true from by simp] at H4
    have hs5 := hs4.trans hs5
    clear hi5
    have hb1 : (ok == ok) = true := by simp
    have hb2 : (er == er) = true := by simp
    go_wp2_with fail
    refine H4.mono ?_
    clear H4
    rintro e w6 ⟨rfl, hs6⟩
    go_wp2_with fail
    go_ret
    exact ⟨rfl, hS1.trans (hs5.trans hs6)⟩
end Go.Proofs.Ytmnpbopkhpbhiaa
