/- The walk of LivingMarginSpec. -/
import Derived.Test.YtmnpbopkhpbhiaaSaneLiving
set_option linter.unusedVariables false
set_option linter.unusedSimpArgs false
namespace Go.Proofs.Ytmnpbopkhpbhiaa
open Go.RowKit
set_option maxRecDepth 100000
set_option maxHeartbeats 8000000 in
theorem LivingMarginSpec_walk (w : World) (g : Gt) (val : Value) (alive : List Int) (v : Value) (hg : IsG w g val) (hv : Ints w v alive) :
    Calls Try.prog 4 #[val, v] w fun e w' => e = .returned (.bool true) ∧ Same w w' := by
  obtain ⟨vg, rfl, hat⟩ := hg
  obtain ⟨a, n, c, rfl⟩ := hat.form
  obtain ⟨av, nv, cv, rfl, zv⟩ := hv.slice
  have Zv := Lib.hid zv
  clear zv
  obtain ⟨w1, hW1⟩ : ∃ w1, w1 = w.alloc (.cells #[.int .i64 g.p, .int .i64 g.n, .slice a n c] 24) := ⟨_, rfl⟩
  have hS1 : Same w w1 := by rw [hW1]; exact (Same.refl w).alloc _
  have hs1 : Same w1 w1 := Same.refl _
  have hgb : ∀ W, Same w1 W → _ := fun W h => gbox (w := w) (W := W) (by rw [← hW1]; exact h)
  have hG := fun W (h : Same w1 W) => (⟨_, rfl, hat.keep (hS1.trans h).keep⟩ : IsG W g (.agg #[.int .i64 g.p, .int .i64 g.n, .slice a n c]))
  have HG := Lib.hid hG
  have hAv := fun W (h : Same w1 W) => hv.keep (hS1.trans h).keep
  have HAv := Lib.hid hAv
  have HGB := Lib.hid hgb
  have HW1 := Lib.hid hW1
  clear hat hgb hG hv hAv
  have HM := Lib.hid fun W (h : Same w1 W) => Margin_spec W g _ _ alive (HG.out W h) (HAv.out W h)
  have HRM := Lib.hid fun W (h : Same w1 W) => refMargin_spec W g _ _ alive (HG.out W h) (HAv.out W h)
  have HD := Lib.hid fun W (h : Same w1 W) => Dead_spec W g _ _ alive (HG.out W h) (HAv.out W h)
  have HRD := Lib.hid fun W (h : Same w1 W) => refDead_spec W g _ _ alive (HG.out W h) (HAv.out W h)
  rw [Margin_eq] at HM
  rw [Dead_eq] at HD
  have HF := Lib.hid fun W (h : Same w1 W) => few51_spec W g _ _ alive (HG.out W h) (HAv.out W h)
  generalize (g.few24 && decide (alive.length ≤ 80)) = fw at *
  generalize g.rMargin alive = rm at *
  generalize g.rDead alive = rd at *
  obtain ⟨lost, l1, e1⟩ := rm
  obtain ⟨block, l2, e2⟩ := rd
  simp only at HM HRM HD HRD
  have b1 : (l1 == l1) = true := by simp
  have b2 : (l2 == l2) = true := by simp
  have b3 : (e1 == e1) = true := by simp
  have b4 : (e2 == e2) = true := by simp
  go_enter Try.func4, Try.ntmps4
  have HC := sane_spec w1
  rw [hW1] at HC
  clear hW1
  go_wp2_with fail
  refine HC.mono ?_
  clear HC
  rintro e w2 ⟨rfl, hd2⟩
  rw [← HW1.out] at hd2
  have hs2 := hs1.trans hd2
  obtain ⟨q0, q1, q2, lt⟩ := HGB.out _ hs2
  cases fw with
  | false =>
    have HC := HF.out w2 hs2
    go_wp2_with fail
    refine HC.mono ?_
    clear HC q0 q1 q2 lt
    rintro e w3 ⟨rfl, hd3⟩
    have hs3 := hs2.trans hd3
    obtain ⟨q0, q1, q2, lt⟩ := HGB.out _ hs3
    go_wp2_with fail
    go_ret
    exact ⟨rfl, hS1.trans hs3⟩
  | true =>
    have HC := HF.out w2 hs2
    go_wp2_with fail
    refine HC.mono ?_
    clear HC q0 q1 q2 lt
    rintro e w3 ⟨rfl, hd3⟩
    have hs3 := hs2.trans hd3
    obtain ⟨q0, q1, q2, lt⟩ := HGB.out _ hs3
    have HC := HM.out w3 hs3
    go_wp2_with fail
    refine HC.mono ?_
    clear HC q0 q1 q2 lt
    rintro e w4 ⟨v4, rfl, i4, hd4⟩
    have hs4 := hs3.trans hd4
    obtain ⟨a4, n4, c4, rfl, e4⟩ := i4.slice
    have I4 := Lib.hid i4
    have E4 := Lib.hid e4
    clear i4 e4
    obtain ⟨q0, q1, q2, lt⟩ := HGB.out _ hs4
    have HC := HRM.out w4 hs4
    go_wp2_with fail
    refine HC.mono ?_
    clear HC q0 q1 q2 lt
    rintro e w5 ⟨v5, rfl, i5, hd5⟩
    have hs5 := hs4.trans hd5
    obtain ⟨a5, n5, c5, rfl, e5⟩ := i5.slice
    have I5 := Lib.hid i5
    have E5 := Lib.hid e5
    clear i5 e5
    obtain ⟨q0, q1, q2, lt⟩ := HGB.out _ hs5
    have HC := HD.out w5 hs5
    go_wp2_with fail
    refine HC.mono ?_
    clear HC q0 q1 q2 lt
    rintro e w6 ⟨v6, rfl, i6, hd6⟩
    have hs6 := hs5.trans hd6
    obtain ⟨a6, n6, c6, rfl, e6⟩ := i6.slice
    have I6 := Lib.hid i6
    have E6 := Lib.hid e6
    clear i6 e6
    obtain ⟨q0, q1, q2, lt⟩ := HGB.out _ hs6
    have HC := HRD.out w6 hs6
    go_wp2_with fail
    refine HC.mono ?_
    clear HC q0 q1 q2 lt
    rintro e w7 ⟨v7, rfl, i7, hd7⟩
    have hs7 := hs6.trans hd7
    obtain ⟨a7, n7, c7, rfl, e7⟩ := i7.slice
    have I7 := Lib.hid i7
    have E7 := Lib.hid e7
    clear i7 e7
    obtain ⟨q0, q1, q2, lt⟩ := HGB.out _ hs7
    have HC := SameInts_spec w7 _ _ lost lost (I4.out.keep (Same.keep (hd5.trans (hd6.trans hd7)))) (I5.out.keep (Same.keep (hd6.trans hd7)))
    rw [show decide (lost = lost) = true from by simp] at HC
    go_wp2_with fail
    refine HC.mono ?_
    clear HC q0 q1 q2 lt
    rintro e w8 ⟨rfl, hd8⟩
    have hs8 := hs7.trans hd8
    obtain ⟨q0, q1, q2, lt⟩ := HGB.out _ hs8
    have HC := SameInts_spec w8 _ _ block block (I6.out.keep (Same.keep (hd7.trans hd8))) (I7.out.keep (Same.keep hd8))
    rw [show decide (block = block) = true from by simp] at HC
    go_wp2_with fail
    refine HC.mono ?_
    clear HC q0 q1 q2 lt
    rintro e w9 ⟨rfl, hd9⟩
    have hs9 := hs8.trans hd9
    obtain ⟨q0, q1, q2, lt⟩ := HGB.out _ hs9
    go_wp2_with fail
    go_ret
    exact ⟨rfl, hS1.trans hs9⟩
end Go.Proofs.Ytmnpbopkhpbhiaa
