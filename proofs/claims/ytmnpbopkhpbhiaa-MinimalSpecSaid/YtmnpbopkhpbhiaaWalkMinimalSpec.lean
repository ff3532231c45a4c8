/- The walk of MinimalSpec. -/
import Derived.Test.YtmnpbopkhpbhiaaSane24
set_option linter.unusedVariables false
set_option linter.unusedSimpArgs false
namespace Go.Proofs.Ytmnpbopkhpbhiaa
open Go.RowKit
set_option maxRecDepth 100000
set_option maxHeartbeats 8000000 in
theorem MinimalSpec_walk (w : World) (g : Gt) (val : Value) (hg : IsG w g val) :
    Calls Try.prog 8 #[val] w fun e w' => e = .returned (.bool true) ∧ Same w w' := by
  obtain ⟨vg, rfl, hat⟩ := hg
  obtain ⟨a, n, c, rfl⟩ := hat.form
  obtain ⟨w1, hW1⟩ : ∃ w1, w1 = w.alloc (.cells #[.int .i64 g.p, .int .i64 g.n, .slice a n c] 24) := ⟨_, rfl⟩
  have hS1 : Same w w1 := by rw [hW1]; exact (Same.refl w).alloc _
  have hs1 : Same w1 w1 := Same.refl _
  have hgb : ∀ W, Same w1 W → _ := fun W h => gbox (w := w) (W := W) (by rw [← hW1]; exact h)
  have hG := fun W (h : Same w1 W) => (⟨_, rfl, hat.keep (hS1.trans h).keep⟩ : IsG W g (.agg #[.int .i64 g.p, .int .i64 g.n, .slice a n c]))
  have HG := Lib.hid hG
  have HGB := Lib.hid hgb
  have HW1 := Lib.hid hW1
  clear hat hgb hG
  have HF := Lib.hid fun W (h : Same w1 W) => few24_spec W g _ (HG.out W h)
  have HS := Lib.hid fun W (h : Same w1 W) => Sets_ints W g _ (HG.out W h)
  have HRS := Lib.hid fun W (h : Same w1 W) => refSets_spec W g _ (HG.out W h)
  have HB := Lib.hid fun W (h : Same w1 W) => Blocks_ints W g _ (HG.out W h)
  have HRB := Lib.hid fun W (h : Same w1 W) => refBlocks_spec W g _ (HG.out W h)
  generalize g.few24 = fw at *
  generalize g.sErr false = e1 at *
  generalize g.sErr true = e2 at *
  generalize g.sOut false = so at *
  generalize g.sOut true = bo at *
  have b1 : (e1 == e1) = true := by simp
  have b2 : (e2 == e2) = true := by simp
  go_enter Try.func8, Try.ntmps8
  have HC := sane24_spec w1
  rw [hW1] at HC
  clear hW1
  go_wp2_with fail
  refine HC.mono ?_
  clear HC
  rintro e w2 ⟨rfl, hd2⟩
  rw [← HW1.out] at hd2
  have hs2 := hs1.trans hd2
  obtain ⟨q0, q1, q2, lt⟩ := HGB.out _ hs2
  cases fw with
  | false =>
    have HC := HF.out w2 hs2
    go_wp2_with fail
    refine HC.mono ?_
    clear HC q0 q1 q2 lt
    rintro e w3 ⟨rfl, hd3⟩
    have hs3 := hs2.trans hd3
    obtain ⟨q0, q1, q2, lt⟩ := HGB.out _ hs3
    go_wp2_with fail
    go_ret
    exact ⟨rfl, hS1.trans hs3⟩
  | true =>
    have HC := HF.out w2 hs2
    go_wp2_with fail
    refine HC.mono ?_
    clear HC q0 q1 q2 lt
    rintro e w3 ⟨rfl, hd3⟩
    have hs3 := hs2.trans hd3
    obtain ⟨q0, q1, q2, lt⟩ := HGB.out _ hs3
    have HC := HS.out w3 hs3
    go_wp2_with fail
    refine HC.mono ?_
    clear HC q0 q1 q2 lt
    rintro e w4 ⟨v4, rfl, i4, hd4⟩
    have hs4 := hs3.trans hd4
    have I4 := Lib.hid i4
    obtain ⟨a4, c4, rfl, -⟩ := i4
    obtain ⟨q0, q1, q2, lt⟩ := HGB.out _ hs4
    have HC := HRS.out w4 hs4
    go_wp2_with fail
    refine HC.mono ?_
    clear HC q0 q1 q2 lt
    rintro e w5 ⟨v5, rfl, i5, hd5⟩
    have hs5 := hs4.trans hd5
    have I5 := Lib.hid i5
    obtain ⟨a5, c5, rfl, -⟩ := i5
    obtain ⟨q0, q1, q2, lt⟩ := HGB.out _ hs5
    have HC := HB.out w5 hs5
    go_wp2_with fail
    refine HC.mono ?_
    clear HC q0 q1 q2 lt
    rintro e w6 ⟨v6, rfl, i6, hd6⟩
    have hs6 := hs5.trans hd6
    have I6 := Lib.hid i6
    obtain ⟨a6, c6, rfl, -⟩ := i6
    obtain ⟨q0, q1, q2, lt⟩ := HGB.out _ hs6
    have HC := HRB.out w6 hs6
    go_wp2_with fail
    refine HC.mono ?_
    clear HC q0 q1 q2 lt
    rintro e w7 ⟨v7, rfl, i7, hd7⟩
    have hs7 := hs6.trans hd7
    have I7 := Lib.hid i7
    obtain ⟨a7, c7, rfl, -⟩ := i7
    obtain ⟨q0, q1, q2, lt⟩ := HGB.out _ hs7
    have HC := same_spec w7 _ _ so so (Intss.keep (Same.keep (hd5.trans (hd6.trans hd7))) I4.out) (Intss.keep (Same.keep (hd6.trans hd7)) I5.out)
    rw [show decide (so = so) = true from by simp] at HC
    go_wp2_with fail
    refine HC.mono ?_
    clear HC q0 q1 q2 lt
    rintro e w8 ⟨rfl, hd8⟩
    have hs8 := hs7.trans hd8
    obtain ⟨q0, q1, q2, lt⟩ := HGB.out _ hs8
    have HC := same_spec w8 _ _ bo bo (Intss.keep (Same.keep (hd7.trans hd8)) I6.out) (Intss.keep (Same.keep hd8) I7.out)
    rw [show decide (bo = bo) = true from by simp] at HC
    go_wp2_with fail
    refine HC.mono ?_
    clear HC q0 q1 q2 lt
    rintro e w9 ⟨rfl, hd9⟩
    have hs9 := hs8.trans hd9
    obtain ⟨q0, q1, q2, lt⟩ := HGB.out _ hs9
    go_wp2_with fail
    go_ret
    exact ⟨rfl, hS1.trans hs9⟩
end Go.Proofs.Ytmnpbopkhpbhiaa
