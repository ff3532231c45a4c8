/- The walk of MinimalAgreeSpec. -/
import Derived.Test.YtmnpbopkhpbhiaaSane24
import Derived.Test.YtmnpbopkhpbhiaaRefAgree
set_option linter.unusedVariables false
set_option linter.unusedSimpArgs false
namespace Go.Proofs.Ytmnpbopkhpbhiaa
open Go.RowKit
set_option maxRecDepth 100000
theorem fewsets_same (w : World) (v : Value) (xss : List (List Int)) (h : Intss w v xss) :
    Calls Try.prog 41 #[v] w fun e w' => e = .returned (.bool (fewB xss)) ∧ Same w w' :=
  (fewsets_spec w v xss h).mono fun _ _ h => ⟨h.1, by rw [← h.2]; exact Same.refl _⟩
set_option maxHeartbeats 8000000 in
theorem MinimalAgreeSpec_walk (w : World) (g : Gt) (val : Value) (sa : List (List Int)) (va : Value) (sb : List (List Int)) (vb : Value) (hg : IsG w g val) (ha : Intss w va sa) (hb : Intss w vb sb) :
    Calls Try.prog 9 #[val, va, vb] w fun e w' => e = .returned (.bool true) ∧ Same w w' := by
  obtain ⟨vg, rfl, hat⟩ := hg
  obtain ⟨a, n, c, rfl⟩ := hat.form
  obtain ⟨w1, hW1⟩ : ∃ w1, w1 = w.alloc (.cells #[.int .i64 g.p, .int .i64 g.n, .slice a n c] 24) := ⟨_, rfl⟩
  have hS1 : Same w w1 := by rw [hW1]; exact (Same.refl w).alloc _
  have hs1 : Same w1 w1 := Same.refl _
  have hgb : ∀ W, Same w1 W → _ := fun W h => gbox (w := w) (W := W) (by rw [← hW1]; exact h)
  have hG := fun W (h : Same w1 W) => (⟨_, rfl, hat.keep (hS1.trans h).keep⟩ : IsG W g (.agg #[.int .i64 g.p, .int .i64 g.n, .slice a n c]))
  have HG := Lib.hid hG
  have HAva : Hid (∀ W, Same w1 W → Intss W va sa) := Lib.hid fun W h => Intss.keep (hS1.trans h).keep ha
  have HAvb : Hid (∀ W, Same w1 W → Intss W vb sb) := Lib.hid fun W h => Intss.keep (hS1.trans h).keep hb
  obtain ⟨ava, cva, rfl, -, zva, -⟩ := ha
  obtain ⟨avb, cvb, rfl, -, zvb, -⟩ := hb
  have HGB := Lib.hid hgb
  have HW1 := Lib.hid hW1
  clear hat hgb hG
  have HF := Lib.hid fun W (h : Same w1 W) => few24_spec W g _ (HG.out W h)
  have HA := Lib.hid fun W (h : Same w1 W) => Agree_spec W g _ _ _ sa sb (HG.out W h) (HAva.out W h) (HAvb.out W h)
  have HRA := Lib.hid fun W (h : Same w1 W) => refAgree_spec W g _ _ _ sa sb (HG.out W h) (HAva.out W h) (HAvb.out W h)
  have HFA := Lib.hid fun W (h : Same w1 W) => fewsets_same W _ sa (HAva.out W h)
  have HFB := Lib.hid fun W (h : Same w1 W) => fewsets_same W _ sb (HAvb.out W h)
  generalize g.few24 = fw at *
  generalize fewB sa = fa at *
  generalize fewB sb = fb at *
  generalize g.agr sa sb = ag at *
  generalize g.rerr = er at *
  have b1 : (ag == ag) = true := by simp
  have b2 : (er == er) = true := by simp
  go_enter Try.func9, Try.ntmps9
  have HC := sane24_spec w1
  rw [hW1] at HC
  clear hW1
  go_wp2_with fail
  refine HC.mono ?_
  clear HC
  rintro e w2 ⟨rfl, hd2⟩
  rw [← HW1.out] at hd2
  have hs2 := hs1.trans hd2
  obtain ⟨q0, q1, q2, lt⟩ := HGB.out _ hs2
  cases fw with
  | false =>
    have HC := HF.out w2 hs2
    go_wp2_with fail
    refine HC.mono ?_
    clear HC q0 q1 q2 lt
    rintro e w3 ⟨rfl, hd3⟩
    have hs3 := hs2.trans hd3
    obtain ⟨q0, q1, q2, lt⟩ := HGB.out _ hs3
    go_wp2_with fail
    go_ret
    exact ⟨rfl, hS1.trans hs3⟩
  | true =>
    have HC := HF.out w2 hs2
    go_wp2_with fail
    refine HC.mono ?_
    clear HC q0 q1 q2 lt
    rintro e w3 ⟨rfl, hd3⟩
    have hs3 := hs2.trans hd3
    obtain ⟨q0, q1, q2, lt⟩ := HGB.out _ hs3
    cases fa with
    | false =>
      have HC := HFA.out w3 hs3
      go_wp2_with fail
      refine HC.mono ?_
      clear HC q0 q1 q2 lt
      rintro e w4 ⟨rfl, hd4⟩
      have hs4 := hs3.trans hd4
      obtain ⟨q0, q1, q2, lt⟩ := HGB.out _ hs4
      go_wp2_with fail
      go_ret
      exact ⟨rfl, hS1.trans hs4⟩
    | true =>
      have HC := HFA.out w3 hs3
      go_wp2_with fail
      refine HC.mono ?_
      clear HC q0 q1 q2 lt
      rintro e w4 ⟨rfl, hd4⟩
      have hs4 := hs3.trans hd4
      obtain ⟨q0, q1, q2, lt⟩ := HGB.out _ hs4
      cases fb with
      | false =>
        have HC := HFB.out w4 hs4
        go_wp2_with fail
        refine HC.mono ?_
        clear HC q0 q1 q2 lt
        rintro e w5 ⟨rfl, hd5⟩
        have hs5 := hs4.trans hd5
        obtain ⟨q0, q1, q2, lt⟩ := HGB.out _ hs5
        go_wp2_with fail
        go_ret
        exact ⟨rfl, hS1.trans hs5⟩
      | true =>
        have HC := HFB.out w4 hs4
        go_wp2_with fail
        refine HC.mono ?_
        clear HC q0 q1 q2 lt
        rintro e w5 ⟨rfl, hd5⟩
        have hs5 := hs4.trans hd5
        obtain ⟨q0, q1, q2, lt⟩ := HGB.out _ hs5
        have HC := HA.out w5 hs5
        go_wp2_with fail
        refine HC.mono ?_
        clear HC q0 q1 q2 lt
        rintro e w6 ⟨rfl, hd6⟩
        have hs6 := hs5.trans hd6
        obtain ⟨q0, q1, q2, lt⟩ := HGB.out _ hs6
        have HC := HRA.out w6 hs6
        go_wp2_with fail
        refine HC.mono ?_
        clear HC q0 q1 q2 lt
        rintro e w7 ⟨rfl, hd7⟩
        have hs7 := hs6.trans hd7
        obtain ⟨q0, q1, q2, lt⟩ := HGB.out _ hs7
        go_wp2_with fail
        go_ret
        exact ⟨rfl, hS1.trans hs7⟩
end Go.Proofs.Ytmnpbopkhpbhiaa
