/- The walk of MinimalBoth. -/
import Derived.Test.YtmnpbopkhpbhiaaLists24
set_option linter.unusedVariables false
set_option linter.unusedSimpArgs false
namespace Go.Proofs.Ytmnpbopkhpbhiaa
open Go.RowKit
set_option maxRecDepth 100000
set_option maxHeartbeats 8000000 in
theorem MinimalBoth_walk (w : World) (g : Gt) (val : Value) (sa : List (List Int)) (va : Value) (sb : List (List Int)) (vb : Value) (hg : IsG w g val) (ha : Intss w va sa) (hb : Intss w vb sb) :
    Calls Try.prog 10 #[val, va, vb] w fun e w' => e = .returned (.bool true) ∧ Same w w' := by
  obtain ⟨vg, rfl, hat⟩ := hg
  obtain ⟨a, n, c, rfl⟩ := hat.form
  obtain ⟨w1, hW1⟩ : ∃ w1, w1 = w.alloc (.cells #[.int .i64 g.p, .int .i64 g.n, .slice a n c] 24) := ⟨_, rfl⟩
  have hS1 : Same w w1 := by rw [hW1]; exact (Same.refl w).alloc _
  have hs1 : Same w1 w1 := Same.refl _
  have hgb : ∀ W, Same w1 W → _ := fun W h => gbox (w := w) (W := W) (by rw [← hW1]; exact h)
  have hG := fun W (h : Same w1 W) => (⟨_, rfl, hat.keep (hS1.trans h).keep⟩ : IsG W g (.agg #[.int .i64 g.p, .int .i64 g.n, .slice a n c]))
  have HG := Lib.hid hG
  have HAva : Hid (∀ W, Same w1 W → Intss W va sa) := Lib.hid fun W h => Intss.keep (hS1.trans h).keep ha
  have HAvb : Hid (∀ W, Same w1 W → Intss W vb sb) := Lib.hid fun W h => Intss.keep (hS1.trans h).keep hb
  obtain ⟨ava, cva, rfl, -, zva, -⟩ := ha
  obtain ⟨avb, cvb, rfl, -, zvb, -⟩ := hb
  have HGB := Lib.hid hgb
  have HW1 := Lib.hid hW1
  clear hat hgb hG
  have HL := Lib.hid fun W (h : Same w1 W) => lists_spec W g _ (HG.out W h)
  have HA := Lib.hid fun W vl vm (l m : List (List Int)) (h : Same w1 W) (h1 : Intss W vl l) (h2 : Intss W vm m) => Agree_spec W g _ vl vm l m (HG.out W h) h1 h2
  by_cases hu : g.use = true
  case neg =>
    have hu' : g.use = false := by simpa using hu
    rw [hu'] at HL
    clear hu hu' HA
    go_enter Try.func10, Try.ntmps10
    have HC := sane24_spec w1
    rw [hW1] at HC
    clear hW1
    go_wp2_with fail
    refine HC.mono ?_
    clear HC
    rintro e w2 ⟨rfl, hd2⟩
    rw [← HW1.out] at hd2
    have hs2 := hs1.trans hd2
    obtain ⟨q0, q1, q2, lt⟩ := HGB.out _ hs2
    have HC := HL.out w2 hs2
    go_wp2_with fail
    refine HC.mono ?_
    clear HC q0 q1 q2 lt
    rintro e w3 ⟨v3, u3, rfl, i3, j3, hd3⟩
    have hs3 := hs2.trans hd3
    have I3 := Lib.hid i3
    have J3 := Lib.hid j3
    obtain ⟨a3, c3, rfl, -⟩ := i3
    obtain ⟨b3, d3, rfl, -⟩ := j3
    obtain ⟨q0, q1, q2, lt⟩ := HGB.out _ hs3
    go_wp2_with fail
    go_ret
    exact ⟨rfl, hS1.trans hs3⟩
  case pos =>
    obtain ⟨-, he, h1, h2⟩ := use_parts hu
    have hl1 : g.lst false = g.setsK false := by rw [Gt.lst, if_pos hu]
    have hl2 : g.lst true = g.setsK true := by rw [Gt.lst, if_pos hu]
    rw [hu, hl1, hl2] at HL
    rw [he] at HA
    have hown : g.agr (g.setsK false) (g.setsK true) = true := (agr_iff he _ _).2 ⟨rfl, rfl⟩
    have hoth : g.agr sa sb = (decide (sa = g.setsK false) && decide (sb = g.setsK true)) := by
      rw [Bool.eq_iff_iff, agr_iff he]; simp
    have HOWN := Lib.hid hown
    have HOTH := Lib.hid hoth
    generalize g.setsK false = so at *
    generalize g.setsK true = bo at *
    clear he h1 h2 hl1 hl2 hu hown hoth
    by_cases hna : 300 < sa.length
    · clear HA
      go_enter Try.func10, Try.ntmps10
      have HC := sane24_spec w1
      rw [hW1] at HC
      clear hW1
      go_wp2_with fail
      refine HC.mono ?_
      clear HC
      rintro e w2 ⟨rfl, hd2⟩
      rw [← HW1.out] at hd2
      have hs2 := hs1.trans hd2
      obtain ⟨q0, q1, q2, lt⟩ := HGB.out _ hs2
      have HC := HL.out w2 hs2
      go_wp2_with fail
      refine HC.mono ?_
      clear HC q0 q1 q2 lt
      rintro e w3 ⟨v3, u3, rfl, i3, j3, hd3⟩
      have hs3 := hs2.trans hd3
      have I3 := Lib.hid i3
      have J3 := Lib.hid j3
      obtain ⟨a3, c3, rfl, -⟩ := i3
      obtain ⟨b3, d3, rfl, -⟩ := j3
      obtain ⟨q0, q1, q2, lt⟩ := HGB.out _ hs3
      go_wp2_with fail
      go_ret
      exact ⟨rfl, hS1.trans hs3⟩
    · by_cases hnb : 300 < sb.length
      · clear HA
        go_enter Try.func10, Try.ntmps10
        have HC := sane24_spec w1
        rw [hW1] at HC
        clear hW1
        go_wp2_with fail
        refine HC.mono ?_
        clear HC
        rintro e w2 ⟨rfl, hd2⟩
        rw [← HW1.out] at hd2
        have hs2 := hs1.trans hd2
        obtain ⟨q0, q1, q2, lt⟩ := HGB.out _ hs2
        have HC := HL.out w2 hs2
        go_wp2_with fail
        refine HC.mono ?_
        clear HC q0 q1 q2 lt
        rintro e w3 ⟨v3, u3, rfl, i3, j3, hd3⟩
        have hs3 := hs2.trans hd3
        have I3 := Lib.hid i3
        have J3 := Lib.hid j3
        obtain ⟨a3, c3, rfl, -⟩ := i3
        obtain ⟨b3, d3, rfl, -⟩ := j3
        obtain ⟨q0, q1, q2, lt⟩ := HGB.out _ hs3
        go_wp2_with fail
        go_ret
        exact ⟨rfl, hS1.trans hs3⟩
      · generalize hda : decide (sa = so) = da at *
        generalize hdb : decide (sb = bo) = db at *
        have HDA := Lib.hid hda
        have HDB := Lib.hid hdb
        clear hda hdb
        cases da with
        | false =>
          go_enter Try.func10, Try.ntmps10
          have HC := sane24_spec w1
          rw [hW1] at HC
          clear hW1
          go_wp2_with fail
          refine HC.mono ?_
          clear HC
          rintro e w2 ⟨rfl, hd2⟩
          rw [← HW1.out] at hd2
          have hs2 := hs1.trans hd2
          obtain ⟨q0, q1, q2, lt⟩ := HGB.out _ hs2
          have HC := HL.out w2 hs2
          go_wp2_with fail
          refine HC.mono ?_
          clear HC q0 q1 q2 lt
          rintro e w3 ⟨v3, u3, rfl, i3, j3, hd3⟩
          have hs3 := hs2.trans hd3
          have I3 := Lib.hid i3
          have J3 := Lib.hid j3
          obtain ⟨a3, c3, rfl, -⟩ := i3
          obtain ⟨b3, d3, rfl, -⟩ := j3
          obtain ⟨q0, q1, q2, lt⟩ := HGB.out _ hs3
          have HC := HA.out w3 _ _ _ _ hs3 I3.out J3.out
          rw [HOWN.out] at HC
          go_wp2_with fail
          refine HC.mono ?_
          clear HC q0 q1 q2 lt
          rintro e w4 ⟨rfl, hd4⟩
          have hs4 := hs3.trans hd4
          obtain ⟨q0, q1, q2, lt⟩ := HGB.out _ hs4
          have HC := HA.out w4 _ _ sa sb hs4 (HAva.out _ hs4) (HAvb.out _ hs4)
          rw [HOTH.out] at HC
          simp only [Bool.false_and, Bool.true_and] at HC
          go_wp2_with fail
          refine HC.mono ?_
          clear HC q0 q1 q2 lt
          rintro e w5 ⟨rfl, hd5⟩
          have hs5 := hs4.trans hd5
          obtain ⟨q0, q1, q2, lt⟩ := HGB.out _ hs5
          have HC := same_spec w5 _ _ sa so (HAva.out _ hs5) (Intss.keep (Same.keep (hd4.trans hd5)) I3.out)
          rw [HDA.out] at HC
          go_wp2_with fail
          refine HC.mono ?_
          clear HC q0 q1 q2 lt
          rintro e w6 ⟨rfl, hd6⟩
          have hs6 := hs5.trans hd6
          obtain ⟨q0, q1, q2, lt⟩ := HGB.out _ hs6
          go_wp2_with fail
          go_ret
          exact ⟨rfl, hS1.trans hs6⟩
        | true =>
          cases db with
          | false =>
            go_enter Try.func10, Try.ntmps10
            have HC := sane24_spec w1
            rw [hW1] at HC
            clear hW1
            go_wp2_with fail
            refine HC.mono ?_
            clear HC
            rintro e w2 ⟨rfl, hd2⟩
            rw [← HW1.out] at hd2
            have hs2 := hs1.trans hd2
            obtain ⟨q0, q1, q2, lt⟩ := HGB.out _ hs2
            have HC := HL.out w2 hs2
            go_wp2_with fail
            refine HC.mono ?_
            clear HC q0 q1 q2 lt
            rintro e w3 ⟨v3, u3, rfl, i3, j3, hd3⟩
            have hs3 := hs2.trans hd3
            have I3 := Lib.hid i3
            have J3 := Lib.hid j3
            obtain ⟨a3, c3, rfl, -⟩ := i3
            obtain ⟨b3, d3, rfl, -⟩ := j3
            obtain ⟨q0, q1, q2, lt⟩ := HGB.out _ hs3
            have HC := HA.out w3 _ _ _ _ hs3 I3.out J3.out
            rw [HOWN.out] at HC
            go_wp2_with fail
            refine HC.mono ?_
            clear HC q0 q1 q2 lt
            rintro e w4 ⟨rfl, hd4⟩
            have hs4 := hs3.trans hd4
            obtain ⟨q0, q1, q2, lt⟩ := HGB.out _ hs4
            have HC := HA.out w4 _ _ sa sb hs4 (HAva.out _ hs4) (HAvb.out _ hs4)
            rw [HOTH.out] at HC
            simp only [Bool.false_and, Bool.true_and] at HC
            go_wp2_with fail
            refine HC.mono ?_
            clear HC q0 q1 q2 lt
            rintro e w5 ⟨rfl, hd5⟩
            have hs5 := hs4.trans hd5
            obtain ⟨q0, q1, q2, lt⟩ := HGB.out _ hs5
            have HC := same_spec w5 _ _ sa so (HAva.out _ hs5) (Intss.keep (Same.keep (hd4.trans hd5)) I3.out)
            rw [HDA.out] at HC
            go_wp2_with fail
            refine HC.mono ?_
            clear HC q0 q1 q2 lt
            rintro e w6 ⟨rfl, hd6⟩
            have hs6 := hs5.trans hd6
            obtain ⟨q0, q1, q2, lt⟩ := HGB.out _ hs6
            have HC := same_spec w6 _ _ sb bo (HAvb.out _ hs6) (Intss.keep (Same.keep (hd4.trans (hd5.trans hd6))) J3.out)
            rw [HDB.out] at HC
            go_wp2_with fail
            refine HC.mono ?_
            clear HC q0 q1 q2 lt
            rintro e w7 ⟨rfl, hd7⟩
            have hs7 := hs6.trans hd7
            obtain ⟨q0, q1, q2, lt⟩ := HGB.out _ hs7
            go_wp2_with fail
            go_ret
            exact ⟨rfl, hS1.trans hs7⟩
          | true =>
            go_enter Try.func10, Try.ntmps10
            have HC := sane24_spec w1
            rw [hW1] at HC
            clear hW1
            go_wp2_with fail
            refine HC.mono ?_
            clear HC
            rintro e w2 ⟨rfl, hd2⟩
            rw [← HW1.out] at hd2
            have hs2 := hs1.trans hd2
            obtain ⟨q0, q1, q2, lt⟩ := HGB.out _ hs2
            have HC := HL.out w2 hs2
            go_wp2_with fail
            refine HC.mono ?_
            clear HC q0 q1 q2 lt
            rintro e w3 ⟨v3, u3, rfl, i3, j3, hd3⟩
            have hs3 := hs2.trans hd3
            have I3 := Lib.hid i3
            have J3 := Lib.hid j3
            obtain ⟨a3, c3, rfl, -⟩ := i3
            obtain ⟨b3, d3, rfl, -⟩ := j3
            obtain ⟨q0, q1, q2, lt⟩ := HGB.out _ hs3
            have HC := HA.out w3 _ _ _ _ hs3 I3.out J3.out
            rw [HOWN.out] at HC
            go_wp2_with fail
            refine HC.mono ?_
            clear HC q0 q1 q2 lt
            rintro e w4 ⟨rfl, hd4⟩
            have hs4 := hs3.trans hd4
            obtain ⟨q0, q1, q2, lt⟩ := HGB.out _ hs4
            have HC := HA.out w4 _ _ sa sb hs4 (HAva.out _ hs4) (HAvb.out _ hs4)
            rw [HOTH.out] at HC
            simp only [Bool.false_and, Bool.true_and] at HC
            go_wp2_with fail
            refine HC.mono ?_
            clear HC q0 q1 q2 lt
            rintro e w5 ⟨rfl, hd5⟩
            have hs5 := hs4.trans hd5
            obtain ⟨q0, q1, q2, lt⟩ := HGB.out _ hs5
            have HC := same_spec w5 _ _ sa so (HAva.out _ hs5) (Intss.keep (Same.keep (hd4.trans hd5)) I3.out)
            rw [HDA.out] at HC
            go_wp2_with fail
            refine HC.mono ?_
            clear HC q0 q1 q2 lt
            rintro e w6 ⟨rfl, hd6⟩
            have hs6 := hs5.trans hd6
            obtain ⟨q0, q1, q2, lt⟩ := HGB.out _ hs6
            have HC := same_spec w6 _ _ sb bo (HAvb.out _ hs6) (Intss.keep (Same.keep (hd4.trans (hd5.trans hd6))) J3.out)
            rw [HDB.out] at HC
            go_wp2_with fail
            refine HC.mono ?_
            clear HC q0 q1 q2 lt
            rintro e w7 ⟨rfl, hd7⟩
            have hs7 := hs6.trans hd7
            obtain ⟨q0, q1, q2, lt⟩ := HGB.out _ hs7
            go_wp2_with fail
            go_ret
            exact ⟨rfl, hS1.trans hs7⟩
end Go.Proofs.Ytmnpbopkhpbhiaa
