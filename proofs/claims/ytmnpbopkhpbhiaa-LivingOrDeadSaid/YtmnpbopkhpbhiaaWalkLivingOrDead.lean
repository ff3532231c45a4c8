/- The walk of LivingOrDead. -/
import Derived.Test.YtmnpbopkhpbhiaaSaneLiving
import Derived.Test.YtmnpbopkhpbhiaaPlainLaws51
set_option linter.unusedVariables false
set_option linter.unusedSimpArgs false
namespace Go.Proofs.Ytmnpbopkhpbhiaa
open Go.RowKit
set_option maxRecDepth 100000
set_option maxHeartbeats 8000000 in
theorem LivingOrDead_walk (w : World) (g : Gt) (val : Value) (alive : List Int) (v : Value) (hg : IsG w g val) (hv : Ints w v alive) :
    Calls Try.prog 5 #[val, v] w fun e w' => e = .returned (.bool true) ∧ Same w w' := by
  obtain ⟨vg, rfl, hat⟩ := hg
  obtain ⟨a, n, c, rfl⟩ := hat.form
  obtain ⟨av, nv, cv, rfl, zv⟩ := hv.slice
  have Zv := Lib.hid zv
  clear zv
  obtain ⟨w1, hW1⟩ : ∃ w1, w1 = w.alloc (.cells #[.int .i64 g.p, .int .i64 g.n, .slice a n c] 24) := ⟨_, rfl⟩
  have hS1 : Same w w1 := by rw [hW1]; exact (Same.refl w).alloc _
  have hs1 : Same w1 w1 := Same.refl _
  have hgb : ∀ W, Same w1 W → _ := fun W h => gbox (w := w) (W := W) (by rw [← hW1]; exact h)
  have hG := fun W (h : Same w1 W) => (⟨_, rfl, hat.keep (hS1.trans h).keep⟩ : IsG W g (.agg #[.int .i64 g.p, .int .i64 g.n, .slice a n c]))
  have HG := Lib.hid hG
  have hAv := fun W (h : Same w1 W) => hv.keep (hS1.trans h).keep
  have HAv := Lib.hid hAv
  have HGB := Lib.hid hgb
  have HW1 := Lib.hid hW1
  clear hat hgb hG hv hAv
  have HL := Lib.hid fun W (h : Same w1 W) => Living_spec W g _ _ alive (HG.out W h) (HAv.out W h)
  have HD := Lib.hid fun W (h : Same w1 W) => Dead_spec W g _ _ alive (HG.out W h) (HAv.out W h)
  have HF := Lib.hid fun W (h : Same w1 W) => few51_spec W g _ _ alive (HG.out W h) (HAv.out W h)
  have HH := Lib.hid fun W (h : Same w1 W) => Holds_spec W g _ _ alive (HG.out W h) (HAv.out W h)
  have HE := Lib.hid fun W (h : Same w1 W) => rerr51_spec W g _ _ alive (HG.out W h) (HAv.out W h)
  generalize (g.few24 && decide (alive.length ≤ 80)) = fw at *
  by_cases he : g.rerr51 alive = 0
  case neg =>
    obtain ⟨k1, k2, -⟩ := bad_plain g alive he
    rw [k1] at HL
    rw [k2] at HD
    generalize g.rerr51 alive = er at *
    simp only at HL HD
    have b1 : (er != 0) = true := by simpa using he
    have b2 : (er == er) = true := by simp
    clear he k1 k2 HE HH
    go_enter Try.func5, Try.ntmps5
    have HC := sane_spec w1
    rw [hW1] at HC
    clear hW1
    go_wp2_with fail
    refine HC.mono ?_
    clear HC
    rintro e w2 ⟨rfl, hd2⟩
    rw [← HW1.out] at hd2
    have hs2 := hs1.trans hd2
    obtain ⟨q0, q1, q2, lt⟩ := HGB.out _ hs2
    cases fw with
    | false =>
      have HC := HF.out w2 hs2
      go_wp2_with fail
      refine HC.mono ?_
      clear HC q0 q1 q2 lt
      rintro e w3 ⟨rfl, hd3⟩
      have hs3 := hs2.trans hd3
      obtain ⟨q0, q1, q2, lt⟩ := HGB.out _ hs3
      go_wp2_with fail
      go_ret
      exact ⟨rfl, hS1.trans hs3⟩
    | true =>
      have HC := HF.out w2 hs2
      go_wp2_with fail
      refine HC.mono ?_
      clear HC q0 q1 q2 lt
      rintro e w3 ⟨rfl, hd3⟩
      have hs3 := hs2.trans hd3
      obtain ⟨q0, q1, q2, lt⟩ := HGB.out _ hs3
      have HC := HL.out w3 hs3
      go_wp2_with fail
      refine HC.mono ?_
      clear HC q0 q1 q2 lt
      rintro e w4 ⟨v4, rfl, i4, hd4⟩
      have hs4 := hs3.trans hd4
      obtain ⟨a4, n4, c4, rfl, e4⟩ := i4.slice
      have I4 := Lib.hid i4
      have E4 := Lib.hid e4
      clear i4 e4
      obtain ⟨q0, q1, q2, lt⟩ := HGB.out _ hs4
      have HC := HD.out w4 hs4
      go_wp2_with fail
      refine HC.mono ?_
      clear HC q0 q1 q2 lt
      rintro e w5 ⟨v5, rfl, i5, hd5⟩
      have hs5 := hs4.trans hd5
      obtain ⟨a5, n5, c5, rfl, e5⟩ := i5.slice
      have I5 := Lib.hid i5
      have E5 := Lib.hid e5
      clear i5 e5
      obtain ⟨q0, q1, q2, lt⟩ := HGB.out _ hs5
      have hn4 : n4 = 0 := E4.out
      have hn5 : n5 = 0 := E5.out
      subst hn4 hn5
      go_wp2_with fail
      go_ret
      exact ⟨rfl, hS1.trans hs5⟩
  case pos =>
    obtain ⟨_, hck, hrt, hpf⟩ := rerr51_parts he
    rw [Holds_ok hck hpf] at HH
    rw [he] at HE
    have hok : ∀ x, x.Sublist g.rpeople → g.Holds x = (g.holds x, 0) := fun x hx => Holds_ok hck (sub_ok hrt hx)
    have HP := Lib.hid fun W (h : Same w1 W) => refPeopleOf_spec W g _ (HG.out W h) (by have := ppl_check hck; omega)
    rcases Living_plain g alive he with ⟨who, hh, kL, kw, kwh, -⟩ | ⟨hh, kL⟩
    · rcases Dead_plain g alive he with ⟨-, kD⟩ | ⟨block, hh', _⟩
      · rw [kL] at HL
        rw [kD] at HD
        rw [hh] at HH
        simp only at HL HD HH HE
        have hkw : g.Holds who = (true, 0) := by rw [hok who (kw.trans (both_sub _ _)), kwh]
        have hm1 : minus who alive = [] := minus_nil fun x hx => ((mine_mem g alive x).1 (kw.subset hx)).2
        have hm2 : minus who g.rpeople = [] := minus_nil fun x hx => (kw.trans (both_sub _ _)).subset hx
        have HKW := Lib.hid hkw
        have HM1 := Lib.hid hm1
        have HM2 := Lib.hid hm2
        clear he hh kL kD kw kwh hkw hm1 hm2 hok hck hrt hpf
        go_enter Try.func5, Try.ntmps5
        have HC := sane_spec w1
        rw [hW1] at HC
        clear hW1
        go_wp2_with fail
        refine HC.mono ?_
        clear HC
        rintro e w2 ⟨rfl, hd2⟩
        rw [← HW1.out] at hd2
        have hs2 := hs1.trans hd2
        obtain ⟨q0, q1, q2, lt⟩ := HGB.out _ hs2
        cases fw with
        | false =>
          have HC := HF.out w2 hs2
          go_wp2_with fail
          refine HC.mono ?_
          clear HC q0 q1 q2 lt
          rintro e w3 ⟨rfl, hd3⟩
          have hs3 := hs2.trans hd3
          obtain ⟨q0, q1, q2, lt⟩ := HGB.out _ hs3
          go_wp2_with fail
          go_ret
          exact ⟨rfl, hS1.trans hs3⟩
        | true =>
          have HC := HF.out w2 hs2
          go_wp2_with fail
          refine HC.mono ?_
          clear HC q0 q1 q2 lt
          rintro e w3 ⟨rfl, hd3⟩
          have hs3 := hs2.trans hd3
          obtain ⟨q0, q1, q2, lt⟩ := HGB.out _ hs3
          have HC := HL.out w3 hs3
          go_wp2_with fail
          refine HC.mono ?_
          clear HC q0 q1 q2 lt
          rintro e w4 ⟨v4, rfl, i4, hd4⟩
          have hs4 := hs3.trans hd4
          obtain ⟨a4, n4, c4, rfl, e4⟩ := i4.slice
          have I4 := Lib.hid i4
          have E4 := Lib.hid e4
          clear i4 e4
          obtain ⟨q0, q1, q2, lt⟩ := HGB.out _ hs4
          have HC := HD.out w4 hs4
          go_wp2_with fail
          refine HC.mono ?_
          clear HC q0 q1 q2 lt
          rintro e w5 ⟨v5, rfl, i5, hd5⟩
          have hs5 := hs4.trans hd5
          obtain ⟨a5, n5, c5, rfl, e5⟩ := i5.slice
          have I5 := Lib.hid i5
          have E5 := Lib.hid e5
          clear i5 e5
          obtain ⟨q0, q1, q2, lt⟩ := HGB.out _ hs5
          have hn5 : n5 = 0 := E5.out
          subst hn5
          have HC := HH.out w5 hs5
          go_wp2_with fail
          refine HC.mono ?_
          clear HC q0 q1 q2 lt
          rintro e w6 ⟨rfl, hd6⟩
          have hs6 := hs5.trans hd6
          obtain ⟨q0, q1, q2, lt⟩ := HGB.out _ hs6
          have HC := HE.out w6 hs6
          go_wp2_with fail
          refine HC.mono ?_
          clear HC q0 q1 q2 lt
          rintro e w7 ⟨rfl, hd7⟩
          have hs7 := hs6.trans hd7
          obtain ⟨q0, q1, q2, lt⟩ := HGB.out _ hs7
          have HC := HP.out w7 hs7
          go_wp2_with fail
          refine HC.mono ?_
          clear HC q0 q1 q2 lt
          rintro e w8 ⟨v8, rfl, i8, hd8⟩
          have hs8 := hs7.trans hd8
          obtain ⟨a8, n8, c8, rfl, e8⟩ := i8.slice
          have I8 := Lib.hid i8
          have E8 := Lib.hid e8
          clear i8 e8
          obtain ⟨q0, q1, q2, lt⟩ := HGB.out _ hs8
          have HC := Holds_spec w8 g _ _ who (HG.out _ hs8) (I4.out.keep (Same.keep (hd5.trans (hd6.trans (hd7.trans hd8)))))
          rw [HKW.out] at HC
          go_wp2_with fail
          refine HC.mono ?_
          clear HC q0 q1 q2 lt
          rintro e w9 ⟨rfl, hd9⟩
          have hs9 := hs8.trans hd9
          obtain ⟨q0, q1, q2, lt⟩ := HGB.out _ hs9
          have HC := Inside_spec w9 _ _ who alive (I4.out.keep (Same.keep (hd5.trans (hd6.trans (hd7.trans (hd8.trans hd9)))))) (HAv.out _ hs9)
          rw [HM1.out, show decide (([] : List Int) = []) = true from rfl] at HC
          go_wp2_with fail
          refine HC.mono ?_
          clear HC q0 q1 q2 lt
          rintro e w10 ⟨rfl, hd10⟩
          have hs10 := hs9.trans hd10
          obtain ⟨q0, q1, q2, lt⟩ := HGB.out _ hs10
          have HC := Inside_spec w10 _ _ who g.rpeople (I4.out.keep (Same.keep (hd5.trans (hd6.trans (hd7.trans (hd8.trans (hd9.trans hd10))))))) (I8.out.keep (Same.keep (hd9.trans hd10)))
          rw [HM2.out, show decide (([] : List Int) = []) = true from rfl] at HC
          go_wp2_with fail
          refine HC.mono ?_
          clear HC q0 q1 q2 lt
          rintro e w11 ⟨rfl, hd11⟩
          have hs11 := hs10.trans hd11
          obtain ⟨q0, q1, q2, lt⟩ := HGB.out _ hs11
          go_wp2_with fail
          go_ret
          exact ⟨rfl, hS1.trans hs11⟩
      · rw [hh] at hh'; cases hh'
    · rcases Dead_plain g alive he with ⟨hh', -⟩ | ⟨block, -, kD, kb, kbh, -⟩
      · rw [hh] at hh'; cases hh'
      · rw [kL] at HL
        rw [kD] at HD
        rw [hh] at HH
        simp only at HL HD HH HE
        have hkw : g.Holds (minus g.rpeople block) = (false, 0) := by rw [hok _ (minus_sub _ _), kbh]
        have hm1 : both block alive = [] := both_nil fun x hx => ((minus_mem _ _ x).1 (kb.subset hx)).2
        have hm2 : minus block g.rpeople = [] := minus_nil fun x hx => (kb.trans (minus_sub _ _)).subset hx
        have HKW := Lib.hid hkw
        have HM1 := Lib.hid hm1
        have HM2 := Lib.hid hm2
        clear he hh kL kD kb kbh hkw hm1 hm2 hok hck hrt hpf
        go_enter Try.func5, Try.ntmps5
        have HC := sane_spec w1
        rw [hW1] at HC
        clear hW1
        go_wp2_with fail
        refine HC.mono ?_
        clear HC
        rintro e w2 ⟨rfl, hd2⟩
        rw [← HW1.out] at hd2
        have hs2 := hs1.trans hd2
        obtain ⟨q0, q1, q2, lt⟩ := HGB.out _ hs2
        cases fw with
        | false =>
          have HC := HF.out w2 hs2
          go_wp2_with fail
          refine HC.mono ?_
          clear HC q0 q1 q2 lt
          rintro e w3 ⟨rfl, hd3⟩
          have hs3 := hs2.trans hd3
          obtain ⟨q0, q1, q2, lt⟩ := HGB.out _ hs3
          go_wp2_with fail
          go_ret
          exact ⟨rfl, hS1.trans hs3⟩
        | true =>
          have HC := HF.out w2 hs2
          go_wp2_with fail
          refine HC.mono ?_
          clear HC q0 q1 q2 lt
          rintro e w3 ⟨rfl, hd3⟩
          have hs3 := hs2.trans hd3
          obtain ⟨q0, q1, q2, lt⟩ := HGB.out _ hs3
          have HC := HL.out w3 hs3
          go_wp2_with fail
          refine HC.mono ?_
          clear HC q0 q1 q2 lt
          rintro e w4 ⟨v4, rfl, i4, hd4⟩
          have hs4 := hs3.trans hd4
          obtain ⟨a4, n4, c4, rfl, e4⟩ := i4.slice
          have I4 := Lib.hid i4
          have E4 := Lib.hid e4
          clear i4 e4
          obtain ⟨q0, q1, q2, lt⟩ := HGB.out _ hs4
          have HC := HD.out w4 hs4
          go_wp2_with fail
          refine HC.mono ?_
          clear HC q0 q1 q2 lt
          rintro e w5 ⟨v5, rfl, i5, hd5⟩
          have hs5 := hs4.trans hd5
          obtain ⟨a5, n5, c5, rfl, e5⟩ := i5.slice
          have I5 := Lib.hid i5
          have E5 := Lib.hid e5
          clear i5 e5
          obtain ⟨q0, q1, q2, lt⟩ := HGB.out _ hs5
          have hn4 : n4 = 0 := E4.out
          subst hn4
          have HC := HH.out w5 hs5
          go_wp2_with fail
          refine HC.mono ?_
          clear HC q0 q1 q2 lt
          rintro e w6 ⟨rfl, hd6⟩
          have hs6 := hs5.trans hd6
          obtain ⟨q0, q1, q2, lt⟩ := HGB.out _ hs6
          have HC := HE.out w6 hs6
          go_wp2_with fail
          refine HC.mono ?_
          clear HC q0 q1 q2 lt
          rintro e w7 ⟨rfl, hd7⟩
          have hs7 := hs6.trans hd7
          obtain ⟨q0, q1, q2, lt⟩ := HGB.out _ hs7
          have HC := HP.out w7 hs7
          go_wp2_with fail
          refine HC.mono ?_
          clear HC q0 q1 q2 lt
          rintro e w8 ⟨v8, rfl, i8, hd8⟩
          have hs8 := hs7.trans hd8
          obtain ⟨a8, n8, c8, rfl, e8⟩ := i8.slice
          have I8 := Lib.hid i8
          have E8 := Lib.hid e8
          clear i8 e8
          obtain ⟨q0, q1, q2, lt⟩ := HGB.out _ hs8
          have HC9 := fun W (hW : Same w8 W) => Without_spec W _ _ g.rpeople block (I8.out.keep (Same.keep hW)) (I5.out.keep (Same.keep (Same.trans (hd6.trans (hd7.trans hd8)) hW)))
          have HC10 := fun W v (hi : Ints W v (minus g.rpeople block)) (hW : Same w8 W) => Holds_spec W g _ v _ (HG.out _ (hs8.trans hW)) hi
          rw [HKW.out] at HC10
          go_wp2_with fail
          go_region_held3 (fun W => W.cell? ⟨w.heap.size, 0, none⟩ = some (.int .i64 g.p) ∧ W.cell? ⟨w.heap.size, 1, none⟩ = some (.int .i64 g.n) ∧ W.cell? ⟨w.heap.size, 2, none⟩ = some (.slice a n c) ∧ Same w8 W)
            (((try go_split_ands); refine ⟨?_, ?_, ?_, ?_⟩ <;> repeat (first | assumption | exact Same.refl _ | apply Same.drew | apply Same.alloc | apply cell_drew | apply cell_alloc)))
            (first
              | ((go_at_call 31; (try go_split_ands); refine (HC9 _ (by repeat (first | assumption | exact Same.refl _ | apply Same.drew))).mono ?_; rintro e w9 ⟨v9, rfl, i9, hd⟩; obtain ⟨a9, n9, c9, rfl, -⟩ := i9.slice; have hr9 : Same w8 w9 := Same.trans (by repeat (first | assumption | exact Same.refl _ | apply Same.drew)) hd; obtain ⟨r0_9, r1_9, r2_9, rl_9⟩ := HGB.out _ (hs8.trans hr9)))
              | ((go_at_call 27; (try go_split_ands); refine (HC10 _ (.slice a9 n9 c9) (Ints.keep (Same.keep (by repeat (first | exact Same.refl _ | apply Same.drew))) i9) (by repeat (first | assumption | exact Same.refl _ | apply Same.drew))).mono ?_; rintro e w10 ⟨rfl, hd⟩; have hr10 : Same w8 w10 := Same.trans (by repeat (first | assumption | exact Same.refl _ | apply Same.drew)) hd; obtain ⟨r0_10, r1_10, r2_10, rl_10⟩ := HGB.out _ (hs8.trans hr10)))
              | (fail))
          clear q0 q1 q2 lt HC9 HC10
          have hd10 := hr10
          have hs10 := hs8.trans hd10
          obtain ⟨q0, q1, q2, lt⟩ := HGB.out _ hs10
          have HC := Both_spec w10 _ _ block alive (I5.out.keep (Same.keep (hd6.trans (hd7.trans (hd8.trans hd10))))) (HAv.out _ hs10)
          rw [HM1.out] at HC
          go_wp2_with fail
          refine HC.mono ?_
          clear HC q0 q1 q2 lt
          rintro e w11 ⟨v11, rfl, i11, hd11⟩
          have hs11 := hs10.trans hd11
          obtain ⟨a11, n11, c11, rfl, e11⟩ := i11.slice
          have I11 := Lib.hid i11
          have E11 := Lib.hid e11
          clear i11 e11
          obtain ⟨q0, q1, q2, lt⟩ := HGB.out _ hs11
          have hn11 : n11 = 0 := E11.out
          subst hn11
          have HC := Inside_spec w11 _ _ block g.rpeople (I5.out.keep (Same.keep (hd6.trans (hd7.trans (hd8.trans (hd10.trans hd11)))))) (I8.out.keep (Same.keep (hd10.trans hd11)))
          rw [HM2.out, show decide (([] : List Int) = []) = true from rfl] at HC
          go_wp2_with fail
          refine HC.mono ?_
          clear HC q0 q1 q2 lt
          rintro e w12 ⟨rfl, hd12⟩
          have hs12 := hs11.trans hd12
          obtain ⟨q0, q1, q2, lt⟩ := HGB.out _ hs12
          go_wp2_with fail
          go_ret
          exact ⟨rfl, hS1.trans hs12⟩
end Go.Proofs.Ytmnpbopkhpbhiaa
