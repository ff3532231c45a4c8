/- The walk of LivingMargin. -/
import Derived.Test.YtmnpbopkhpbhiaaSaneLiving
import Derived.Test.YtmnpbopkhpbhiaaPlainLaws51
set_option linter.unusedVariables false
set_option linter.unusedSimpArgs false
namespace Go.Proofs.Ytmnpbopkhpbhiaa
open Go.RowKit
set_option maxRecDepth 100000
set_option maxHeartbeats 8000000 in
theorem LivingMargin_walk (w : World) (g : Gt) (val : Value) (alive : List Int) (v : Value) (others : List Int) (u : Value) (hg : IsG w g val) (hv : Ints w v alive) (hu : Ints w u others) :
    Calls Try.prog 6 #[val, v, u] w fun e w' => e = .returned (.bool true) ∧ Same w w' := by
  obtain ⟨vg, rfl, hat⟩ := hg
  obtain ⟨a, n, c, rfl⟩ := hat.form
  obtain ⟨av, nv, cv, rfl, zv⟩ := hv.slice
  have Zv := Lib.hid zv
  clear zv
  obtain ⟨au, nu, cu, rfl, zu⟩ := hu.slice
  have Zu := Lib.hid zu
  clear zu
  obtain ⟨w1, hW1⟩ : ∃ w1, w1 = w.alloc (.cells #[.int .i64 g.p, .int .i64 g.n, .slice a n c] 24) := ⟨_, rfl⟩
  have hS1 : Same w w1 := by rw [hW1]; exact (Same.refl w).alloc _
  have hs1 : Same w1 w1 := Same.refl _
  have hgb : ∀ W, Same w1 W → _ := fun W h => gbox (w := w) (W := W) (by rw [← hW1]; exact h)
  have hG := fun W (h : Same w1 W) => (⟨_, rfl, hat.keep (hS1.trans h).keep⟩ : IsG W g (.agg #[.int .i64 g.p, .int .i64 g.n, .slice a n c]))
  have HG := Lib.hid hG
  have hAv := fun W (h : Same w1 W) => hv.keep (hS1.trans h).keep
  have HAv := Lib.hid hAv
  have hAu := fun W (h : Same w1 W) => hu.keep (hS1.trans h).keep
  have HAu := Lib.hid hAu
  have HGB := Lib.hid hgb
  have HW1 := Lib.hid hW1
  clear hat hgb hG hv hAv hu hAu
  have HM := Lib.hid fun W (h : Same w1 W) => Margin_spec W g _ _ alive (HG.out W h) (HAv.out W h)
  have HF := Lib.hid fun W (h : Same w1 W) => few51_spec W g _ _ alive (HG.out W h) (HAv.out W h)
  have HH := Lib.hid fun W (h : Same w1 W) => Holds_spec W g _ _ alive (HG.out W h) (HAv.out W h)
  have HE := Lib.hid fun W (h : Same w1 W) => rerr51_spec W g _ _ alive (HG.out W h) (HAv.out W h)
  generalize (g.few24 && decide (alive.length ≤ 80)) = fw at *
  by_cases ho : 80 < nu
  case pos =>
    go_enter Try.func6, Try.ntmps6
    have HC := sane_spec w1
    rw [hW1] at HC
    clear hW1
    go_wp2_with fail
    refine HC.mono ?_
    clear HC
    rintro e w2 ⟨rfl, hd2⟩
    rw [← HW1.out] at hd2
    have hs2 := hs1.trans hd2
    obtain ⟨q0, q1, q2, lt⟩ := HGB.out _ hs2
    cases fw with
    | false =>
      have HC := HF.out w2 hs2
      go_wp2_with fail
      refine HC.mono ?_
      clear HC q0 q1 q2 lt
      rintro e w3 ⟨rfl, hd3⟩
      have hs3 := hs2.trans hd3
      obtain ⟨q0, q1, q2, lt⟩ := HGB.out _ hs3
      go_wp2_with fail
      go_ret
      exact ⟨rfl, hS1.trans hs3⟩
    | true =>
      have HC := HF.out w2 hs2
      go_wp2_with fail
      refine HC.mono ?_
      clear HC q0 q1 q2 lt
      rintro e w3 ⟨rfl, hd3⟩
      have hs3 := hs2.trans hd3
      obtain ⟨q0, q1, q2, lt⟩ := HGB.out _ hs3
      go_wp2_with fail
      go_ret
      exact ⟨rfl, hS1.trans hs3⟩
  case neg =>
    by_cases he : g.rerr51 alive = 0
    case neg =>
      obtain ⟨-, -, k1⟩ := bad_plain g alive he
      rw [k1] at HM
      generalize g.rerr51 alive = er at *
      simp only at HM
      have b1 : (er != 0) = true := by simpa using he
      clear he k1 HE HH
      go_enter Try.func6, Try.ntmps6
      have HC := sane_spec w1
      rw [hW1] at HC
      clear hW1
      go_wp2_with fail
      refine HC.mono ?_
      clear HC
      rintro e w2 ⟨rfl, hd2⟩
      rw [← HW1.out] at hd2
      have hs2 := hs1.trans hd2
      obtain ⟨q0, q1, q2, lt⟩ := HGB.out _ hs2
      cases fw with
      | false =>
        have HC := HF.out w2 hs2
        go_wp2_with fail
        refine HC.mono ?_
        clear HC q0 q1 q2 lt
        rintro e w3 ⟨rfl, hd3⟩
        have hs3 := hs2.trans hd3
        obtain ⟨q0, q1, q2, lt⟩ := HGB.out _ hs3
        go_wp2_with fail
        go_ret
        exact ⟨rfl, hS1.trans hs3⟩
      | true =>
        have HC := HF.out w2 hs2
        go_wp2_with fail
        refine HC.mono ?_
        clear HC q0 q1 q2 lt
        rintro e w3 ⟨rfl, hd3⟩
        have hs3 := hs2.trans hd3
        obtain ⟨q0, q1, q2, lt⟩ := HGB.out _ hs3
        have HC := HM.out w3 hs3
        go_wp2_with fail
        refine HC.mono ?_
        clear HC q0 q1 q2 lt
        rintro e w4 ⟨v4, rfl, i4, hd4⟩
        have hs4 := hs3.trans hd4
        obtain ⟨a4, n4, c4, rfl, e4⟩ := i4.slice
        have I4 := Lib.hid i4
        have E4 := Lib.hid e4
        clear i4 e4
        obtain ⟨q0, q1, q2, lt⟩ := HGB.out _ hs4
        have hn4 : n4 = 0 := E4.out
        subst hn4
        go_wp2_with fail
        go_ret
        exact ⟨rfl, hS1.trans hs4⟩
    case pos =>
      obtain ⟨_, hck, hrt, hpf⟩ := rerr51_parts he
      rw [Holds_ok hck hpf] at HH
      rw [he] at HE
      rcases Margin_plain g alive he with ⟨hh, kM⟩ | ⟨lost, hh, kM, kl, klh, klf⟩
      · rw [kM] at HM
        rw [hh] at HH
        simp only at HM HH HE
        clear he hh kM hck hrt hpf
        go_enter Try.func6, Try.ntmps6
        have HC := sane_spec w1
        rw [hW1] at HC
        clear hW1
        go_wp2_with fail
        refine HC.mono ?_
        clear HC
        rintro e w2 ⟨rfl, hd2⟩
        rw [← HW1.out] at hd2
        have hs2 := hs1.trans hd2
        obtain ⟨q0, q1, q2, lt⟩ := HGB.out _ hs2
        cases fw with
        | false =>
          have HC := HF.out w2 hs2
          go_wp2_with fail
          refine HC.mono ?_
          clear HC q0 q1 q2 lt
          rintro e w3 ⟨rfl, hd3⟩
          have hs3 := hs2.trans hd3
          obtain ⟨q0, q1, q2, lt⟩ := HGB.out _ hs3
          go_wp2_with fail
          go_ret
          exact ⟨rfl, hS1.trans hs3⟩
        | true =>
          have HC := HF.out w2 hs2
          go_wp2_with fail
          refine HC.mono ?_
          clear HC q0 q1 q2 lt
          rintro e w3 ⟨rfl, hd3⟩
          have hs3 := hs2.trans hd3
          obtain ⟨q0, q1, q2, lt⟩ := HGB.out _ hs3
          have HC := HM.out w3 hs3
          go_wp2_with fail
          refine HC.mono ?_
          clear HC q0 q1 q2 lt
          rintro e w4 ⟨v4, rfl, i4, hd4⟩
          have hs4 := hs3.trans hd4
          obtain ⟨a4, n4, c4, rfl, e4⟩ := i4.slice
          have I4 := Lib.hid i4
          have E4 := Lib.hid e4
          clear i4 e4
          obtain ⟨q0, q1, q2, lt⟩ := HGB.out _ hs4
          have hn4 : n4 = 0 := E4.out
          subst hn4
          have HC := HH.out w4 hs4
          go_wp2_with fail
          refine HC.mono ?_
          clear HC q0 q1 q2 lt
          rintro e w5 ⟨rfl, hd5⟩
          have hs5 := hs4.trans hd5
          obtain ⟨q0, q1, q2, lt⟩ := HGB.out _ hs5
          have HC := HE.out w5 hs5
          go_wp2_with fail
          refine HC.mono ?_
          clear HC q0 q1 q2 lt
          rintro e w6 ⟨rfl, hd6⟩
          have hs6 := hs5.trans hd6
          obtain ⟨q0, q1, q2, lt⟩ := HGB.out _ hs6
          go_wp2_with fail
          go_ret
          exact ⟨rfl, hS1.trans hs6⟩
      · rw [kM] at HM
        rw [hh] at HH
        simp only at HM HH HE
        have hsub : ∀ x : List Int, x.Sublist alive → g.Holds x = (g.holds x, 0) := fun x hx => Holds_ok hck (peopleFrom_sub hpf hx)
        have hk1 : g.Holds (minus alive lost) = (false, 0) := by rw [hsub _ (minus_sub _ _), margin_rest, klh]
        have hk2 : g.Holds (minus alive (both alive others)) = (g.holds (minus alive (both alive others)), 0) := hsub _ (minus_sub _ _)
        have hm1 : minus lost alive = [] := minus_nil fun x hx => ((mine_mem g alive x).1 (kl.subset hx)).2
        have hfew := tooFew_plain g alive others lost he kl klf
        unfold tooFew at hfew
        have HK1 := Lib.hid hk1
        have HK2 := Lib.hid hk2
        have HM1 := Lib.hid hm1
        have HFEW := Lib.hid hfew
        clear he hh kM kl klh klf hsub hk1 hk2 hm1 hfew hck hrt hpf
        generalize hst : g.holds (minus alive (both alive others)) = st at *
        clear hst
        go_enter Try.func6, Try.ntmps6
        have HC := sane_spec w1
        rw [hW1] at HC
        clear hW1
        go_wp2_with fail
        refine HC.mono ?_
        clear HC
        rintro e w2 ⟨rfl, hd2⟩
        rw [← HW1.out] at hd2
        have hs2 := hs1.trans hd2
        obtain ⟨q0, q1, q2, lt⟩ := HGB.out _ hs2
        cases fw with
        | false =>
          have HC := HF.out w2 hs2
          go_wp2_with fail
          refine HC.mono ?_
          clear HC q0 q1 q2 lt
          rintro e w3 ⟨rfl, hd3⟩
          have hs3 := hs2.trans hd3
          obtain ⟨q0, q1, q2, lt⟩ := HGB.out _ hs3
          go_wp2_with fail
          go_ret
          exact ⟨rfl, hS1.trans hs3⟩
        | true =>
          have HC := HF.out w2 hs2
          go_wp2_with fail
          refine HC.mono ?_
          clear HC q0 q1 q2 lt
          rintro e w3 ⟨rfl, hd3⟩
          have hs3 := hs2.trans hd3
          obtain ⟨q0, q1, q2, lt⟩ := HGB.out _ hs3
          have HC := HM.out w3 hs3
          go_wp2_with fail
          refine HC.mono ?_
          clear HC q0 q1 q2 lt
          rintro e w4 ⟨v4, rfl, i4, hd4⟩
          have hs4 := hs3.trans hd4
          obtain ⟨a4, n4, c4, rfl, e4⟩ := i4.slice
          have I4 := Lib.hid i4
          have E4 := Lib.hid e4
          clear i4 e4
          obtain ⟨q0, q1, q2, lt⟩ := HGB.out _ hs4
          have HC := HH.out w4 hs4
          go_wp2_with fail
          refine HC.mono ?_
          clear HC q0 q1 q2 lt
          rintro e w5 ⟨rfl, hd5⟩
          have hs5 := hs4.trans hd5
          obtain ⟨q0, q1, q2, lt⟩ := HGB.out _ hs5
          have HC := HE.out w5 hs5
          go_wp2_with fail
          refine HC.mono ?_
          clear HC q0 q1 q2 lt
          rintro e w6 ⟨rfl, hd6⟩
          have hs6 := hs5.trans hd6
          obtain ⟨q0, q1, q2, lt⟩ := HGB.out _ hs6
          have HC7 := fun W (hW : Same w6 W) => Without_spec W _ _ alive lost (HAv.out _ (hs6.trans hW)) (I4.out.keep (Same.keep (Same.trans (hd5.trans hd6) hW)))
          have HC8 := fun W v (hi : Ints W v (minus alive lost)) (hW : Same w6 W) => Holds_spec W g _ v _ (HG.out _ (hs6.trans hW)) hi
          rw [HK1.out] at HC8
          go_wp2_with fail
          go_region_held3 (fun W => W.cell? ⟨w.heap.size, 0, none⟩ = some (.int .i64 g.p) ∧ W.cell? ⟨w.heap.size, 1, none⟩ = some (.int .i64 g.n) ∧ W.cell? ⟨w.heap.size, 2, none⟩ = some (.slice a n c) ∧ Same w6 W)
            (((try go_split_ands); refine ⟨?_, ?_, ?_, ?_⟩ <;> repeat (first | assumption | exact Same.refl _ | apply Same.drew | apply Same.alloc | apply cell_drew | apply cell_alloc)))
            (first
              | ((go_at_call 31; (try go_split_ands); refine (HC7 _ (by repeat (first | assumption | exact Same.refl _ | apply Same.drew))).mono ?_; rintro e w7 ⟨v7, rfl, i7, hd⟩; obtain ⟨a7, n7, c7, rfl, -⟩ := i7.slice; have hr7 : Same w6 w7 := Same.trans (by repeat (first | assumption | exact Same.refl _ | apply Same.drew)) hd; obtain ⟨r0_7, r1_7, r2_7, rl_7⟩ := HGB.out _ (hs6.trans hr7)))
              | ((go_at_call 27; (try go_split_ands); refine (HC8 _ (.slice a7 n7 c7) (Ints.keep (Same.keep (by repeat (first | exact Same.refl _ | apply Same.drew))) i7) (by repeat (first | assumption | exact Same.refl _ | apply Same.drew))).mono ?_; rintro e w8 ⟨rfl, hd⟩; have hr8 : Same w6 w8 := Same.trans (by repeat (first | assumption | exact Same.refl _ | apply Same.drew)) hd; obtain ⟨r0_8, r1_8, r2_8, rl_8⟩ := HGB.out _ (hs6.trans hr8)))
              | (fail))
          clear q0 q1 q2 lt HC7 HC8
          have hd8 := hr8
          have hs8 := hs6.trans hd8
          obtain ⟨q0, q1, q2, lt⟩ := HGB.out _ hs8
          have HC := Inside_spec w8 _ _ lost alive (I4.out.keep (Same.keep (hd5.trans (hd6.trans hd8)))) (HAv.out _ hs8)
          rw [HM1.out, show decide (([] : List Int) = []) = true from rfl] at HC
          go_wp2_with fail
          refine HC.mono ?_
          clear HC q0 q1 q2 lt
          rintro e w9 ⟨rfl, hd9⟩
          have hs9 := hs8.trans hd9
          obtain ⟨q0, q1, q2, lt⟩ := HGB.out _ hs9
          have HC := Both_spec w9 _ _ alive others (HAv.out _ hs9) (HAu.out _ hs9)
          go_wp2_with fail
          refine HC.mono ?_
          clear HC q0 q1 q2 lt
          rintro e w10 ⟨v10, rfl, i10, hd10⟩
          have hs10 := hs9.trans hd10
          obtain ⟨a10, n10, c10, rfl, e10⟩ := i10.slice
          have I10 := Lib.hid i10
          have E10 := Lib.hid e10
          clear i10 e10
          obtain ⟨q0, q1, q2, lt⟩ := HGB.out _ hs10
          have HC11 := fun W (hW : Same w10 W) => Without_spec W _ _ alive (both alive others) (HAv.out _ (hs10.trans hW)) (I10.out.keep (Same.keep hW))
          have HC12 := fun W v (hi : Ints W v (minus alive (both alive others))) (hW : Same w10 W) => Holds_spec W g _ v _ (HG.out _ (hs10.trans hW)) hi
          rw [HK2.out] at HC12
          go_wp2_with fail
          go_region_held3 (fun W => W.cell? ⟨w.heap.size, 0, none⟩ = some (.int .i64 g.p) ∧ W.cell? ⟨w.heap.size, 1, none⟩ = some (.int .i64 g.n) ∧ W.cell? ⟨w.heap.size, 2, none⟩ = some (.slice a n c) ∧ Same w10 W)
            (((try go_split_ands); refine ⟨?_, ?_, ?_, ?_⟩ <;> repeat (first | assumption | exact Same.refl _ | apply Same.drew | apply Same.alloc | apply cell_drew | apply cell_alloc)))
            (first
              | ((go_at_call 31; (try go_split_ands); refine (HC11 _ (by repeat (first | assumption | exact Same.refl _ | apply Same.drew))).mono ?_; rintro e w11 ⟨v11, rfl, i11, hd⟩; obtain ⟨a11, n11, c11, rfl, -⟩ := i11.slice; have hr11 : Same w10 w11 := Same.trans (by repeat (first | assumption | exact Same.refl _ | apply Same.drew)) hd; obtain ⟨r0_11, r1_11, r2_11, rl_11⟩ := HGB.out _ (hs10.trans hr11)))
              | ((go_at_call 27; (try go_split_ands); refine (HC12 _ (.slice a11 n11 c11) (Ints.keep (Same.keep (by repeat (first | exact Same.refl _ | apply Same.drew))) i11) (by repeat (first | assumption | exact Same.refl _ | apply Same.drew))).mono ?_; rintro e w12 ⟨rfl, hd⟩; have hr12 : Same w10 w12 := Same.trans (by repeat (first | assumption | exact Same.refl _ | apply Same.drew)) hd; obtain ⟨r0_12, r1_12, r2_12, rl_12⟩ := HGB.out _ (hs10.trans hr12)))
              | (fail))
          clear q0 q1 q2 lt HC11 HC12
          have hd12 := hr12
          have hs12 := hs10.trans hd12
          obtain ⟨q0, q1, q2, lt⟩ := HGB.out _ hs12
          cases st with
          | true =>
            go_wp2_with fail
            go_ret
            exact ⟨rfl, hS1.trans hs12⟩
          | false =>
            by_cases hlt : n4 < n10
            case pos =>
              go_wp2_with fail
              go_ret
              exact ⟨rfl, hS1.trans hs12⟩
            case neg =>
              have hfw := HFEW.out
              rw [← E4.out, ← E10.out] at hfw
              simp only [hlt, decide_false, Bool.false_or, Bool.and_eq_true, decide_eq_true_eq, Bool.not_eq_true'] at hfw
              obtain ⟨hnn, hbf⟩ := hfw
              have HBF := Lib.hid hbf
              have bnn : ((n10 : Int) == (n4 : Int)) = true := by simp [hnn]
              have hge : ¬ (n4 : Int) < (n10 : Int) := by omega
              have HNN := Lib.hid hnn
              clear hnn hbf
              have HC := before_spec w12 _ _ (both alive others) lost (I10.out.keep (Same.keep hd12)) (I4.out.keep (Same.keep (hd5.trans (hd6.trans (hd8.trans (hd9.trans (hd10.trans hd12)))))))
              rw [HBF.out] at HC
              go_wp2_with fail
              refine HC.mono ?_
              clear HC q0 q1 q2 lt
              rintro e w13 ⟨rfl, hd13⟩
              have hs13 := hs12.trans hd13
              obtain ⟨q0, q1, q2, lt⟩ := HGB.out _ hs13
              go_wp2_with fail
              go_ret
              exact ⟨rfl, hS1.trans hs13⟩
end Go.Proofs.Ytmnpbopkhpbhiaa
