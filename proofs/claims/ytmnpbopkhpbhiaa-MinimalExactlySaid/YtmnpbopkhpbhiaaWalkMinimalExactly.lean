/- The walk of MinimalExactly. -/
import Derived.Test.YtmnpbopkhpbhiaaLists24
set_option linter.unusedVariables false
set_option linter.unusedSimpArgs false
namespace Go.Proofs.Ytmnpbopkhpbhiaa
open Go.RowKit
set_option maxRecDepth 100000
theorem bit_and_u16 (q : Nat) (h : q < 65536) : bits .and .u16 (q : Int) 1 = ((q % 2 : Nat) : Int) := by
  have := (bits_nat .u16 16 (by decide) (fun n h0 h1 => IntWalk.u16_in n (by omega)) q 1 (by omega) (by omega)).1
  rw [Nat.and_one_is_mod] at this
  exact this
theorem Holds_sub {g : Gt} (he : g.rerr = 0) {x : List Int} (hx : x.Sublist g.rpeople) : g.Holds x = (g.holds x, 0) := by
  have hc := rerr_check he
  rw [← rHolds_eq, rHolds_ok hc (peopleFrom_sub (rpeople_ok (rcheck_right hc)) hx)]
theorem minus_ne {a b : List Int} (h : ∃ p ∈ a, p ∈ b) : (minus a b).length ≠ a.length := by
  obtain ⟨p, hp, hb⟩ := h
  have : (minus a b).length < a.length := by
    unfold minus
    exact List.length_filter_lt_length_iff_exists.2 ⟨p, hp, by simp [hb]⟩
  omega
set_option maxHeartbeats 16000000 in
theorem MinimalExactly_walk (w : World) (g : Gt) (val : Value) (m : Int) (hg : IsG w g val) (hm : (Lit.int .u16 m).wf = true) :
    Calls Try.prog 12 #[val, .int .u16 m] w fun e w' => e = .returned (.bool true) ∧ Same w w' := by
  obtain ⟨vg, rfl, hat⟩ := hg
  obtain ⟨a, n, c, rfl⟩ := hat.form
  obtain ⟨M, rfl, hM⟩ : ∃ M : Nat, m = M ∧ M < 65536 := by
    have h : 0 ≤ m ∧ m ≤ 65535 := by simpa [Lit.wf, IntKind.min, IntKind.max, IntKind.bits, IntKind.signed] using hm
    exact ⟨m.toNat, by omega, by omega⟩
  obtain ⟨w1, hW1⟩ : ∃ w1, w1 = w.alloc (.cells #[.int .i64 g.p, .int .i64 g.n, .slice a n c] 24) := ⟨_, rfl⟩
  have hS1 : Same w w1 := by rw [hW1]; exact (Same.refl w).alloc _
  have hs1 : Same w1 w1 := Same.refl _
  have hgb : ∀ W, Same w1 W → _ := fun W h => gbox (w := w) (W := W) (by rw [← hW1]; exact h)
  have hG := fun W (h : Same w1 W) => (⟨_, rfl, hat.keep (hS1.trans h).keep⟩ : IsG W g (.agg #[.int .i64 g.p, .int .i64 g.n, .slice a n c]))
  have HG := Lib.hid hG
  have HGB := Lib.hid hgb
  have HW1 := Lib.hid hW1
  clear hat hgb hG hm
  have HL := Lib.hid fun W (h : Same w1 W) => lists_spec W g _ (HG.out W h)
  by_cases hu : g.use = true
  case neg =>
    have hu' : g.use = false := by simpa using hu
    rw [hu'] at HL
    clear hu hu'
    go_enter Try.func12, Try.ntmps12
    have HC := sane24_spec w1
    rw [hW1] at HC
    clear hW1
    go_wp2_with fail
    refine HC.mono ?_
    clear HC
    rintro e w2 ⟨rfl, hd2⟩
    rw [← HW1.out] at hd2
    have hs2 := hs1.trans hd2
    obtain ⟨q0, q1, q2, lt⟩ := HGB.out _ hs2
    have HC := HL.out w2 hs2
    go_wp2_with fail
    refine HC.mono ?_
    clear HC q0 q1 q2 lt
    rintro e w3 ⟨v3, u3, rfl, i3, j3, hd3⟩
    have hs3 := hs2.trans hd3
    have I3 := Lib.hid i3
    have J3 := Lib.hid j3
    obtain ⟨a3, c3, rfl, -, ez3, -⟩ := i3
    obtain ⟨b3, d3, rfl, -, fz3, -⟩ := j3
    obtain ⟨q0, q1, q2, lt⟩ := HGB.out _ hs3
    go_wp2_with fail
    go_ret
    exact ⟨rfl, hS1.trans hs3⟩
  case pos =>
    obtain ⟨-, he, h1, h2⟩ := use_parts hu
    have hl1 : g.lst false = g.setsK false := by rw [Gt.lst, if_pos hu]
    have hl2 : g.lst true = g.setsK true := by rw [Gt.lst, if_pos hu]
    rw [hu, hl1, hl2] at HL
    have hp12 := rerr_ppl he
    have hsort := rpeople_sorted g
    obtain ⟨who, hwho⟩ : ∃ who, who = selI g.rpeople M := ⟨_, rfl⟩
    have hsub : who.Sublist g.rpeople := by rw [hwho]; exact selI_sub _ _
    have hSo : someB (g.setsK false) who = g.holds who := some_sets hsort (holds_Mono g _) hsub
    have hSb : someB (g.setsK true) who = !g.holds (minus g.rpeople who) := some_sets hsort (hB_Mono g _) hsub
    have hmeet : ∀ x ∈ g.setsK false, ∀ y ∈ g.setsK true, (minus x y).length ≠ x.length := fun x hx y hy => minus_ne (dual_meet hsort (holds_Mono g _) (hB_dual g) hx hy)
    have hlen : ∀ b, ∀ x ∈ g.setsK b, x.length ≤ 12 := fun b x hx => Nat.le_trans (setsK_len hx) hp12
    have HLEN1 := Lib.hid (hlen false)
    have HH := Lib.hid fun W v (hi : Ints W v who) (h : Same w1 W) => (by have := Holds_spec W g _ v who (HG.out W h) hi; rwa [Holds_sub he hsub] at this : Calls Try.prog 27 #[.agg #[.int .i64 g.p, .int .i64 g.n, .slice a n c], v] W fun e w' => e = .returned (.tuple #[.bool (g.holds who), .int .i64 0]) ∧ Same W w')
    have HH2 := Lib.hid fun W v (hi : Ints W v (minus g.rpeople who)) (h : Same w1 W) => (by have := Holds_spec W g _ v _ (HG.out W h) hi; rwa [Holds_sub he (minus_sub _ _)] at this : Calls Try.prog 27 #[.agg #[.int .i64 g.p, .int .i64 g.n, .slice a n c], v] W fun e w' => e = .returned (.tuple #[.bool (g.holds (minus g.rpeople who)), .int .i64 0]) ∧ Same W w')
    have HPE := Lib.hid fun W (h : Same w1 W) => refPeopleOf_spec W g _ (HG.out W h) (by have := ppl_check (rerr_check he); omega)
    have HSO := Lib.hid hSo
    have HSB := Lib.hid hSb
    have HMEET := Lib.hid hmeet
    have HWHO := Lib.hid hwho
    have HP12 := Lib.hid hp12
    clear he h1 h2 hl1 hl2 hu hp12 hsort hsub hSo hSb hmeet hlen hwho
    generalize g.setsK false = so at *
    generalize g.setsK true = bo at *
    go_enter Try.func12, Try.ntmps12
    have HC := sane24_spec w1
    rw [hW1] at HC
    clear hW1
    go_wp2_with fail
    refine HC.mono ?_
    clear HC
    rintro e w2 ⟨rfl, hd2⟩
    rw [← HW1.out] at hd2
    have hs2 := hs1.trans hd2
    obtain ⟨q0, q1, q2, lt⟩ := HGB.out _ hs2
    have HC := HL.out w2 hs2
    go_wp2_with fail
    refine HC.mono ?_
    clear HC q0 q1 q2 lt
    rintro e w3 ⟨v3, u3, rfl, i3, j3, hd3⟩
    have hs3 := hs2.trans hd3
    have I3 := Lib.hid i3
    have J3 := Lib.hid j3
    obtain ⟨a3, c3, rfl, -, ez3, -⟩ := i3
    obtain ⟨b3, d3, rfl, -, fz3, -⟩ := j3
    obtain ⟨q0, q1, q2, lt⟩ := HGB.out _ hs3
    have HC := HPE.out w3 hs3
    go_wp2_with fail
    refine HC.mono ?_
    clear HC q0 q1 q2 lt
    rintro e w4 ⟨v4, rfl, i4, hd4⟩
    have hs4 := hs3.trans hd4
    obtain ⟨a4, n4, c4, rfl, e4⟩ := i4.slice
    have I4 := Lib.hid i4
    have E4 := Lib.hid e4
    clear i4 e4
    obtain ⟨q0, q1, q2, lt⟩ := HGB.out _ hs4
    clear q0 q1 q2 lt
    have hlp : n4 = g.rpeople.length := E4.out
    have hlp12 : n4 ≤ 12 := by have := HP12.out; omega
    have HLP := Lib.hid hlp
    obtain ⟨ap4, cp4, ep, -, -, hcp⟩ := I4.out
    injection ep with ep1 ep2 ep3
    subst ep1 ep3
    have HCP := Lib.hid hcp
    clear hcp hlp ep2
    go_wp2_with fail
    go_loopw [10, 41] (fun v10 i wr => ∃ (j : Nat) (ax : Option Addr) (nx cx : Nat), j ≤ n4 ∧ i = .int .i64 j ∧ v10 = .slice ax nx cx ∧ Hid (Own wr w4.heap.size 3 (.slice ax nx cx) (intVs (selI (g.rpeople.take j) M))) ∧ Same w4 wr) (fun _ i _ => n4 - (intOf i).toNat)
    case atStart => exact ⟨0, none, 0, 0, Nat.zero_le _, rfl, rfl, Lib.hid (by rw [show intVs (selI (g.rpeople.take 0) M) = [] from by simp [selI, intVs]]; exact World.ownsRow_nil _ _ _ _), Same.refl _⟩
    case round =>
      obtain ⟨j, ax, nx, cx, hj, rfl, rfl, HO, hS⟩ := hrel
      by_cases hlt : j < n4
      · have hlp' : j < g.rpeople.length := by rw [← HLP.out]; exact hlt
        obtain ⟨ad, x, rfl, hx, hr⟩ := HCP.out j hlp'
        unfold RInt at hr
        subst hr
        have d0 := hS.keep.cell hx
        have htk := selI_take g.rpeople M j hlp'
        have hbl : (selI (g.rpeople.take j) M).length + 1 ≤ 4096 := by have := selI_len (g.rpeople.take j) M; rw [List.length_take] at this; omega
        generalize g.rpeople[j] = xj at *
        obtain ⟨q, hq⟩ : ∃ q : Nat, q = M / 2 ^ j := ⟨_, rfl⟩
        have hq2 : (M : Int) / 2 ^ j = (q : Int) := by rw [hq]; simp
        have hq3 : q < 65536 := by rw [hq]; exact Nat.lt_of_le_of_lt (Nat.div_le_self _ _) hM
        have hbit := bit_and_u16 q hq3
        rw [← hq] at htk
        have HTK := Lib.hid htk
        have HBL := Lib.hid hbl
        clear htk hbl hq hx
        by_cases hb : q % 2 = 1
        · rw [if_pos hb] at HTK
          rw [hb] at hbit
          have HAx := Lib.hid ((own_at HO.out).alloc (.cells #[.int .i64 xj] 3))
          have HB1 := Lib.hid (show ((intVs (selI (g.rpeople.take j) M)).length + 1) * 8 ≤ 140737488355328 by rw [intVs_len]; have := HBL.out; omega)
          have HB2 := Lib.hid (hS.alloc (.cells #[.int .i64 xj] 3)).size
          clear hb hq3
          go_wp2_with (at_builtin; refine append1 (g := wr.heap.size) (wr.alloc (.cells #[.int .i64 xj] 3)) rfl _ _ 25 rfl Try.underlying25 info_int rfl HAx.out rfl (.int .i64 xj) rfl (cell_one_new _ _ _ 0 _ rfl) rfl HB1.out (by decide) HB2.out ?_)
          rintro a7 n7 c7 w7 hO2 hG2
          have hG3 := World.grownBy.trans (World.grownBy_alloc wr (.cells #[.int .i64 xj] 3) _) hG2
          have hS3 := hS.grown hG3 (fun q hq => (own_base HO.out hq).1)
          have HO2 := Lib.hid hO2
          clear hO2 hG2 hG3
          go_wp2_with fail
          go_roundw
          case rel => exact ⟨j + 1, a7, n7, c7, by omega, by go_num, rfl, Lib.hid (by rw [HTK.out, intVs_snoc]; exact HO2.out), hS3⟩
          case measure => simp [intOf]; omega
        · have hb0 : q % 2 = 0 := by omega
          rw [if_neg hb] at HTK
          rw [hb0] at hbit
          clear hb hq3 hb0
          go_wp2_with fail
          go_roundw
          case rel => exact ⟨j + 1, ax, nx, cx, by omega, by go_num, rfl, Lib.hid (by rw [HTK.out, List.append_nil]; exact HO.out), hS⟩
          case measure => simp [intOf]; omega
      · obtain rfl : n4 = j := by omega
        have hown := HO.out
        rw [HLP.out, List.take_length, ← HWHO.out] at hown
        have hiw := own_ints hown (by rw [HWHO.out]; have := selI_len g.rpeople M; have := HP12.out; omega)
        obtain ⟨_, _, _, exx, -⟩ := hiw.slice
        have IW := Lib.hid hiw
        clear hown hiw exx hlt hj
        obtain ⟨w5, hwk⟩ : ∃ w5, w5 = wr := ⟨_, rfl⟩
        subst hwk
        have hd5 := hS
        have hs5 := hs4.trans hd5
        obtain ⟨q0, q1, q2, lt⟩ := HGB.out _ hs5
        have HC := HH.out w5 _ IW.out hs5
        go_wp2_with fail
        refine HC.mono ?_
        clear HC q0 q1 q2 lt
        rintro e w6 ⟨rfl, hd6⟩
        have hs6 := hs5.trans hd6
        obtain ⟨q0, q1, q2, lt⟩ := HGB.out _ hs6
        have HC7 := fun W (hW : Same w6 W) => Without_spec W _ (.slice ax nx cx) g.rpeople who (I4.out.keep (Same.keep (Same.trans (hd5.trans hd6) hW))) (IW.out.keep (Same.keep (Same.trans hd6 hW)))
        have HC8 := fun W v (hi : Ints W v (minus g.rpeople who)) (hW : Same w6 W) => HH2.out W v hi (hs6.trans hW)
        go_wp2_with fail
        go_region_held3 (fun W => W.cell? ⟨w.heap.size, 0, none⟩ = some (.int .i64 g.p) ∧ W.cell? ⟨w.heap.size, 1, none⟩ = some (.int .i64 g.n) ∧ W.cell? ⟨w.heap.size, 2, none⟩ = some (.slice a n c) ∧ Same w6 W)
          (((try go_split_ands); refine ⟨?_, ?_, ?_, ?_⟩ <;> repeat (first | assumption | exact Same.refl _ | apply Same.drew | apply Same.alloc | apply cell_drew | apply cell_alloc)))
          (first
            | ((go_at_call 31; (try go_split_ands); refine (HC7 _ (by repeat (first | assumption | exact Same.refl _ | apply Same.drew))).mono ?_; rintro e w7 ⟨v7, rfl, i7, hd⟩; obtain ⟨a7, n7, c7, rfl, -⟩ := i7.slice; have hr7 : Same w6 w7 := Same.trans (by repeat (first | assumption | exact Same.refl _ | apply Same.drew)) hd; obtain ⟨r0_7, r1_7, r2_7, rl_7⟩ := HGB.out _ (hs6.trans hr7)))
            | ((go_at_call 27; (try go_split_ands); refine (HC8 _ (.slice a7 n7 c7) (Ints.keep (Same.keep (by repeat (first | exact Same.refl _ | apply Same.drew))) i7) (by repeat (first | assumption | exact Same.refl _ | apply Same.drew))).mono ?_; rintro e w8 ⟨rfl, hd⟩; have hr8 : Same w6 w8 := Same.trans (by repeat (first | assumption | exact Same.refl _ | apply Same.drew)) hd; obtain ⟨r0_8, r1_8, r2_8, rl_8⟩ := HGB.out _ (hs6.trans hr8)))
            | (fail))
        clear q0 q1 q2 lt HC7 HC8
        have hd8 := hr8
        have hs8 := hs6.trans hd8
        obtain ⟨q0, q1, q2, lt⟩ := HGB.out _ hs8
        generalize g.holds who = eb at *
        generalize g.holds (minus g.rpeople who) = lb at *
        have HC := some_spec w8 _ (.slice ax nx cx) so who (Intss.keep (Same.keep (hd4.trans (hd5.trans (hd6.trans hd8)))) I3.out) (IW.out.keep (Same.keep (hd6.trans hd8)))
        rw [HSO.out] at HC
        have heb : (eb != eb) = false := by cases eb <;> rfl
        have hlb : (lb == !lb) = false := by cases lb <;> rfl
        go_wp2_with fail
        refine HC.mono ?_
        clear HC q0 q1 q2 lt
        rintro e w9 ⟨rfl, hd9⟩
        have hs9 := hs8.trans hd9
        obtain ⟨q0, q1, q2, lt⟩ := HGB.out _ hs9
        have HC := some_spec w9 _ (.slice ax nx cx) bo who (Intss.keep (Same.keep (hd4.trans (hd5.trans (hd6.trans (hd8.trans hd9))))) J3.out) (IW.out.keep (Same.keep (hd6.trans (hd8.trans hd9))))
        rw [HSB.out] at HC
        go_wp2_with fail
        refine HC.mono ?_
        clear HC q0 q1 q2 lt
        rintro e w10 ⟨rfl, hd10⟩
        have hs10 := hs9.trans hd10
        obtain ⟨q0, q1, q2, lt⟩ := HGB.out _ hs10
        clear q0 q1 q2 lt
        have HSOc : Hid (Intss w10 (.slice a3 so.length c3) so) := Lib.hid (Intss.keep (Same.keep (hd4.trans (hd5.trans (hd6.trans (hd8.trans (hd9.trans hd10)))))) I3.out)
        have HBOc : Hid (Intss w10 (.slice b3 bo.length d3) bo) := Lib.hid (Intss.keep (Same.keep (hd4.trans (hd5.trans (hd6.trans (hd8.trans (hd9.trans hd10)))))) J3.out)
        go_wp2_with fail
        go_loopw [92] (fun i wr => ∃ j : Nat, j ≤ so.length ∧ i = .int .i64 j ∧ Same w10 wr) (fun i _ => so.length - (intOf i).toNat)
        case atStart => exact ⟨0, Nat.zero_le _, rfl, Same.refl _⟩
        case round =>
          obtain ⟨j1, hj1, rfl, hR⟩ := hrel
          obtain ⟨wo, hwo⟩ : ∃ wo, wo = wr := ⟨_, rfl⟩
          subst hwo
          by_cases hlt1 : j1 < so.length
          · obtain ⟨_, _, eq1, -, -, hcs⟩ := HSOc.out
            injection eq1 with eq1 _ eq3
            subst eq1 eq3
            obtain ⟨ad1, ux, rfl, hux, hix⟩ := hcs j1 hlt1
            obtain ⟨x, hx⟩ : ∃ x, x = so[j1] := ⟨_, rfl⟩
            have hxm : x ∈ so := by rw [hx]; exact List.getElem_mem _
            rw [← hx] at hix
            have hxl := HLEN1.out x hxm
            have huxr := hR.keep.cell hux
            have HIX := Lib.hid hix
            obtain ⟨ax1, nx1, cx1, rfl, enx⟩ := Ints.slice hix
            have HXM := Lib.hid hxm
            have HENX := Lib.hid enx
            have hnx12 : nx1 ≤ 12 := by omega
            clear hcs hix hx hxm hux enx hxl
            go_wp2_with fail
            go_loopw [98] (fun i wr => ∃ j : Nat, j ≤ bo.length ∧ i = .int .i64 j ∧ Same wo wr) (fun i _ => bo.length - (intOf i).toNat)
            case atStart => exact ⟨0, Nat.zero_le _, rfl, Same.refl _⟩
            case round =>
              obtain ⟨j2, hj2, rfl, hR2⟩ := hrel
              by_cases hlt2 : j2 < bo.length
              · obtain ⟨_, _, eq1, -, -, hcs⟩ := HBOc.out
                injection eq1 with eq1 _ eq3
                subst eq1 eq3
                obtain ⟨ad2, uy, rfl, huy, hiy⟩ := hcs j2 hlt2
                obtain ⟨y, hy⟩ : ∃ y, y = bo[j2] := ⟨_, rfl⟩
                have hym : y ∈ bo := by rw [hy]; exact List.getElem_mem _
                rw [← hy] at hiy
                have huyr := (hR.trans hR2).keep.cell huy
                have HX1 := Without_spec wr (.slice ax1 nx1 cx1) uy x y (Ints.keep (hR.trans hR2).keep HIX.out) (Ints.keep (hR.trans hR2).keep hiy)
                obtain ⟨ay1, ny1, cy1, rfl, -⟩ := Ints.slice hiy
                have hne := HMEET.out x HXM.out y hym
                rw [← HENX.out] at hne
                have HNE := Lib.hid hne
                clear hcs hiy hy hym huy hne
                go_wp2_with fail
                refine HX1.mono ?_
                clear HX1
                rintro e wz ⟨vz, rfl, hiz, hdz⟩
                obtain ⟨az, nz, cz, rfl, enz⟩ := hiz.slice
                have hne2 : ((nz : Int) == (nx1 : Int)) = false := by have := HNE.out; rw [← enz] at this; simpa using (by omega : ¬ (nz : Int) = nx1)
                clear hiz enz
                go_wp2_with fail
                go_roundw
                case rel => exact ⟨j2 + 1, by omega, by go_num, hR2.trans hdz⟩
                case measure => simp [intOf]; omega
              · obtain rfl : j2 = bo.length := by omega
                go_wp2_with fail
                go_roundw
                case rel => exact ⟨j1 + 1, by omega, by go_num, hR.trans hR2⟩
                case measure => simp [intOf]; omega
          · obtain rfl : j1 = so.length := by omega
            go_wp2_with fail
            go_ret
            exact ⟨rfl, hS1.trans (hs10.trans hR)⟩
end Go.Proofs.Ytmnpbopkhpbhiaa
