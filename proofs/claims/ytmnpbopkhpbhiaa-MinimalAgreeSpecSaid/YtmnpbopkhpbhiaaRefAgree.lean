/- signatoryref24: Agree. -/
import Derived.Test.YtmnpbopkhpbhiaaRefOrd
import Derived.Test.YtmnpbopkhpbhiaaRefSets
set_option linter.unusedVariables false
set_option linter.unusedSimpArgs false
namespace Go.Proofs.Ytmnpbopkhpbhiaa
open Go.RowKit
set_option maxRecDepth 100000
theorem agr_ord {g : Gt} (he : g.rerr = 0) (l m : List (List Int)) : g.agr l m = ((ordB g.rpeople l && l.all g.holds) && ((ordB g.rpeople m && m.all g.hB) && (allR g.rpeople).all fun s => someB l s || someB m (minus g.rpeople s))) := by
  rw [Gt.agr, if_neg (by simp [he]), agreeB, okFrom_and (H := g.holds), okFrom_and (H := g.hB)]; rfl
set_option maxHeartbeats 16000000 in
theorem refAgree_spec (w : World) (g : Gt) (val vl vm : Value) (l m : List (List Int)) (hg : IsG w g val) (hl : Intss w vl l) (hm : Intss w vm m) :
    Calls Try.prog 43 #[val, vl, vm] w fun e w' => e = .returned (.tuple #[.bool (g.agr l m), .int .i64 g.rerr]) ∧ Same w w' := by
  obtain ⟨vg, rfl, hat⟩ := hg
  obtain ⟨a, n, c, rfl⟩ := hat.form
  have HVL := Lib.hid hl
  have HVM := Lib.hid hm
  obtain ⟨al, cl, rfl, -, hlm, hlc⟩ := hl
  obtain ⟨am, cm, rfl, -, hmm, hmc⟩ := hm
  have HLC := Lib.hid hlc
  have HMC := Lib.hid hmc
  obtain ⟨W1, hW1⟩ : ∃ W1, W1 = w.alloc (.cells #[.int .i64 g.p, .int .i64 g.n, .slice a n c] 24) := ⟨_, rfl⟩
  have hS1 : Same w W1 := by rw [hW1]; exact (Same.refl w).alloc _
  have hgb : ∀ W, Same W1 W → _ := fun W h => gbox (w := w) (W := W) (by rw [← hW1]; exact h)
  have hG := fun W (h : Same W1 W) => (⟨_, rfl, hat.keep (hS1.trans h).keep⟩ : IsG W g (.agg #[.int .i64 g.p, .int .i64 g.n, .slice a n c]))
  have HG := Lib.hid hG
  have HGB := Lib.hid hgb
  have H1 := rerr_spec W1 g _ (hG W1 (Same.refl _))
  have hA : g.rerr ≠ 0 → g.agr l m = false := fun h => by rw [Gt.agr, if_pos h]
  have hB : g.rerr = 0 → g.agr l m = ((ordB g.rpeople l && l.all g.holds) && ((ordB g.rpeople m && m.all g.hB) && (allR g.rpeople).all fun s => someB l s || someB m (minus g.rpeople s))) := fun h => agr_ord h l m
  have hRE : g.rerr = 0 → g.rcheck = 0 ∧ g.rpeople.length ≤ 12 := fun h => ⟨rerr_check h, rerr_ppl h⟩
  have HA := Lib.hid hA
  have HB := Lib.hid hB
  have HRE := Lib.hid hRE
  have HW1 := Lib.hid hW1
  rw [hW1] at H1
  clear hW1 hat hA hB hRE hG hgb hlc hmc
  generalize hrc : g.rerr = rc at *
  clear hrc
  go_enter Try.func43, Try.ntmps43
  go_wp2_with fail
  refine H1.mono ?_
  clear H1
  rintro e w2 ⟨rfl, hs2⟩
  rw [← HW1.out] at hs2
  obtain ⟨q0, q1, q2, lt⟩ := HGB.out _ hs2
  by_cases hc : rc = 0
  · subst hc
    obtain ⟨hck, hp12⟩ := HRE.out rfl
    have HAGR := Lib.hid (HB.out rfl)
    have H2 := refPeopleOf_spec w2 g _ (HG.out w2 hs2) (by have := ppl_check hck; omega)
    have HP12 := Lib.hid hp12
    have HCK := Lib.hid hck
    clear hck hp12
    go_wp2_with fail
    refine H2.mono ?_
    clear H2 q0 q1 q2 lt
    rintro e w3 ⟨v3, rfl, hi3, hd3⟩
    have hs3 := hs2.trans hd3
    have HI3 := Lib.hid hi3
    obtain ⟨a3, n3, c3, rfl, -⟩ := hi3.slice
    have H3 := ordered_spec w3 _ _ g.rpeople l hi3 (Intss.keep (hS1.trans hs3).keep HVL.out)
    clear hi3
    cases ho1 : ordB g.rpeople l with
    | false =>
      rw [ho1] at H3
      have hbad : g.agr l m = false := by rw [HAGR.out, ho1]; rfl
      have HBAD := Lib.hid hbad
      clear hbad ho1
      go_wp2_with fail
      refine H3.mono ?_
      clear H3
      rintro e w4 ⟨rfl, hd4⟩
      go_wp2_with fail
      go_ret2
      exact ⟨by rw [HBAD.out]; rfl, hS1.trans (hs3.trans hd4)⟩
    | true =>
      rw [ho1] at H3
      have HO1 := Lib.hid ho1
      clear ho1
      go_wp2_with fail
      refine H3.mono ?_
      clear H3
      rintro e w4 ⟨rfl, hd4⟩
      have hs4 := hs3.trans hd4
      have H4 := ordered_spec w4 _ _ g.rpeople m (HI3.out.keep hd4.keep) (Intss.keep (hS1.trans hs4).keep HVM.out)
      cases ho2 : ordB g.rpeople m with
      | false =>
        rw [ho2] at H4
        have hbad : g.agr l m = false := by rw [HAGR.out, ho2, Bool.false_and, Bool.false_and, Bool.and_false]
        have HBAD := Lib.hid hbad
        clear hbad ho2
        go_wp2_with fail
        refine H4.mono ?_
        clear H4
        rintro e w5 ⟨rfl, hd5⟩
        go_wp2_with fail
        go_ret2
        exact ⟨by rw [HBAD.out]; rfl, hS1.trans (hs4.trans hd5)⟩
      | true =>
        rw [ho2] at H4
        have HO2 := Lib.hid ho2
        have hag2 := HAGR.out
        rw [HO1.out, ho2, Bool.true_and, Bool.true_and] at hag2
        have HAG2 := Lib.hid hag2
        clear ho2 hag2
        go_wp2_with fail
        refine H4.mono ?_
        clear H4
        rintro e w5 ⟨rfl, hd5⟩
        have hs5 := hs4.trans hd5
        have hs35 := hd4.trans hd5
        go_wp2_with fail
        go_loopw [10] (fun i wr => ∃ k : Nat, k ≤ l.length ∧ i = .int .i64 k ∧ Hid (∀ x ∈ l.take k, g.holds x = true) ∧ Same w5 wr) (fun i _ => l.length - (intOf i).toNat)
        case atStart => exact ⟨0, Nat.zero_le _, rfl, Lib.hid (by simp), Same.refl _⟩
        case round =>
          obtain ⟨k, hk, rfl, hall, hS⟩ := hrel
          obtain ⟨wo, hwo⟩ : ∃ wo, wo = wr := ⟨_, rfl⟩
          subst hwo
          have hS' := hs5.trans hS
          by_cases hlt : k < l.length
          · obtain ⟨q0, q1, q2, lt⟩ := HGB.out _ hS'
            obtain ⟨ad, uk, rfl, huk, hik⟩ := HLC.out k hlt
            obtain ⟨x, hx⟩ : ∃ x, x = l[k] := ⟨_, rfl⟩
            have htk : l.take (k + 1) = l.take k ++ [x] := by rw [hx, List.take_succ_eq_append_getElem hlt]
            have hxm : x ∈ l := by rw [hx]; exact List.getElem_mem _
            rw [← hx] at hik
            have hukr := (hS1.trans hS').keep.cell huk
            have HIK := Lib.hid hik
            obtain ⟨au, nu, cu, rfl, -⟩ := Ints.slice hik
            have hsub : x.Sublist g.rpeople := ordB_good (rpeople_sorted g) HO1.out x hxm
            have hrk : g.rK false x = g.holds x := by have := rK_eq HCK.out false hsub; simpa [Gt.hK] using this
            have hcall := fun p : After wo => (by have := permits_spec p.W g _ (.slice au nu cu) x (HG.out p.W (hS'.trans p.h)) (Ints.keep (hS1.trans (hS'.trans p.h)).keep HIK.out); rwa [show (g.rHolds x).1 = g.rK false x from rfl, hrk] at this : Calls Try.prog 63 #[.agg #[.int .i64 g.p, .int .i64 g.n, .slice a n c], .slice au nu cu] p.W fun e w' => e = .returned (.bool (g.holds x)) ∧ Same p.W w')
            have HTK := Lib.hid htk
            have HXM := Lib.hid hxm
            have HLT := Lib.hid hlt
            have z8 : (0 : Int) ≤ (k : Int) := by omega
            have z9 : (k : Int) < (l.length : Int) := by omega
            clear huk hik hx htk hxm hsub hrk
            cases hb : g.holds x with
            | false =>
              rw [hb] at hcall
              have hbad : g.agr l m = false := by
                have e : l.all g.holds = false := List.all_eq_false.2 ⟨x, HXM.out, by rw [hb]; simp⟩
                rw [HAG2.out, e]; simp
              have HBAD := Lib.hid hbad
              clear hbad hb
              go_wp2_with fail
              have c0 := After.cell q0
              have c1 := After.cell q1
              have c2 := After.cell q2
              have c3 := After.cell hukr
              refine wp_region_same (by kernel_rfl) (by kernel_rfl) (Same.refl wo) ?_
              repeat (refine wpQuiet_step (fun K hK => ?_); (try subst hA); go_simp; first | (refine quiet_next hK (fun A hA => ?_); clear hK K) | (apply Exists.intro; refine ⟨fun _ => ?_, quiet_next hK (fun A hA => ?_)⟩; (go_at_call 63; exact Calls.after (hcall _)); clear hK K))
              subst hA
              refine wpQuiet_nil ?_
              rintro _ ⟨⟨w8, hS8⟩, rfl⟩
              clear c0 c1 c2 c3
              go_wp2_with fail
              go_ret2
              exact ⟨by rw [HBAD.out]; rfl, hS1.trans (hS'.trans hS8)⟩
            | true =>
              rw [hb] at hcall
              have HBB := Lib.hid hb
              clear hb
              go_wp2_with fail
              have c0 := After.cell q0
              have c1 := After.cell q1
              have c2 := After.cell q2
              have c3 := After.cell hukr
              refine wp_region_same (by kernel_rfl) (by kernel_rfl) (Same.refl wo) ?_
              repeat (refine wpQuiet_step (fun K hK => ?_); (try subst hA); go_simp; first | (refine quiet_next hK (fun A hA => ?_); clear hK K) | (apply Exists.intro; refine ⟨fun _ => ?_, quiet_next hK (fun A hA => ?_)⟩; (go_at_call 63; exact Calls.after (hcall _)); clear hK K))
              subst hA
              refine wpQuiet_nil ?_
              rintro _ ⟨⟨w8, hS8⟩, rfl⟩
              clear c0 c1 c2 c3
              go_wp2_with fail
              go_roundw
              case rel => exact ⟨k + 1, by have := HLT.out; omega, by go_num, Lib.hid (by
                intro z hz
                rw [HTK.out, List.mem_append, List.mem_singleton] at hz
                rcases hz with hz | rfl
                · exact hall.out z hz
                · exact HBB.out), hS.trans hS8⟩
              case measure => have := HLT.out; simp [intOf]; omega
          · obtain rfl : k = l.length := by omega
            have hal := hall.out
            rw [List.take_length] at hal
            have HALL := Lib.hid (List.all_eq_true.2 hal)
            clear hal hall hlt hk
            have hag3 : g.agr l m = (m.all g.hB && (allR g.rpeople).all fun s => someB l s || someB m (minus g.rpeople s)) := by rw [HAG2.out, HALL.out, Bool.true_and]
            have HAG3 := Lib.hid hag3
            have hS6 := hS
            have hs6 := hS'
            clear hag3 hS hS'
            obtain ⟨w6, hw6⟩ : ∃ w6, w6 = wo := ⟨_, rfl⟩
            subst hw6
            go_wp2_with fail
            go_loopw [11] (fun i wr => ∃ k : Nat, k ≤ m.length ∧ i = .int .i64 k ∧ Hid (∀ x ∈ m.take k, g.hB x = true) ∧ Same w6 wr) (fun i _ => m.length - (intOf i).toNat)
            case atStart => exact ⟨0, Nat.zero_le _, rfl, Lib.hid (by simp), Same.refl _⟩
            case round =>
              obtain ⟨k, hk, rfl, hall, hS⟩ := hrel
              obtain ⟨wo, hwo⟩ : ∃ wo, wo = wr := ⟨_, rfl⟩
              subst hwo
              have hS' := hs6.trans hS
              by_cases hlt : k < m.length
              · obtain ⟨q0, q1, q2, lt⟩ := HGB.out _ hS'
                obtain ⟨ad, uk, rfl, huk, hik⟩ := HMC.out k hlt
                obtain ⟨x, hx⟩ : ∃ x, x = m[k] := ⟨_, rfl⟩
                have htk : m.take (k + 1) = m.take k ++ [x] := by rw [hx, List.take_succ_eq_append_getElem hlt]
                have hxm : x ∈ m := by rw [hx]; exact List.getElem_mem _
                rw [← hx] at hik
                have hukr := (hS1.trans hS').keep.cell huk
                have HIK := Lib.hid hik
                obtain ⟨au, nu, cu, rfl, -⟩ := Ints.slice hik
                have hsub : x.Sublist g.rpeople := ordB_good (rpeople_sorted g) HO2.out x hxm
                have hrk : g.rK true x = g.hB x := by have := rK_eq HCK.out true hsub; simpa [Gt.hK] using this
                have hcall := fun p : After wo => (by have := refblocks_spec p.W g _ (.slice au nu cu) x (HG.out p.W (hS'.trans p.h)) (Ints.keep (hS1.trans (hS'.trans p.h)).keep HIK.out) (by have := ppl_check HCK.out; omega); rwa [show (!(g.rHolds (minus g.rpeople x)).1) = g.rK true x from rfl, hrk] at this : Calls Try.prog 83 #[.agg #[.int .i64 g.p, .int .i64 g.n, .slice a n c], .slice au nu cu] p.W fun e w' => e = .returned (.bool (g.hB x)) ∧ Same p.W w')
                have HTK := Lib.hid htk
                have HXM := Lib.hid hxm
                have HLT := Lib.hid hlt
                have z8 : (0 : Int) ≤ (k : Int) := by omega
                have z9 : (k : Int) < (m.length : Int) := by omega
                clear huk hik hx htk hxm hsub hrk
                cases hb : g.hB x with
                | false =>
                  rw [hb] at hcall
                  have hbad : g.agr l m = false := by
                    have e : m.all g.hB = false := List.all_eq_false.2 ⟨x, HXM.out, by rw [hb]; simp⟩
                    rw [HAG3.out, e]; simp
                  have HBAD := Lib.hid hbad
                  clear hbad hb
                  go_wp2_with fail
                  have c0 := After.cell q0
                  have c1 := After.cell q1
                  have c2 := After.cell q2
                  have c3 := After.cell hukr
                  refine wp_region_same (by kernel_rfl) (by kernel_rfl) (Same.refl wo) ?_
                  repeat (refine wpQuiet_step (fun K hK => ?_); (try subst hA); go_simp; first | (refine quiet_next hK (fun A hA => ?_); clear hK K) | (apply Exists.intro; refine ⟨fun _ => ?_, quiet_next hK (fun A hA => ?_)⟩; (go_at_call 83; exact Calls.after (hcall _)); clear hK K))
                  subst hA
                  refine wpQuiet_nil ?_
                  rintro _ ⟨⟨w8, hS8⟩, rfl⟩
                  clear c0 c1 c2 c3
                  go_wp2_with fail
                  go_ret2
                  exact ⟨by rw [HBAD.out]; rfl, hS1.trans (hS'.trans hS8)⟩
                | true =>
                  rw [hb] at hcall
                  have HBB := Lib.hid hb
                  clear hb
                  go_wp2_with fail
                  have c0 := After.cell q0
                  have c1 := After.cell q1
                  have c2 := After.cell q2
                  have c3 := After.cell hukr
                  refine wp_region_same (by kernel_rfl) (by kernel_rfl) (Same.refl wo) ?_
                  repeat (refine wpQuiet_step (fun K hK => ?_); (try subst hA); go_simp; first | (refine quiet_next hK (fun A hA => ?_); clear hK K) | (apply Exists.intro; refine ⟨fun _ => ?_, quiet_next hK (fun A hA => ?_)⟩; (go_at_call 83; exact Calls.after (hcall _)); clear hK K))
                  subst hA
                  refine wpQuiet_nil ?_
                  rintro _ ⟨⟨w8, hS8⟩, rfl⟩
                  clear c0 c1 c2 c3
                  go_wp2_with fail
                  go_roundw
                  case rel => exact ⟨k + 1, by have := HLT.out; omega, by go_num, Lib.hid (by
                    intro z hz
                    rw [HTK.out, List.mem_append, List.mem_singleton] at hz
                    rcases hz with hz | rfl
                    · exact hall.out z hz
                    · exact HBB.out), hS.trans hS8⟩
                  case measure => have := HLT.out; simp [intOf]; omega
              · obtain rfl : k = m.length := by omega
                have hal := hall.out
                rw [List.take_length] at hal
                have HALM := Lib.hid (List.all_eq_true.2 hal)
                clear hal hall hlt hk
                have hag4 : g.agr l m = (allR g.rpeople).all fun s => someB l s || someB m (minus g.rpeople s) := by rw [HAG3.out, HALM.out, Bool.true_and]
                have HAG4 := Lib.hid hag4
                have hs37 := (hs35.trans hS6).trans hS
                have H5 := all_spec wo _ _ (HI3.out.keep hs37.keep) HP12.out
                have hs7 := hS'
                clear hag4
                go_wp2_with fail
                refine H5.mono ?_
                clear H5
                rintro e w9 ⟨v9, us, rfl, ho9, hr9, hd9⟩
                obtain ⟨a9, n9, c9, rfl, rfl⟩ := ho9.slice
                have hs9 := hs7.trans hd9
                have hus : us.length ≤ 60000 := by rw [hr9.1]; exact allR_count HP12.out
                have HO9 := Lib.hid ho9
                have HR9 := Lib.hid hr9
                have HI9 := Lib.hid (HI3.out.keep (hs37.trans hd9).keep)
                clear ho9 hr9 hs37
                go_wp2_with fail
                go_loopw [13] (fun i wr => ∃ k : Nat, k ≤ us.length ∧ i = .int .i64 k ∧ Hid (∀ x ∈ (allR g.rpeople).take k, (someB l x || someB m (minus g.rpeople x)) = true) ∧ Same w9 wr) (fun i _ => us.length - (intOf i).toNat)
                case atStart => exact ⟨0, Nat.zero_le _, rfl, Lib.hid (by simp), Same.refl _⟩
                case round =>
                  obtain ⟨k, hk, rfl, hall, hS2⟩ := hrel
                  have hS2' := hs9.trans hS2
                  by_cases hlt : k < us.length
                  · obtain ⟨a9', c9', e9, _, hcc⟩ := HO9.out.cells
                    injection e9 with e91 e92 e93
                    subst e91 e93
                    obtain ⟨ad, rfl, hck9⟩ := hcc k hlt
                    have hkl : k < (allR g.rpeople).length := by rw [← HR9.out.1]; exact hlt
                    obtain ⟨y, hy⟩ : ∃ y, y = (allR g.rpeople)[k] := ⟨_, rfl⟩
                    have hym : y ∈ allR g.rpeople := by rw [hy]; exact List.getElem_mem _
                    have hyl : y.length ≤ 13 := allR_len HP12.out hym
                    have hiy : Ints w9 us[k] y := by rw [hy]; exact own_ints (HR9.out.2 k hlt hkl) (by rw [← hy]; omega)
                    have htk : (allR g.rpeople).take (k + 1) = (allR g.rpeople).take k ++ [y] := by rw [hy, List.take_succ_eq_append_getElem hkl]
                    have hckr := hS2.keep.cell hck9
                    have HIY := Lib.hid hiy
                    have HTK := Lib.hid htk
                    have HYM := Lib.hid hym
                    have HLT := Lib.hid hlt
                    have z8 : (0 : Int) ≤ (k : Int) := by omega
                    have z9 : (k : Int) < (us.length : Int) := by omega
                    clear hy hkl hyl hcc htk hym hck9
                    generalize us[k] = uk at *
                    obtain ⟨au, nu, cu, rfl, -⟩ := hiy.slice
                    clear hiy
                    have H6 := some_spec wr _ (.slice au nu cu) l y (Intss.keep (hS1.trans hS2').keep HVL.out) (Ints.keep hS2.keep HIY.out)
                    cases hx1 : someB l y with
                    | true =>
                      rw [hx1] at H6
                      have HX1 := Lib.hid hx1
                      clear hx1
                      go_wp2_with fail
                      refine H6.mono ?_
                      clear H6
                      rintro e w10 ⟨rfl, hd10⟩
                      go_wp2_with fail
                      go_roundw
                      case rel => exact ⟨k + 1, by have := HLT.out; omega, by go_num, Lib.hid (by
                        intro z hz
                        rw [HTK.out, List.mem_append, List.mem_singleton] at hz
                        rcases hz with hz | rfl
                        · exact hall.out z hz
                        · rw [HX1.out]; rfl), hS2.trans hd10⟩
                      case measure => have := HLT.out; simp [intOf]; omega
                    | false =>
                      rw [hx1] at H6
                      have HX1 := Lib.hid hx1
                      clear hx1
                      go_wp2_with fail
                      refine H6.mono ?_
                      clear H6
                      rintro e w10 ⟨rfl, hd10⟩
                      have H7 := Without_spec w10 _ (.slice au nu cu) g.rpeople y (HI9.out.keep (hS2.trans hd10).keep) (Ints.keep (hS2.trans hd10).keep HIY.out)
                      have hckx := hd10.keep.cell hckr
                      go_wp2_with fail
                      refine H7.mono ?_
                      clear H7
                      rintro e w11 ⟨v11, rfl, hi11, hd11⟩
                      obtain ⟨a11, n11, c11, rfl, -⟩ := hi11.slice
                      have hs11 := hS2'.trans (hd10.trans hd11)
                      have H8 := some_spec w11 _ _ m (minus g.rpeople y) (Intss.keep (hS1.trans hs11).keep HVM.out) hi11
                      clear hi11
                      cases hx2 : someB m (minus g.rpeople y) with
                      | true =>
                        rw [hx2] at H8
                        have HX2 := Lib.hid hx2
                        clear hx2
                        go_wp2_with fail
                        refine H8.mono ?_
                        clear H8
                        rintro e w12 ⟨rfl, hd12⟩
                        go_wp2_with fail
                        go_roundw
                        case rel => exact ⟨k + 1, by have := HLT.out; omega, by go_num, Lib.hid (by
                          intro z hz
                          rw [HTK.out, List.mem_append, List.mem_singleton] at hz
                          rcases hz with hz | rfl
                          · exact hall.out z hz
                          · rw [HX2.out, Bool.or_true]), hS2.trans (hd10.trans (hd11.trans hd12))⟩
                        case measure => have := HLT.out; simp [intOf]; omega
                      | false =>
                        rw [hx2] at H8
                        have hbad : g.agr l m = false := by
                          rw [HAG4.out, List.all_eq_false]
                          exact ⟨y, HYM.out, by rw [HX1.out, hx2]; simp⟩
                        have HBAD := Lib.hid hbad
                        clear hbad hx2
                        go_wp2_with fail
                        refine H8.mono ?_
                        clear H8
                        rintro e w12 ⟨rfl, hd12⟩
                        go_wp2_with fail
                        go_ret2
                        exact ⟨by rw [HBAD.out]; rfl, hS1.trans (hs11.trans hd12)⟩
                  · obtain rfl : k = us.length := by omega
                    have hok : g.agr l m = true := by
                      have h := hall.out
                      rw [HR9.out.1, List.take_length] at h
                      rw [HAG4.out, List.all_eq_true]; exact h
                    have HOK := Lib.hid hok
                    clear hok hall
                    go_wp2_with fail
                    go_ret2
                    exact ⟨by rw [HOK.out]; rfl, hS1.trans hS2'⟩
  · have hb : (rc != 0) = true := by simpa using hc
    have HC := Lib.hid hc
    clear hc
    go_wp2_with fail
    go_ret2
    exact ⟨by rw [HA.out HC.out]; rfl, hS1.trans hs2⟩
end Go.Proofs.Ytmnpbopkhpbhiaa
