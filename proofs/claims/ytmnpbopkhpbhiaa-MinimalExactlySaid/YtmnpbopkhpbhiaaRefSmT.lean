/- signatoryref24: smallest. -/
import Derived.Test.YtmnpbopkhpbhiaaRefSets
import Derived.Test.YtmnpbopkhpbhiaaRoundReg
set_option linter.unusedVariables false
set_option linter.unusedSimpArgs false
namespace Go.Proofs.Ytmnpbopkhpbhiaa
open Go.RowKit
set_option maxRecDepth 100000
/-- What is left of a found set: none of those before is a part of it. -/
def freeB2 (xss : List (List Int)) (x : List Int) : Bool := xss.all fun y => !inB y x
set_option maxHeartbeats 8000000 in
theorem refsmallest_true (w : World) (g : Gt) (val : Value) (hg : IsG w g val) :
    Calls Try.prog 77 #[val, .bool true] w fun e w' => ∃ v', e = .returned (.tuple #[v', .int .i64 (g.sErr true)]) ∧ Intss w' v' (g.sOut true) ∧ Same w w' := by
  obtain ⟨vg, rfl, hat⟩ := hg
  obtain ⟨a, n, c, rfl⟩ := hat.form
  obtain ⟨W1, hW1⟩ : ∃ W1, W1 = w.alloc (.cells #[.int .i64 g.p, .int .i64 g.n, .slice a n c] 24) := ⟨_, rfl⟩
  have hS1 : Same w W1 := by rw [hW1]; exact (Same.refl w).alloc _
  have hgb : ∀ W, Same W1 W → _ := fun W h => gbox (w := w) (W := W) (by rw [← hW1]; exact h)
  have hG := fun W (h : Same W1 W) => (⟨_, rfl, hat.keep (hS1.trans h).keep⟩ : IsG W g (.agg #[.int .i64 g.p, .int .i64 g.n, .slice a n c]))
  have HG := Lib.hid hG
  have HGB := Lib.hid hgb
  have H1 := rerr_spec W1 g _ (hG W1 (Same.refl _))
  have hE : g.sErr true = if g.rerr ≠ 0 then g.rerr else tooMany (g.setsK true).length := rfl
  have hO : g.sOut true = if g.sErr true = 0 then g.setsK true else [] := rfl
  have HE := Lib.hid hE
  have HO := Lib.hid hO
  have hRE : g.rerr = 0 → g.rcheck = 0 ∧ g.rpeople.length ≤ 12 := fun h => ⟨rerr_check h, rerr_ppl h⟩
  have HRE := Lib.hid hRE
  have HW1 := Lib.hid hW1
  rw [hW1] at H1
  clear hW1 hat hgb hG hE hO hRE
  generalize hrc : g.rerr = rc at *
  clear hrc
  go_enter Try.func77, Try.ntmps77
  go_wp2_with fail
  refine H1.mono ?_
  clear H1
  rintro e w2 ⟨rfl, hs2⟩
  rw [← HW1.out] at hs2
  obtain ⟨q0, q1, q2, lt⟩ := HGB.out _ hs2
  by_cases hc : rc = 0
  · subst hc
    obtain ⟨hck, hp12⟩ := HRE.out rfl
    have H2 := refPeopleOf_spec w2 g _ (HG.out w2 hs2) (by have := ppl_check hck; omega)
    have HP12 := Lib.hid hp12
    have HCK := Lib.hid hck
    clear hck hp12
    go_wp2_with fail
    refine H2.mono ?_
    clear H2
    rintro e w3 ⟨v3, rfl, hi3, hs3⟩
    obtain ⟨a3, n3, c3, rfl, -⟩ := hi3.slice
    have hs3 := hs2.trans hs3
    have H4 := all_spec w3 _ _ hi3 HP12.out
    clear hi3
    go_wp2_with fail
    refine H4.mono ?_
    clear H4
    rintro e w5 ⟨v5, us, rfl, ho5, hr5, hs5⟩
    obtain ⟨a5, n5, c5, rfl, rfl⟩ := ho5.slice
    have hs5 := hs3.trans hs5
    have hus : us.length ≤ 60000 := by rw [hr5.1]; exact allR_count HP12.out
    obtain ⟨W6, hW6⟩ : ∃ W6, W6 = w5.alloc (.cells #[] 25) := ⟨_, rfl⟩
    have hs56 : Same w5 W6 := by rw [hW6]; exact (Same.refl w5).alloc _
    have hown6 : Own W6 w5.heap.size 25 (.slice (some ⟨w5.heap.size, 0, none⟩) 0 0) [] := by rw [hW6]; exact own_zero (h_new _ _) (Nat.le_refl _)
    have HOA := Lib.hid ho5
    have HRA := Lib.hid hr5
    have HW6 := Lib.hid hW6
    clear ho5 hr5 hW6 q0 q1 q2 lt
    go_wp2_with fail
    rw [← HW6.out]
    go_loopw [8, 9] (fun v8 i wr => ∃ (k : Nat) (ax : Option Addr) (nx cx : Nat) (us2 : List Value), k ≤ us.length ∧ i = .int .i64 k ∧ v8 = .slice ax nx cx ∧ Hid (Own wr w5.heap.size 25 (.slice ax nx cx) us2) ∧ Hid (RowsI w5 us2 (((allR g.rpeople).take k).filter (minB (g.hK true)))) ∧ Same w5 wr) (fun _ i _ => us.length - (intOf i).toNat)
    case atStart => exact ⟨0, _, _, _, [], Nat.zero_le _, rfl, rfl, Lib.hid hown6, Lib.hid (by simpa using RowsI.nil w5), hs56⟩
    case round =>
      obtain ⟨k, ax, nx, cx, us2, hk, rfl, rfl, HX, HXR, hS⟩ := hrel
      obtain ⟨wo, hwo⟩ : ∃ wo, wo = wr := ⟨_, rfl⟩
      subst hwo
      have hS' := hs5.trans hS
      obtain ⟨q0, q1, q2, lt⟩ := HGB.out _ hS'
      obtain ⟨_, _, _, hxe, rfl⟩ := HX.out.slice
      injection hxe with hxe1 hxe2 hxe3
      subst hxe1 hxe2 hxe3
      by_cases hlt : k < us.length
      · obtain ⟨a5', c5', e5, _, hcc⟩ := HOA.out.cells
        injection e5 with e51 e52 e53
        subst e51 e53
        obtain ⟨ad, ead, hck⟩ := hcc k hlt
        subst ead
        have hkl : k < (allR g.rpeople).length := by rw [← HRA.out.1]; exact hlt
        obtain ⟨y, hy⟩ : ∃ y, y = (allR g.rpeople)[k] := ⟨_, rfl⟩
        have hys : y.Sublist g.rpeople := by rw [hy]; exact (allR_mem _ _).1 (List.getElem_mem _)
        have hyl : y.length ≤ 13 := by have := hys.length_le; have := HP12.out; omega
        have hiy : Ints w5 us[k] y := by rw [hy]; exact own_ints (HRA.out.2 k hlt hkl) (by rw [← hy]; omega)
        have hckr := hS.keep.cell hck
        have HIY := Lib.hid hiy
        have hkey := small_key (rpeople_sorted g) (hK_Mono g true g.rpeople) k hkl
        have htk : ((allR g.rpeople).take (k + 1)).filter (minB (g.hK true)) = ((allR g.rpeople).take k).filter (minB (g.hK true)) ++ (if minB (g.hK true) y then [y] else []) := by
          rw [List.take_succ_eq_append_getElem hkl, List.filter_append, ← hy]
          by_cases e : minB (g.hK true) y = true <;> simp [e]
        rw [← hy, ← rK_eq HCK.out true hys] at hkey
        have HKEY := Lib.hid hkey
        have HTK := Lib.hid htk
        have HLT := Lib.hid hlt
        have hacc : (((allR g.rpeople).take k).filter (minB (g.hK true))).length ≤ 60000 := by
          have := List.length_filter_le (minB (g.hK true)) ((allR g.rpeople).take k)
          have := allR_count HP12.out
          rw [List.length_take] at *; omega
        obtain ⟨acc, hac⟩ : ∃ acc, acc = ((allR g.rpeople).take k).filter (minB (g.hK true)) := ⟨_, rfl⟩
        rw [← hac] at HKEY HTK HXR hacc
        have hu2 : us2.length ≤ 60000 := by rw [HXR.out.1]; exact hacc
        have z8 : (0 : Int) ≤ (k : Int) := by omega
        have z9 : (k : Int) < (us.length : Int) := by omega
        have hPM := fun W (h : Same wo W) => permits_spec W g _ us[k] y (HG.out W (hS'.trans h)) (HIY.out.keep (hS.trans h).keep)
        have hBL := fun W (h : Same wo W) => refblocks_spec W g _ us[k] y (HG.out W (hS'.trans h)) (HIY.out.keep (hS.trans h).keep) (by have := ppl_check HCK.out; omega)
        have hrk : g.rK true y = if true then !(g.rHolds (minus g.rpeople y)).1 else (g.rHolds y).1 := rfl
        have hoc : us[k].oneCell' = true := hiy.one
        have HOC := Lib.hid hoc
        clear hy hkl hyl hys hck hcc hkey htk hacc hac hoc
        generalize us[k] = uk at *
        obtain ⟨au, nu, cu, rfl, -⟩ := hiy.slice
        clear hiy
        rw [show g.rK true y = !(g.rHolds (minus g.rpeople y)).1 from rfl] at HKEY
        have hlt := HLT.out
        cases hrh : (g.rHolds (minus g.rpeople y)).1 with
        | false =>
          rw [hrh] at HKEY hBL
          rw [Bool.not_false] at HKEY hBL
          clear hrh hPM hrk
          go_wp2_with fail
          have c0 := After.cell q0
          have c1 := After.cell q1
          have c2 := After.cell q2
          have c3 := After.cell hckr
          have hcall := fun p : After wo => hBL p.W p.h
          refine wp_region_same (by kernel_rfl) (by kernel_rfl) (Same.refl wo) ?_
          repeat (refine wpQuiet_step (fun K hK => ?_); (try subst hA); go_simp; first | (refine quiet_next hK (fun A hA => ?_); clear hK K) | (apply Exists.intro; refine ⟨fun _ => ?_, quiet_next hK (fun A hA => ?_)⟩; (go_at_call 83; exact Calls.after (hcall _)); clear hK K))
          subst hA
          refine wpQuiet_nil ?_
          rintro _ ⟨⟨w8, hS8⟩, rfl⟩
          clear q0 q1 q2 lt c0 c1 c2 c3 hcall
          go_wp2_with fail
          go_loopw [10, 11] (fun v10 i wx => ∃ (k2 : Nat) (fb : Bool), k2 ≤ us2.length ∧ i = .int .i64 k2 ∧ v10 = .bool fb ∧ Hid (fb = (true && freeB2 (acc.take k2) y)) ∧ Same wo wx) (fun _ i _ => us2.length - (intOf i).toNat)
          case atStart => exact ⟨0, true, Nat.zero_le _, rfl, rfl, Lib.hid (by simp [freeB2]), hS8⟩
          case round =>
            obtain ⟨k2, fb, hk2, rfl, rfl, hfb, hSx⟩ := hrel
            by_cases hlt2 : k2 < us2.length
            · cases fb with
              | true =>
                obtain ⟨ax', cx', ex, _, hxc⟩ := HX.out.cells
                injection ex with ex1 ex2 ex3
                subst ex1 ex3
                obtain ⟨adx, eadx, hx2⟩ := hxc k2 hlt2
                subst eadx
                have ha2 : k2 < acc.length := by rw [← HXR.out.1]; exact hlt2
                have hix := HXR.out.2 k2 hlt2 ha2
                have hx2r := hSx.keep.cell hx2
                have hckx := hSx.keep.cell hckr
                have hf1 : (true && freeB2 (acc.take (k2 + 1)) y) = !inB acc[k2] y := by
                  have e := hfb.out
                  rw [freeB2] at e ⊢
                  rw [List.take_succ_eq_append_getElem ha2, List.all_append, ← Bool.and_assoc, ← e]
                  simp
                have HF1 := Lib.hid hf1
                have hIN := fun W (h : Same wr W) => Inside_spec W us2[k2] (.slice au nu cu) acc[k2] y (hix.keep ((hS.trans hSx).trans h).keep) (HIY.out.keep ((hS.trans hSx).trans h).keep)
                rw [inside_inB] at hIN
                obtain ⟨ak, nk, ck, hke, -⟩ := hix.slice
                rw [hke] at hx2r hIN
                have z10 : (0 : Int) ≤ (k2 : Int) := by omega
                have z11 : (k2 : Int) < (us2.length : Int) := by omega
                have HLT2 := Lib.hid hlt2
                clear hxc hx2 hix hf1 hfb hke
                generalize inB acc[k2] y = ib at *
                cases ib with
                | true =>
                  go_wp2_with fail
                  have c1 := After.cell hx2r
                  have c2 := After.cell hckx
                  have hcall := fun p : After wr => hIN p.W p.h
                  refine wp_region_same (by kernel_rfl) (by kernel_rfl) (Same.refl wr) ?_
                  repeat (refine wpQuiet_step (fun K hK => ?_); (try subst hA); go_simp; first | (refine quiet_next hK (fun A hA => ?_); clear hK K) | (apply Exists.intro; refine ⟨fun _ => ?_, quiet_next hK (fun A hA => ?_)⟩; (go_at_call 30; exact Calls.after (hcall _)); clear hK K))
                  subst hA
                  refine wpQuiet_nil ?_
                  rintro _ ⟨⟨w9, hS9⟩, rfl⟩
                  clear c1 c2 hcall
                  go_wp2_with fail
                  go_roundw
                  case rel => exact ⟨k2 + 1, _, by omega, by go_num, rfl, Lib.hid HF1.out.symm, hSx.trans hS9⟩
                  case measure => simp [intOf]; omega
                | false =>
                  go_wp2_with fail
                  have c1 := After.cell hx2r
                  have c2 := After.cell hckx
                  have hcall := fun p : After wr => hIN p.W p.h
                  refine wp_region_same (by kernel_rfl) (by kernel_rfl) (Same.refl wr) ?_
                  repeat (refine wpQuiet_step (fun K hK => ?_); (try subst hA); go_simp; first | (refine quiet_next hK (fun A hA => ?_); clear hK K) | (apply Exists.intro; refine ⟨fun _ => ?_, quiet_next hK (fun A hA => ?_)⟩; (go_at_call 30; exact Calls.after (hcall _)); clear hK K))
                  subst hA
                  refine wpQuiet_nil ?_
                  rintro _ ⟨⟨w9, hS9⟩, rfl⟩
                  clear c1 c2 hcall
                  go_wp2_with fail
                  go_roundw
                  case rel => exact ⟨k2 + 1, _, by omega, by go_num, rfl, Lib.hid HF1.out.symm, hSx.trans hS9⟩
                  case measure => simp [intOf]; omega
              | false =>
                have hm : minB (g.hK true) y = false := by
                  rw [← HKEY.out]
                  have e := hfb.out
                  rw [show (acc.all fun z => !inB z y) = freeB2 acc y from rfl]
                  conv => lhs; rw [← List.take_append_drop k2 acc]
                  rw [freeB2, List.all_append, ← Bool.and_assoc]
                  rw [freeB2] at e
                  rw [← e]; rfl
                have hacc2 := HTK.out
                rw [hm] at hacc2
                simp only [Bool.false_eq_true, if_false, List.append_nil] at hacc2
                have HA2 := Lib.hid hacc2
                clear hm hacc2 hfb
                go_wp2_with fail
                go_roundw
                case rel => exact ⟨k + 1, ax, _, cx, us2, by have := hlt; omega, by go_num, rfl, Lib.hid (own_keep hSx.keep HX.out), Lib.hid (by rw [HA2.out]; exact HXR.out), hS.trans hSx⟩
                case measure => have := hlt; simp [intOf]; omega
            · obtain rfl : k2 = us2.length := by omega
              have hm : minB (g.hK true) y = fb := by
                rw [← HKEY.out, hfb.out, HXR.out.1, List.take_length]; rfl
              have hacc2 := HTK.out
              rw [hm] at hacc2
              cases fb with
              | false =>
                simp only [Bool.false_eq_true, if_false, List.append_nil] at hacc2
                have HA2 := Lib.hid hacc2
                clear hm hacc2 hfb
                go_wp2_with fail
                go_roundw
                case rel => exact ⟨k + 1, ax, _, cx, us2, by have := hlt; omega, by go_num, rfl, Lib.hid (own_keep hSx.keep HX.out), Lib.hid (by rw [HA2.out]; exact HXR.out), hS.trans hSx⟩
                case measure => have := hlt; simp [intOf]; omega
              | true =>
                simp only [if_true] at hacc2
                have HA2 := Lib.hid hacc2
                have hckx := hSx.keep.cell hckr
                have HO2 := Lib.hid (own_keep (hSx.alloc (.cells #[.slice au nu cu] 25)).keep HX.out)
                have HBB := Lib.hid (show (us2.length + [Value.slice au nu cu].length) * 24 ≤ 140737488355328 by simp only [List.length_singleton]; omega)
                have hSw := hS.trans hSx
                have HSW := Lib.hid hSw
                clear hm hacc2 hfb
                go_wp2_with (at_builtin; refine wpList_append_src rfl _ _ 40 rfl Try.underlying40 info_ints rfl HO2.out rfl (cells_one (h_new _ _)) rfl (by intro q hq; rw [List.mem_singleton.1 hq]; rfl) HBB.out (by decide) (hSw.alloc _).size ?_)
                rintro a7 n7 c7 w7 hO7 hG7 hB7 hW7
                have hS7 := Same.grown (HSW.out.alloc (.cells #[.slice au nu cu] 25)) hG7 hB7
                have HO7 := Lib.hid hO7
                clear hO7 hG7 hB7 hW7
                go_wp2_with fail
                go_roundw
                case rel => exact ⟨k + 1, a7, n7, c7, _, by have := hlt; omega, by go_num, rfl, HO7, Lib.hid (by rw [HA2.out]; exact HXR.out.snoc HIY.out), hS7⟩
                case measure => have := hlt; simp [intOf]; omega
        | true =>
          rw [hrh] at HKEY hBL
          rw [Bool.not_true] at HKEY hBL
          clear hrh hPM hrk
          go_wp2_with fail
          have c0 := After.cell q0
          have c1 := After.cell q1
          have c2 := After.cell q2
          have c3 := After.cell hckr
          have hcall := fun p : After wo => hBL p.W p.h
          refine wp_region_same (by kernel_rfl) (by kernel_rfl) (Same.refl wo) ?_
          repeat (refine wpQuiet_step (fun K hK => ?_); (try subst hA); go_simp; first | (refine quiet_next hK (fun A hA => ?_); clear hK K) | (apply Exists.intro; refine ⟨fun _ => ?_, quiet_next hK (fun A hA => ?_)⟩; (go_at_call 83; exact Calls.after (hcall _)); clear hK K))
          subst hA
          refine wpQuiet_nil ?_
          rintro _ ⟨⟨w8, hS8⟩, rfl⟩
          clear q0 q1 q2 lt c0 c1 c2 c3 hcall
          go_wp2_with fail
          go_loopw [10, 11] (fun v10 i wx => ∃ (k2 : Nat) (fb : Bool), k2 ≤ us2.length ∧ i = .int .i64 k2 ∧ v10 = .bool fb ∧ Hid (fb = (false && freeB2 (acc.take k2) y)) ∧ Same wo wx) (fun _ i _ => us2.length - (intOf i).toNat)
          case atStart => exact ⟨0, false, Nat.zero_le _, rfl, rfl, Lib.hid (by simp [freeB2]), hS8⟩
          case round =>
            obtain ⟨k2, fb, hk2, rfl, rfl, hfb, hSx⟩ := hrel
            by_cases hlt2 : k2 < us2.length
            · cases fb with
              | true =>
                obtain ⟨ax', cx', ex, _, hxc⟩ := HX.out.cells
                injection ex with ex1 ex2 ex3
                subst ex1 ex3
                obtain ⟨adx, eadx, hx2⟩ := hxc k2 hlt2
                subst eadx
                have ha2 : k2 < acc.length := by rw [← HXR.out.1]; exact hlt2
                have hix := HXR.out.2 k2 hlt2 ha2
                have hx2r := hSx.keep.cell hx2
                have hckx := hSx.keep.cell hckr
                have hf1 : (false && freeB2 (acc.take (k2 + 1)) y) = !inB acc[k2] y := by
                  have e := hfb.out
                  rw [freeB2] at e ⊢
                  rw [List.take_succ_eq_append_getElem ha2, List.all_append, ← Bool.and_assoc, ← e]
                  simp
                have HF1 := Lib.hid hf1
                have hIN := fun W (h : Same wr W) => Inside_spec W us2[k2] (.slice au nu cu) acc[k2] y (hix.keep ((hS.trans hSx).trans h).keep) (HIY.out.keep ((hS.trans hSx).trans h).keep)
                rw [inside_inB] at hIN
                obtain ⟨ak, nk, ck, hke, -⟩ := hix.slice
                rw [hke] at hx2r hIN
                have z10 : (0 : Int) ≤ (k2 : Int) := by omega
                have z11 : (k2 : Int) < (us2.length : Int) := by omega
                have HLT2 := Lib.hid hlt2
                clear hxc hx2 hix hf1 hfb hke
                generalize inB acc[k2] y = ib at *
                cases ib with
                | true =>
                  go_wp2_with fail
                  have c1 := After.cell hx2r
                  have c2 := After.cell hckx
                  have hcall := fun p : After wr => hIN p.W p.h
                  refine wp_region_same (by kernel_rfl) (by kernel_rfl) (Same.refl wr) ?_
                  repeat (refine wpQuiet_step (fun K hK => ?_); (try subst hA); go_simp; first | (refine quiet_next hK (fun A hA => ?_); clear hK K) | (apply Exists.intro; refine ⟨fun _ => ?_, quiet_next hK (fun A hA => ?_)⟩; (go_at_call 30; exact Calls.after (hcall _)); clear hK K))
                  subst hA
                  refine wpQuiet_nil ?_
                  rintro _ ⟨⟨w9, hS9⟩, rfl⟩
                  clear c1 c2 hcall
                  go_wp2_with fail
                  go_roundw
                  case rel => exact ⟨k2 + 1, _, by omega, by go_num, rfl, Lib.hid HF1.out.symm, hSx.trans hS9⟩
                  case measure => simp [intOf]; omega
                | false =>
                  go_wp2_with fail
                  have c1 := After.cell hx2r
                  have c2 := After.cell hckx
                  have hcall := fun p : After wr => hIN p.W p.h
                  refine wp_region_same (by kernel_rfl) (by kernel_rfl) (Same.refl wr) ?_
                  repeat (refine wpQuiet_step (fun K hK => ?_); (try subst hA); go_simp; first | (refine quiet_next hK (fun A hA => ?_); clear hK K) | (apply Exists.intro; refine ⟨fun _ => ?_, quiet_next hK (fun A hA => ?_)⟩; (go_at_call 30; exact Calls.after (hcall _)); clear hK K))
                  subst hA
                  refine wpQuiet_nil ?_
                  rintro _ ⟨⟨w9, hS9⟩, rfl⟩
                  clear c1 c2 hcall
                  go_wp2_with fail
                  go_roundw
                  case rel => exact ⟨k2 + 1, _, by omega, by go_num, rfl, Lib.hid HF1.out.symm, hSx.trans hS9⟩
                  case measure => simp [intOf]; omega
              | false =>
                have hm : minB (g.hK true) y = false := by
                  rw [← HKEY.out]
                  have e := hfb.out
                  rw [show (acc.all fun z => !inB z y) = freeB2 acc y from rfl]
                  conv => lhs; rw [← List.take_append_drop k2 acc]
                  rw [freeB2, List.all_append, ← Bool.and_assoc]
                  rw [freeB2] at e
                  rw [← e]; rfl
                have hacc2 := HTK.out
                rw [hm] at hacc2
                simp only [Bool.false_eq_true, if_false, List.append_nil] at hacc2
                have HA2 := Lib.hid hacc2
                clear hm hacc2 hfb
                go_wp2_with fail
                go_roundw
                case rel => exact ⟨k + 1, ax, _, cx, us2, by have := hlt; omega, by go_num, rfl, Lib.hid (own_keep hSx.keep HX.out), Lib.hid (by rw [HA2.out]; exact HXR.out), hS.trans hSx⟩
                case measure => have := hlt; simp [intOf]; omega
            · obtain rfl : k2 = us2.length := by omega
              have hm : minB (g.hK true) y = fb := by
                rw [← HKEY.out, hfb.out, HXR.out.1, List.take_length]; rfl
              have hacc2 := HTK.out
              rw [hm] at hacc2
              cases fb with
              | false =>
                simp only [Bool.false_eq_true, if_false, List.append_nil] at hacc2
                have HA2 := Lib.hid hacc2
                clear hm hacc2 hfb
                go_wp2_with fail
                go_roundw
                case rel => exact ⟨k + 1, ax, _, cx, us2, by have := hlt; omega, by go_num, rfl, Lib.hid (own_keep hSx.keep HX.out), Lib.hid (by rw [HA2.out]; exact HXR.out), hS.trans hSx⟩
                case measure => have := hlt; simp [intOf]; omega
              | true =>
                simp only [if_true] at hacc2
                have HA2 := Lib.hid hacc2
                have hckx := hSx.keep.cell hckr
                have HO2 := Lib.hid (own_keep (hSx.alloc (.cells #[.slice au nu cu] 25)).keep HX.out)
                have HBB := Lib.hid (show (us2.length + [Value.slice au nu cu].length) * 24 ≤ 140737488355328 by simp only [List.length_singleton]; omega)
                have hSw := hS.trans hSx
                have HSW := Lib.hid hSw
                clear hm hacc2 hfb
                go_wp2_with (at_builtin; refine wpList_append_src rfl _ _ 40 rfl Try.underlying40 info_ints rfl HO2.out rfl (cells_one (h_new _ _)) rfl (by intro q hq; rw [List.mem_singleton.1 hq]; rfl) HBB.out (by decide) (hSw.alloc _).size ?_)
                rintro a7 n7 c7 w7 hO7 hG7 hB7 hW7
                have hS7 := Same.grown (HSW.out.alloc (.cells #[.slice au nu cu] 25)) hG7 hB7
                have HO7 := Lib.hid hO7
                clear hO7 hG7 hB7 hW7
                go_wp2_with fail
                go_roundw
                case rel => exact ⟨k + 1, a7, n7, c7, _, by have := hlt; omega, by go_num, rfl, HO7, Lib.hid (by rw [HA2.out]; exact HXR.out.snoc HIY.out), hS7⟩
                case measure => have := hlt; simp [intOf]; omega
      · obtain rfl : k = us.length := by omega
        have hall : ((allR g.rpeople).take us.length).filter (minB (g.hK true)) = g.setsK true := by rw [List.take_of_length_le (Nat.le_of_eq HRA.out.1.symm)]; rfl
        rw [hall] at HXR
        have hl2 : us2.length = (g.setsK true).length := HXR.out.1
        have hsm : (g.setsK true).length ≤ 60000 := by
          have := List.length_filter_le (minB (g.hK true)) (allR g.rpeople)
          have := allR_count HP12.out
          unfold Gt.setsK setsP; omega
        have HSM := Lib.hid hsm
        have HL2 := Lib.hid hl2
        clear hall hl2 hsm
        by_cases hbig : 256 < us2.length
        · have HB := Lib.hid hbig
          go_wp2_with fail
          go_ret2
          have he : g.sErr true = 2 := by rw [HE.out, if_neg (by simp), tooMany, if_pos (by rw [← HL2.out]; exact HB.out)]
          exact ⟨.slice none 0 0, by rw [he]; rfl, by rw [HO.out, he, if_neg (by decide)]; exact ⟨none, 0, rfl, by simp, by simp, fun i h => by simp at h⟩, hS1.trans hS'⟩
        · have HB := Lib.hid hbig
          go_wp2_with fail
          go_ret2
          have he : g.sErr true = 0 := by rw [HE.out, if_neg (by simp), tooMany, if_neg (by rw [← HL2.out]; exact HB.out)]
          exact ⟨_, by rw [he]; rfl, by rw [HO.out, he, if_pos rfl]; exact RowsI.intss HX.out (HXR.out.keep hS.keep) (by have := HSM.out; omega), hS1.trans hS'⟩
  · have hb : (rc != 0) = true := by simpa using hc
    have HC := Lib.hid hc
    clear hc
    go_wp2_with fail
    go_ret2
    exact ⟨.slice none 0 0, by rw [HE.out, if_pos HC.out]; rfl, by rw [HO.out, HE.out, if_pos HC.out, if_neg HC.out]; exact ⟨none, 0, rfl, by simp, by simp, fun i h => by simp at h⟩, hS1.trans hs2⟩
end Go.Proofs.Ytmnpbopkhpbhiaa
