/- signatoryref24: ordered, Agree. -/
import Derived.Test.YtmnpbopkhpbhiaaMinAgree
set_option linter.unusedVariables false
set_option linter.unusedSimpArgs false
namespace Go.Proofs.Ytmnpbopkhpbhiaa
open Go.RowKit
set_option maxRecDepth 100000
/-- Are the rows in order? -/
def ordB (ps : List Int) (l : List (List Int)) : Bool := okFrom ps (fun _ => true) [] l
theorem ordB_good {ps : List Int} (hn : ps.Pairwise (· < ·)) {l : List (List Int)} (h : ordB ps l = true) : ∀ x ∈ l, x.Sublist ps := fun x hx => (((okFrom_iff hn l).1 h).1 x hx).1
set_option maxHeartbeats 8000000 in
theorem ordered_spec (w : World) (v vl : Value) (ps : List Int) (l : List (List Int)) (hv : Ints w v ps) (hl : Intss w vl l) :
    Calls Try.prog 82 #[v, vl] w fun e w' => e = .returned (.bool (ordB ps l)) ∧ Same w w' := by
  have HV := Lib.hid hv
  obtain ⟨a, n, c, rfl, -⟩ := hv.slice
  obtain ⟨al, cl, rfl, -, hlm, hc⟩ := hl
  have HC := Lib.hid hc
  clear hc hv
  go_enter Try.func82, Try.ntmps82
  go_wp2_with fail
  go_loopw [5] (fun i wr => ∃ k : Nat, k ≤ l.length ∧ i = .int .i64 k ∧ Hid (ordB ps l = okFrom ps (fun _ => true) (l.take k) (l.drop k)) ∧ Same w wr) (fun i _ => l.length - (intOf i).toNat)
  case atStart => exact ⟨0, Nat.zero_le _, rfl, Lib.hid rfl, Same.refl _⟩
  case round =>
    obtain ⟨k, hk, rfl, HOK, hS⟩ := hrel
    obtain ⟨wo, hwo⟩ : ∃ wo, wo = wr := ⟨_, rfl⟩
    subst hwo
    by_cases hlt : k < l.length
    · obtain ⟨ad, uk, rfl, huk, hik⟩ := HC.out k hlt
      have hstep := okFrom_step ps (fun _ => true) l k hlt
      rw [Bool.and_true] at hstep
      have hat := rowOk_at ps l k hlt
      obtain ⟨x, hx⟩ : ∃ x, x = l[k] := ⟨_, rfl⟩
      rw [← hx] at hstep hat hik
      have hukr := hS.keep.cell huk
      have HIK := Lib.hid hik
      obtain ⟨au, nu, cu, rfl, -⟩ := Ints.slice hik
      have HSTEP := Lib.hid hstep
      have HAT := Lib.hid hat
      have HLT := Lib.hid hlt
      have hI1 := fun p : After wo => increasing_spec p.W (.slice au nu cu) x (Ints.keep (hS.trans p.h).keep HIK.out)
      have hI2 := fun p : After wo => (by have := Inside_spec p.W (.slice au nu cu) (.slice a n c) x ps (Ints.keep (hS.trans p.h).keep HIK.out) (Ints.keep (hS.trans p.h).keep HV.out); rwa [inside_inB] at this : Calls Try.prog 30 #[.slice au nu cu, .slice a n c] p.W fun e w' => e = .returned (.bool (inB x ps)) ∧ Same p.W w')
      have z8 : (0 : Int) ≤ (k : Int) := by omega
      have z9 : (k : Int) < (l.length : Int) := by omega
      clear huk hik hstep hat hx
      cases hA : incB x with
      | false =>
        rw [hA] at hI1
        have hbad : ordB ps l = false := by rw [HOK.out, HSTEP.out, rowOk_bad (by rw [hA]; rfl)]; rfl
        have HBAD := Lib.hid hbad
        clear hbad
        go_wp2_with fail
        have c0 := After.cell hukr
        refine wp_region_same (by kernel_rfl) (by kernel_rfl) (Same.refl wo) ?_
        repeat (refine wpQuiet_step (fun K hK => ?_); (try subst hA); go_simp; first | (refine quiet_next hK (fun A hA => ?_); clear hK K) | (apply Exists.intro; refine ⟨fun _ => ?_, quiet_next hK (fun A hA => ?_)⟩; (first | (go_at_call 48; exact Calls.after (hI1 _)) | (go_at_call 30; exact Calls.after (hI2 _))); clear hK K))
        subst hA
        refine wpQuiet_nil ?_
        rintro _ ⟨⟨w7, hS7⟩, rfl⟩
        clear c0
        go_wp2_with fail
        go_ret
        exact ⟨ret_bool (by rw [HBAD.out]), hS.trans hS7⟩
      | true =>
        rw [hA] at hI1
        cases hB : inB x ps with
        | false =>
          rw [hB] at hI2
          have hbad : ordB ps l = false := by rw [HOK.out, HSTEP.out, rowOk_bad (by rw [hB, Bool.and_false])]; rfl
          have HBAD := Lib.hid hbad
          clear hbad
          go_wp2_with fail
          have c0 := After.cell hukr
          refine wp_region_same (by kernel_rfl) (by kernel_rfl) (Same.refl wo) ?_
          repeat (refine wpQuiet_step (fun K hK => ?_); (try subst hA); go_simp; first | (refine quiet_next hK (fun A hA => ?_); clear hK K) | (apply Exists.intro; refine ⟨fun _ => ?_, quiet_next hK (fun A hA => ?_)⟩; (first | (go_at_call 48; exact Calls.after (hI1 _)) | (go_at_call 30; exact Calls.after (hI2 _))); clear hK K))
          subst hA
          refine wpQuiet_nil ?_
          rintro _ ⟨⟨w7, hS7⟩, rfl⟩
          clear c0
          go_wp2_with fail
          go_ret
          exact ⟨ret_bool (by rw [HBAD.out]), hS.trans hS7⟩
        | true =>
          rw [hB] at hI2
          have hrow := HAT.out (by rw [hA, hB]; rfl)
          clear hA hB
          by_cases h0 : 0 < k
          · rw [dif_pos h0] at hrow
            obtain ⟨j0, hj0⟩ : ∃ j0, j0 = k - 1 := ⟨_, rfl⟩
            have hkj : (k : Int) - 1 = (j0 : Int) := by omega
            have hj0l : j0 < l.length := by omega
            have hwr : IntKind.i64.wrap (j0 : Int) = (j0 : Int) := IntWalk.i64_in _ (by omega)
            obtain ⟨ad', u0, had, hu0, hi0⟩ := HC.out j0 hj0l
            injection had with had
            subst had
            obtain ⟨y, hy⟩ : ∃ y, y = l[j0] := ⟨_, rfl⟩
            have hyk : l[k - 1]'(by omega) = y := by subst hj0; exact hy.symm
            rw [hyk] at hrow
            rw [← hy] at hi0
            have HI0 := Lib.hid hi0
            obtain ⟨a0, n0, c0, rfl, -⟩ := Ints.slice hi0
            have hu0r := hS.keep.cell hu0
            have hkp : decide (0 < (k : Int)) = true := by simpa using h0
            have hI4 := fun p : After wo => before_spec p.W (.slice a0 n0 c0) (.slice au nu cu) y x (Ints.keep (hS.trans p.h).keep HI0.out) (Ints.keep (hS.trans p.h).keep HIK.out)
            have z5 : (0 : Int) ≤ (j0 : Int) := by omega
            have z4 : (j0 : Int) < (l.length : Int) := by omega
            clear hi0 hy hyk hj0 hu0
            cases hC : beforeB y x with
            | false =>
              rw [hC] at hI4 hrow
              have hbad : ordB ps l = false := by rw [HOK.out, HSTEP.out, hrow]; rfl
              have HBAD := Lib.hid hbad
              clear hbad
              go_wp2_with fail
              have c0 := After.cell hukr
              have c1 := After.cell hu0r
              refine wp_region_same (by kernel_rfl) (by kernel_rfl) (Same.refl wo) ?_
              repeat (refine wpQuiet_step (fun K hK => ?_); (try subst hA); go_simp; first | (refine quiet_next hK (fun A hA => ?_); clear hK K) | (apply Exists.intro; refine ⟨fun _ => ?_, quiet_next hK (fun A hA => ?_)⟩; (first | (go_at_call 48; exact Calls.after (hI1 _)) | (go_at_call 30; exact Calls.after (hI2 _)) | (go_at_call 33; exact Calls.after (hI4 _))); clear hK K))
              subst hA
              refine wpQuiet_nil ?_
              rintro _ ⟨⟨w7, hS7⟩, rfl⟩
              clear c0 c1
              go_wp2_with fail
              go_ret
              exact ⟨ret_bool (by rw [HBAD.out]), hS.trans hS7⟩
            | true =>
              rw [hC, Bool.true_and] at hrow
              rw [hC] at hI4
              have HROW := Lib.hid hrow
              clear hrow hC
              go_wp2_with fail
              have c0 := After.cell hukr
              have c1 := After.cell hu0r
              refine wp_region_same (by kernel_rfl) (by kernel_rfl) (Same.refl wo) ?_
              repeat (refine wpQuiet_step (fun K hK => ?_); (try subst hA); go_simp; first | (refine quiet_next hK (fun A hA => ?_); clear hK K) | (apply Exists.intro; refine ⟨fun _ => ?_, quiet_next hK (fun A hA => ?_)⟩; (first | (go_at_call 48; exact Calls.after (hI1 _)) | (go_at_call 30; exact Calls.after (hI2 _)) | (go_at_call 33; exact Calls.after (hI4 _))); clear hK K))
              subst hA
              refine wpQuiet_nil ?_
              rintro _ ⟨⟨w7, hS7⟩, rfl⟩
              clear c0 c1
              go_wp2_with fail
              go_loopw [6] (fun i wx => ∃ k2 : Nat, k2 ≤ k ∧ i = .int .i64 k2 ∧ Hid (∀ y ∈ l.take k2, inB y x = false) ∧ Same wo wx) (fun i _ => k - (intOf i).toNat)
              case atStart => exact ⟨0, Nat.zero_le _, rfl, Lib.hid (by simp), hS7⟩
              case round =>
                obtain ⟨k2, hk2, rfl, hno, hSx⟩ := hrel
                obtain ⟨wx, hwx⟩ : ∃ wx, wx = wr := ⟨_, rfl⟩
                subst hwx
                by_cases hlt2 : k2 < k
                · have hl2 : k2 < l.length := by have := HLT.out; omega
                  obtain ⟨ad', u2, had, hu2, hi2⟩ := HC.out k2 hl2
                  injection had with had
                  subst had
                  obtain ⟨y, hy⟩ : ∃ y, y = l[k2] := ⟨_, rfl⟩
                  rw [← hy] at hi2
                  have HI2 := Lib.hid hi2
                  obtain ⟨a2, n2, c2, rfl, -⟩ := Ints.slice hi2
                  have hu2r := (hS.trans hSx).keep.cell hu2
                  have hukx := hSx.keep.cell hukr
                  have hmem : y ∈ l.take k := by rw [hy]; exact List.mem_take_iff_getElem.2 ⟨k2, by omega, rfl⟩
                  have htk : l.take (k2 + 1) = l.take k2 ++ [y] := by rw [hy, List.take_succ_eq_append_getElem hl2]
                  have HMEM := Lib.hid hmem
                  have HTK := Lib.hid htk
                  have hI3 := fun p : After wx => (by have := Inside_spec p.W (.slice a2 n2 c2) (.slice au nu cu) y x (Ints.keep ((hS.trans hSx).trans p.h).keep HI2.out) (Ints.keep ((hS.trans hSx).trans p.h).keep HIK.out); rwa [inside_inB] at this : Calls Try.prog 30 #[.slice a2 n2 c2, .slice au nu cu] p.W fun e w' => e = .returned (.bool (inB y x)) ∧ Same p.W w')
                  have z6 : (0 : Int) ≤ (k2 : Int) := by omega
                  have z7 : (k2 : Int) < (l.length : Int) := by omega
                  clear hu2 hi2 hy hmem htk
                  cases hin : inB y x with
                  | true =>
                    rw [hin] at hI3
                    have hbad : ordB ps l = false := by
                      have hs : someB (l.take k) x = true := (someB_iff _ _).2 ⟨y, HMEM.out, (inB_iff _ _).1 hin⟩
                      rw [HOK.out, HSTEP.out, HROW.out, hs]; rfl
                    have HBAD := Lib.hid hbad
                    clear hbad hin
                    go_wp2_with fail
                    have c0 := After.cell hu2r
                    have c1 := After.cell hukx
                    refine wp_region_same (by kernel_rfl) (by kernel_rfl) (Same.refl wx) ?_
                    repeat (refine wpQuiet_step (fun K hK => ?_); (try subst hA); go_simp; first | (refine quiet_next hK (fun A hA => ?_); clear hK K) | (apply Exists.intro; refine ⟨fun _ => ?_, quiet_next hK (fun A hA => ?_)⟩; (go_at_call 30; exact Calls.after (hI3 _)); clear hK K))
                    subst hA
                    refine wpQuiet_nil ?_
                    rintro _ ⟨⟨w8, hS8⟩, rfl⟩
                    clear c0 c1
                    go_wp2_with fail
                    go_ret
                    exact ⟨ret_bool (by rw [HBAD.out]), hS.trans (hSx.trans hS8)⟩
                  | false =>
                    rw [hin] at hI3
                    have HIN := Lib.hid hin
                    clear hin
                    go_wp2_with fail
                    have c0 := After.cell hu2r
                    have c1 := After.cell hukx
                    refine wp_region_same (by kernel_rfl) (by kernel_rfl) (Same.refl wx) ?_
                    repeat (refine wpQuiet_step (fun K hK => ?_); (try subst hA); go_simp; first | (refine quiet_next hK (fun A hA => ?_); clear hK K) | (apply Exists.intro; refine ⟨fun _ => ?_, quiet_next hK (fun A hA => ?_)⟩; (go_at_call 30; exact Calls.after (hI3 _)); clear hK K))
                    subst hA
                    refine wpQuiet_nil ?_
                    rintro _ ⟨⟨w8, hS8⟩, rfl⟩
                    clear c0 c1
                    go_wp2_with fail
                    go_roundw
                    case rel => exact ⟨k2 + 1, by omega, by go_num, Lib.hid (by
                      intro z hz
                      rw [HTK.out, List.mem_append, List.mem_singleton] at hz
                      rcases hz with hz | rfl
                      · exact hno.out z hz
                      · exact HIN.out), hSx.trans hS8⟩
                    case measure => simp [intOf]; omega
                · obtain rfl : k = k2 := by omega
                  have hnx : ordB ps l = okFrom ps (fun _ => true) (l.take (k + 1)) (l.drop (k + 1)) := by
                    have hs : someB (l.take k) x = false := by
                      cases e : someB (l.take k) x with
                      | false => rfl
                      | true =>
                        obtain ⟨y, hy, hyx⟩ := (someB_iff _ _).1 e
                        have := hno.out y hy
                        rw [(inB_iff _ _).2 hyx] at this; cases this
                    rw [HOK.out, HSTEP.out, HROW.out, hs]; rfl
                  have HNX := Lib.hid hnx
                  clear hnx hno
                  go_wp2_with fail
                  go_roundw
                  case rel => exact ⟨k + 1, by have := HLT.out; omega, by go_num, HNX, hS.trans hSx⟩
                  case measure => have := HLT.out; simp [intOf]; omega
          · rw [dif_neg h0, Bool.true_and] at hrow
            have hkz : k = 0 := by omega
            have hkp : decide (0 < (k : Int)) = false := by simp [hkz]
            have HROW := Lib.hid hrow
            clear hrow hkz
            go_wp2_with fail
            have c0 := After.cell hukr
            refine wp_region_same (by kernel_rfl) (by kernel_rfl) (Same.refl wo) ?_
            repeat (refine wpQuiet_step (fun K hK => ?_); (try subst hA); go_simp; first | (refine quiet_next hK (fun A hA => ?_); clear hK K) | (apply Exists.intro; refine ⟨fun _ => ?_, quiet_next hK (fun A hA => ?_)⟩; (first | (go_at_call 48; exact Calls.after (hI1 _)) | (go_at_call 30; exact Calls.after (hI2 _))); clear hK K))
            subst hA
            refine wpQuiet_nil ?_
            rintro _ ⟨⟨w7, hS7⟩, rfl⟩
            clear c0
            go_wp2_with fail
            go_loopw [6] (fun i wx => ∃ k2 : Nat, k2 ≤ k ∧ i = .int .i64 k2 ∧ Hid (∀ y ∈ l.take k2, inB y x = false) ∧ Same wo wx) (fun i _ => k - (intOf i).toNat)
            case atStart => exact ⟨0, Nat.zero_le _, rfl, Lib.hid (by simp), hS7⟩
            case round =>
              obtain ⟨k2, hk2, rfl, hno, hSx⟩ := hrel
              obtain ⟨wx, hwx⟩ : ∃ wx, wx = wr := ⟨_, rfl⟩
              subst hwx
              by_cases hlt2 : k2 < k
              · have hl2 : k2 < l.length := by have := HLT.out; omega
                obtain ⟨ad', u2, had, hu2, hi2⟩ := HC.out k2 hl2
                injection had with had
                subst had
                obtain ⟨y, hy⟩ : ∃ y, y = l[k2] := ⟨_, rfl⟩
                rw [← hy] at hi2
                have HI2 := Lib.hid hi2
                obtain ⟨a2, n2, c2, rfl, -⟩ := Ints.slice hi2
                have hu2r := (hS.trans hSx).keep.cell hu2
                have hukx := hSx.keep.cell hukr
                have hmem : y ∈ l.take k := by rw [hy]; exact List.mem_take_iff_getElem.2 ⟨k2, by omega, rfl⟩
                have htk : l.take (k2 + 1) = l.take k2 ++ [y] := by rw [hy, List.take_succ_eq_append_getElem hl2]
                have HMEM := Lib.hid hmem
                have HTK := Lib.hid htk
                have hI3 := fun p : After wx => (by have := Inside_spec p.W (.slice a2 n2 c2) (.slice au nu cu) y x (Ints.keep ((hS.trans hSx).trans p.h).keep HI2.out) (Ints.keep ((hS.trans hSx).trans p.h).keep HIK.out); rwa [inside_inB] at this : Calls Try.prog 30 #[.slice a2 n2 c2, .slice au nu cu] p.W fun e w' => e = .returned (.bool (inB y x)) ∧ Same p.W w')
                have z6 : (0 : Int) ≤ (k2 : Int) := by omega
                have z7 : (k2 : Int) < (l.length : Int) := by omega
                clear hu2 hi2 hy hmem htk
                cases hin : inB y x with
                | true =>
                  rw [hin] at hI3
                  have hbad : ordB ps l = false := by
                    have hs : someB (l.take k) x = true := (someB_iff _ _).2 ⟨y, HMEM.out, (inB_iff _ _).1 hin⟩
                    rw [HOK.out, HSTEP.out, HROW.out, hs]; rfl
                  have HBAD := Lib.hid hbad
                  clear hbad hin
                  go_wp2_with fail
                  have c0 := After.cell hu2r
                  have c1 := After.cell hukx
                  refine wp_region_same (by kernel_rfl) (by kernel_rfl) (Same.refl wx) ?_
                  repeat (refine wpQuiet_step (fun K hK => ?_); (try subst hA); go_simp; first | (refine quiet_next hK (fun A hA => ?_); clear hK K) | (apply Exists.intro; refine ⟨fun _ => ?_, quiet_next hK (fun A hA => ?_)⟩; (go_at_call 30; exact Calls.after (hI3 _)); clear hK K))
                  subst hA
                  refine wpQuiet_nil ?_
                  rintro _ ⟨⟨w8, hS8⟩, rfl⟩
                  clear c0 c1
                  go_wp2_with fail
                  go_ret
                  exact ⟨ret_bool (by rw [HBAD.out]), hS.trans (hSx.trans hS8)⟩
                | false =>
                  rw [hin] at hI3
                  have HIN := Lib.hid hin
                  clear hin
                  go_wp2_with fail
                  have c0 := After.cell hu2r
                  have c1 := After.cell hukx
                  refine wp_region_same (by kernel_rfl) (by kernel_rfl) (Same.refl wx) ?_
                  repeat (refine wpQuiet_step (fun K hK => ?_); (try subst hA); go_simp; first | (refine quiet_next hK (fun A hA => ?_); clear hK K) | (apply Exists.intro; refine ⟨fun _ => ?_, quiet_next hK (fun A hA => ?_)⟩; (go_at_call 30; exact Calls.after (hI3 _)); clear hK K))
                  subst hA
                  refine wpQuiet_nil ?_
                  rintro _ ⟨⟨w8, hS8⟩, rfl⟩
                  clear c0 c1
                  go_wp2_with fail
                  go_roundw
                  case rel => exact ⟨k2 + 1, by omega, by go_num, Lib.hid (by
                    intro z hz
                    rw [HTK.out, List.mem_append, List.mem_singleton] at hz
                    rcases hz with hz | rfl
                    · exact hno.out z hz
                    · exact HIN.out), hSx.trans hS8⟩
                  case measure => simp [intOf]; omega
              · obtain rfl : k = k2 := by omega
                have hnx : ordB ps l = okFrom ps (fun _ => true) (l.take (k + 1)) (l.drop (k + 1)) := by
                  have hs : someB (l.take k) x = false := by
                    cases e : someB (l.take k) x with
                    | false => rfl
                    | true =>
                      obtain ⟨y, hy, hyx⟩ := (someB_iff _ _).1 e
                      have := hno.out y hy
                      rw [(inB_iff _ _).2 hyx] at this; cases this
                  rw [HOK.out, HSTEP.out, HROW.out, hs]; rfl
                have HNX := Lib.hid hnx
                clear hnx hno
                go_wp2_with fail
                go_roundw
                case rel => exact ⟨k + 1, by have := HLT.out; omega, by go_num, HNX, hS.trans hSx⟩
                case measure => have := HLT.out; simp [intOf]; omega
    · obtain rfl : k = l.length := by omega
      go_wp2_with fail
      go_ret
      exact ⟨ret_bool (by rw [HOK.out, List.drop_length]; rfl), hS⟩
end Go.Proofs.Ytmnpbopkhpbhiaa
