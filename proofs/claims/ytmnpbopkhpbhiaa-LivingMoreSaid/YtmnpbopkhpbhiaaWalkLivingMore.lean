/- The walk of LivingMore. -/
import Derived.Test.YtmnpbopkhpbhiaaSaneLiving
import Derived.Test.YtmnpbopkhpbhiaaPlainLaws51
set_option linter.unusedVariables false
set_option linter.unusedSimpArgs false
namespace Go.Proofs.Ytmnpbopkhpbhiaa
open Go.RowKit
set_option maxRecDepth 100000
theorem both_one (k : Int) (alive : List Int) : both [k] alive = if k ∈ alive then [k] else [] := by
  by_cases h : k ∈ alive <;> simp [both, h]
set_option maxHeartbeats 8000000 in
theorem LivingMore_walk (w : World) (g : Gt) (val : Value) (alive : List Int) (v : Value) (other : Int) (hg : IsG w g val) (hv : Ints w v alive) (hwf : (Lit.int .i64 other).wf = true) :
    Calls Try.prog 7 #[val, v, .int .i64 other] w fun e w' => e = .returned (.bool true) ∧ Same w w' := by
  obtain ⟨vg, rfl, hat⟩ := hg
  obtain ⟨a, n, c, rfl⟩ := hat.form
  obtain ⟨av, nv, cv, rfl, zv⟩ := hv.slice
  have Zv := Lib.hid zv
  clear zv
  obtain ⟨w1, hW1⟩ : ∃ w1, w1 = w.alloc (.cells #[.int .i64 g.p, .int .i64 g.n, .slice a n c] 24) := ⟨_, rfl⟩
  have hS1 : Same w w1 := by rw [hW1]; exact (Same.refl w).alloc _
  have hs1 : Same w1 w1 := Same.refl _
  have hgb : ∀ W, Same w1 W → _ := fun W h => gbox (w := w) (W := W) (by rw [← hW1]; exact h)
  have hG := fun W (h : Same w1 W) => (⟨_, rfl, hat.keep (hS1.trans h).keep⟩ : IsG W g (.agg #[.int .i64 g.p, .int .i64 g.n, .slice a n c]))
  have HG := Lib.hid hG
  have hAv := fun W (h : Same w1 W) => hv.keep (hS1.trans h).keep
  have HAv := Lib.hid hAv
  have HGB := Lib.hid hgb
  have HW1 := Lib.hid hW1
  clear hat hgb hG hv hAv
  have HL := Lib.hid fun W (h : Same w1 W) => Living_spec W g _ _ alive (HG.out W h) (HAv.out W h)
  have HM := Lib.hid fun W (h : Same w1 W) => Margin_spec W g _ _ alive (HG.out W h) (HAv.out W h)
  have HF := Lib.hid fun W (h : Same w1 W) => few51_spec W g _ _ alive (HG.out W h) (HAv.out W h)
  have HE := Lib.hid fun W (h : Same w1 W) => rerr51_spec W g _ _ alive (HG.out W h) (HAv.out W h)
  generalize (g.few24 && decide (alive.length ≤ 80)) = fw at *
  by_cases he : g.rerr51 alive = 0
  case neg =>
    generalize g.rerr51 alive = er at *
    have b1 : (er != 0) = true := by simpa using he
    clear he HL HM
    go_enter Try.func7, Try.ntmps7
    have HC := sane_spec w1
    rw [hW1] at HC
    clear hW1
    go_wp2_with fail
    refine HC.mono ?_
    clear HC
    rintro e w2 ⟨rfl, hd2⟩
    rw [← HW1.out] at hd2
    have hs2 := hs1.trans hd2
    obtain ⟨q0, q1, q2, lt⟩ := HGB.out _ hs2
    cases fw with
    | false =>
      have HC := HF.out w2 hs2
      go_wp2_with fail
      refine HC.mono ?_
      clear HC q0 q1 q2 lt
      rintro e w3 ⟨rfl, hd3⟩
      have hs3 := hs2.trans hd3
      obtain ⟨q0, q1, q2, lt⟩ := HGB.out _ hs3
      go_wp2_with fail
      go_ret
      exact ⟨rfl, hS1.trans hs3⟩
    | true =>
      have HC := HF.out w2 hs2
      go_wp2_with fail
      refine HC.mono ?_
      clear HC q0 q1 q2 lt
      rintro e w3 ⟨rfl, hd3⟩
      have hs3 := hs2.trans hd3
      obtain ⟨q0, q1, q2, lt⟩ := HGB.out _ hs3
      have HC := HE.out w3 hs3
      go_wp2_with fail
      refine HC.mono ?_
      clear HC q0 q1 q2 lt
      rintro e w4 ⟨rfl, hd4⟩
      have hs4 := hs3.trans hd4
      obtain ⟨q0, q1, q2, lt⟩ := HGB.out _ hs4
      go_wp2_with fail
      go_ret
      exact ⟨rfl, hS1.trans hs4⟩
  case pos =>
    rw [he] at HE
    by_cases h0 : other < 0
    case pos =>
      go_enter Try.func7, Try.ntmps7
      have HC := sane_spec w1
      rw [hW1] at HC
      clear hW1
      go_wp2_with fail
      refine HC.mono ?_
      clear HC
      rintro e w2 ⟨rfl, hd2⟩
      rw [← HW1.out] at hd2
      have hs2 := hs1.trans hd2
      obtain ⟨q0, q1, q2, lt⟩ := HGB.out _ hs2
      cases fw with
      | false =>
        have HC := HF.out w2 hs2
        go_wp2_with fail
        refine HC.mono ?_
        clear HC q0 q1 q2 lt
        rintro e w3 ⟨rfl, hd3⟩
        have hs3 := hs2.trans hd3
        obtain ⟨q0, q1, q2, lt⟩ := HGB.out _ hs3
        go_wp2_with fail
        go_ret
        exact ⟨rfl, hS1.trans hs3⟩
      | true =>
        have HC := HF.out w2 hs2
        go_wp2_with fail
        refine HC.mono ?_
        clear HC q0 q1 q2 lt
        rintro e w3 ⟨rfl, hd3⟩
        have hs3 := hs2.trans hd3
        obtain ⟨q0, q1, q2, lt⟩ := HGB.out _ hs3
        have HC := HE.out w3 hs3
        go_wp2_with fail
        refine HC.mono ?_
        clear HC q0 q1 q2 lt
        rintro e w4 ⟨rfl, hd4⟩
        have hs4 := hs3.trans hd4
        obtain ⟨q0, q1, q2, lt⟩ := HGB.out _ hs4
        go_wp2_with fail
        go_ret
        exact ⟨rfl, hS1.trans hs4⟩
    case neg =>
      by_cases h1 : 64 ≤ other
      case pos =>
        go_enter Try.func7, Try.ntmps7
        have HC := sane_spec w1
        rw [hW1] at HC
        clear hW1
        go_wp2_with fail
        refine HC.mono ?_
        clear HC
        rintro e w2 ⟨rfl, hd2⟩
        rw [← HW1.out] at hd2
        have hs2 := hs1.trans hd2
        obtain ⟨q0, q1, q2, lt⟩ := HGB.out _ hs2
        cases fw with
        | false =>
          have HC := HF.out w2 hs2
          go_wp2_with fail
          refine HC.mono ?_
          clear HC q0 q1 q2 lt
          rintro e w3 ⟨rfl, hd3⟩
          have hs3 := hs2.trans hd3
          obtain ⟨q0, q1, q2, lt⟩ := HGB.out _ hs3
          go_wp2_with fail
          go_ret
          exact ⟨rfl, hS1.trans hs3⟩
        | true =>
          have HC := HF.out w2 hs2
          go_wp2_with fail
          refine HC.mono ?_
          clear HC q0 q1 q2 lt
          rintro e w3 ⟨rfl, hd3⟩
          have hs3 := hs2.trans hd3
          obtain ⟨q0, q1, q2, lt⟩ := HGB.out _ hs3
          have HC := HE.out w3 hs3
          go_wp2_with fail
          refine HC.mono ?_
          clear HC q0 q1 q2 lt
          rintro e w4 ⟨rfl, hd4⟩
          have hs4 := hs3.trans hd4
          obtain ⟨q0, q1, q2, lt⟩ := HGB.out _ hs4
          go_wp2_with fail
          go_ret
          exact ⟨rfl, hS1.trans hs4⟩
      case neg =>
        obtain ⟨_, hck, hrt, hpf⟩ := rerr51_parts he
        have hask := more_plain g alive other he (by omega) (by omega)
        have hsame := more_same g alive other he (by omega) (by omega)
        have HP := Lib.hid fun W (h : Same w1 W) => refPeopleOf_spec W g _ (HG.out W h) (by have := ppl_check hck; omega)
        have HN := Lib.hid fun W (u : Value) (hu : Ints W u (moreL alive other)) (h : Same w1 W) => Living_spec W g _ u (moreL alive other) (HG.out W h) hu
        have HK := Lib.hid fun W (u : Value) (hu : Ints W u (moreL alive other)) (h : Same w1 W) => Margin_spec W g _ u (moreL alive other) (HG.out W h) hu
        generalize g.Living (moreL alive other) = rN at *
        generalize g.Margin (moreL alive other) = rK at *
        generalize g.Living alive = rL at *
        generalize g.Margin alive = rM at *
        obtain ⟨who, l1, e1⟩ := rL
        obtain ⟨now, l2, e2⟩ := rN
        obtain ⟨lost, l3, e3⟩ := rM
        obtain ⟨less, l4, e4⟩ := rK
        simp only [moreAsks, Bool.and_eq_true, decide_eq_true_eq, beq_iff_eq, Bool.or_eq_true, Bool.not_eq_true'] at hask
        obtain ⟨⟨⟨⟨⟨⟨rfl, rfl⟩, rfl⟩, rfl⟩, rfl⟩, rfl⟩, hask⟩ := hask
        simp only at HL HM HN HK
        have HASK := Lib.hid hask
        have HSAME := Lib.hid hsame
        clear he hask hsame hck hrt hpf
        go_enter Try.func7, Try.ntmps7
        have HC := sane_spec w1
        rw [hW1] at HC
        clear hW1
        go_wp2_with fail
        refine HC.mono ?_
        clear HC
        rintro e w2 ⟨rfl, hd2⟩
        rw [← HW1.out] at hd2
        have hs2 := hs1.trans hd2
        obtain ⟨q0, q1, q2, lt⟩ := HGB.out _ hs2
        cases fw with
        | false =>
          have HC := HF.out w2 hs2
          go_wp2_with fail
          refine HC.mono ?_
          clear HC q0 q1 q2 lt
          rintro e w3 ⟨rfl, hd3⟩
          have hs3 := hs2.trans hd3
          obtain ⟨q0, q1, q2, lt⟩ := HGB.out _ hs3
          go_wp2_with fail
          go_ret
          exact ⟨rfl, hS1.trans hs3⟩
        | true =>
          have HC := HF.out w2 hs2
          go_wp2_with fail
          refine HC.mono ?_
          clear HC q0 q1 q2 lt
          rintro e w3 ⟨rfl, hd3⟩
          have hs3 := hs2.trans hd3
          obtain ⟨q0, q1, q2, lt⟩ := HGB.out _ hs3
          have HC := HE.out w3 hs3
          go_wp2_with fail
          refine HC.mono ?_
          clear HC q0 q1 q2 lt
          rintro e w4 ⟨rfl, hd4⟩
          have hs4 := hs3.trans hd4
          obtain ⟨q0, q1, q2, lt⟩ := HGB.out _ hs4
          go_wp2_with fail
          clear q0 q1 q2 lt
          go_loopw [7, 42] (fun u i wr => ∃ (k : Nat) (ax : Option Addr) (nx cx : Nat), k ≤ 64 ∧ i = .int .i64 k ∧ u = .slice ax nx cx ∧ Hid (Own wr w4.heap.size 3 (.slice ax nx cx) (intVs (moreTo alive other k))) ∧ Same w4 wr) (fun _ i _ => 64 - (intOf i).toNat)
          case atStart => exact ⟨0, _, _, _, by omega, rfl, rfl, Lib.hid (own_zero (h_new _ _) (Nat.le_refl _)), (Same.refl _).alloc _⟩
          case round =>
            obtain ⟨k, ax, nx, cx, hk, rfl, rfl, HO, hS⟩ := hrel
            by_cases hlt : k < 64
            · have hml := moreTo_length alive other k
              have HML := Lib.hid hml
              have hst : moreTo alive other (k + 1) = moreTo alive other k ++ (if (k : Int) = other ∨ (k : Int) ∈ alive then [(k : Int)] else []) := rfl
              have HST := Lib.hid hst
              clear hml hst
              by_cases heq : (k : Int) = other
              · have hb : ((k : Int) == other) = true := by simpa using heq
                have HEQ := Lib.hid heq
                have HA := Lib.hid ((own_at HO.out).alloc (.cells #[.int .i64 (k : Int)] 3))
                have HB1 := Lib.hid (show ((intVs (moreTo alive other k)).length + 1) * 8 ≤ 140737488355328 by rw [intVs_len]; have := HML.out; omega)
                have HB2 := Lib.hid (hS.alloc (.cells #[.int .i64 (k : Int)] 3)).size
                clear heq
                go_wp2_with (at_builtin; refine append1 (g := wr.heap.size) (wr.alloc (.cells #[.int .i64 (k : Int)] 3)) rfl _ _ 25 rfl Try.underlying25 info_int rfl HA.out rfl (.int .i64 (k : Int)) rfl (cell_one_new _ _ _ 0 _ rfl) rfl HB1.out (by decide) HB2.out ?_)
                rintro a7 n7 c7 w7 hO2 hG2
                have hG3 := World.grownBy.trans (World.grownBy_alloc wr (.cells #[.int .i64 (k : Int)] 3) _) hG2
                have hS3 := hS.grown hG3 (fun q hq => (own_base HO.out hq).1)
                have HO2 := Lib.hid hO2
                clear hO2 hG2 hG3
                go_wp2_with fail
                go_roundw
                case rel => exact ⟨k + 1, a7, n7, c7, by omega, by go_num, rfl, Lib.hid (by rw [HST.out, if_pos (.inl HEQ.out), intVs_snoc]; exact HO2.out), hS3⟩
                case measure => simp [intOf]; omega
              · have hb : ((k : Int) == other) = false := by simpa using heq
                have HEQ := Lib.hid heq
                obtain ⟨Wb, hWb⟩ : ∃ Wb, Wb = wr.alloc (.cells #[.int .i64 (k : Int)] 3) := ⟨_, rfl⟩
                have hSb : Same wr Wb := by rw [hWb]; exact (Same.refl wr).alloc _
                have hone : Ints Wb (.slice (some ⟨wr.heap.size, 0, none⟩) 1 1) [(k : Int)] := by rw [hWb]; exact own_ints (xs := [(k : Int)]) (own_one (base := 0) (h_new _ _) (Nat.zero_le _)) (by simp)
                have HB := Both_spec Wb _ _ [(k : Int)] alive hone (HAv.out _ (hs4.trans (hS.trans hSb)))
                rw [both_one] at HB
                have HWB := Lib.hid hWb
                rw [hWb] at HB
                clear heq hWb hone
                by_cases hin : (k : Int) ∈ alive
                · rw [if_pos hin] at HB
                  have HIN := Lib.hid hin
                  clear hin
                  go_wp2_with fail
                  refine HB.mono ?_
                  clear HB
                  rintro e w6 ⟨v6, rfl, hi6, hd6⟩
                  obtain ⟨a6, n6, c6, rfl, e6⟩ := hi6.slice
                  have hn6 : n6 = 1 := e6
                  subst hn6
                  rw [← HWB.out] at hd6
                  have hS6 := hS.trans (hSb.trans hd6)
                  have hO6 := own_keep (hSb.trans hd6).keep HO.out
                  have HO6 := Lib.hid hO6
                  have HA := Lib.hid ((own_at hO6).alloc (.cells #[.int .i64 (k : Int)] 3))
                  have HB1 := Lib.hid (show ((intVs (moreTo alive other k)).length + 1) * 8 ≤ 140737488355328 by rw [intVs_len]; have := HML.out; omega)
                  have HB2 := Lib.hid (hS6.alloc (.cells #[.int .i64 (k : Int)] 3)).size
                  clear hi6 hO6 e6
                  go_wp2_with (at_builtin; refine append1 (g := w6.heap.size) (w6.alloc (.cells #[.int .i64 (k : Int)] 3)) rfl _ _ 25 rfl Try.underlying25 info_int rfl HA.out rfl (.int .i64 (k : Int)) rfl (cell_one_new _ _ _ 0 _ rfl) rfl HB1.out (by decide) HB2.out ?_)
                  rintro a7 n7 c7 w7 hO2 hG2
                  have hG3 := World.grownBy.trans (World.grownBy_alloc w6 (.cells #[.int .i64 (k : Int)] 3) _) hG2
                  have hS3 := hS6.grown hG3 (fun q hq => (own_base HO6.out hq).1)
                  have HO2 := Lib.hid hO2
                  clear hO2 hG2 hG3
                  go_wp2_with fail
                  go_roundw
                  case rel => exact ⟨k + 1, a7, n7, c7, by omega, by go_num, rfl, Lib.hid (by rw [HST.out, if_pos (.inr HIN.out), intVs_snoc]; exact HO2.out), hS3⟩
                  case measure => simp [intOf]; omega
                · rw [if_neg hin] at HB
                  have HIN := Lib.hid hin
                  clear hin
                  go_wp2_with fail
                  refine HB.mono ?_
                  clear HB
                  rintro e w6 ⟨v6, rfl, hi6, hd6⟩
                  obtain ⟨a6, n6, c6, rfl, e6⟩ := hi6.slice
                  have hn6 : n6 = 0 := e6
                  subst hn6
                  rw [← HWB.out] at hd6
                  have hS6 := hS.trans (hSb.trans hd6)
                  have hO6 := own_keep (hSb.trans hd6).keep HO.out
                  have HO6 := Lib.hid hO6
                  clear hi6 hO6 e6
                  go_wp2_with fail
                  go_roundw
                  case rel => exact ⟨k + 1, ax, nx, cx, by omega, by go_num, rfl, Lib.hid (by rw [HST.out, if_neg (fun h => h.elim HEQ.out HIN.out), List.append_nil]; exact HO6.out), hS6⟩
                  case measure => simp [intOf]; omega
            · obtain rfl : k = 64 := by omega
              obtain ⟨w20, rfl⟩ : ∃ w20 : World, w20 = wr := ⟨_, rfl⟩
              have hd20 : Same w4 w20 := hS
              have hs20 := hs4.trans hd20
              have i20 : Ints w20 (.slice ax nx cx) (moreL alive other) := own_ints HO.out (by have := moreTo_length alive other 64; show (moreTo alive other 64).length ≤ _; omega)
              have I20 := Lib.hid i20
              clear i20 HO hS
              obtain ⟨q0, q1, q2, lt⟩ := HGB.out _ hs20
              have HC := HL.out w20 hs20
              go_wp2_with fail
              refine HC.mono ?_
              clear HC q0 q1 q2 lt
              rintro e w21 ⟨v21, rfl, i21, hd21⟩
              have hs21 := hs20.trans hd21
              obtain ⟨a21, n21, c21, rfl, e21⟩ := i21.slice
              have I21 := Lib.hid i21
              have E21 := Lib.hid e21
              clear i21 e21
              obtain ⟨q0, q1, q2, lt⟩ := HGB.out _ hs21
              have HC := HN.out w21 _ (I20.out.keep (Same.keep hd21)) hs21
              go_wp2_with fail
              refine HC.mono ?_
              clear HC q0 q1 q2 lt
              rintro e w22 ⟨v22, rfl, i22, hd22⟩
              have hs22 := hs21.trans hd22
              obtain ⟨a22, n22, c22, rfl, e22⟩ := i22.slice
              have I22 := Lib.hid i22
              have E22 := Lib.hid e22
              clear i22 e22
              obtain ⟨q0, q1, q2, lt⟩ := HGB.out _ hs22
              have HC := HM.out w22 hs22
              go_wp2_with fail
              refine HC.mono ?_
              clear HC q0 q1 q2 lt
              rintro e w23 ⟨v23, rfl, i23, hd23⟩
              have hs23 := hs22.trans hd23
              obtain ⟨a23, n23, c23, rfl, e23⟩ := i23.slice
              have I23 := Lib.hid i23
              have E23 := Lib.hid e23
              clear i23 e23
              obtain ⟨q0, q1, q2, lt⟩ := HGB.out _ hs23
              have HC := HK.out w23 _ (I20.out.keep (Same.keep (hd21.trans (hd22.trans hd23)))) hs23
              go_wp2_with fail
              refine HC.mono ?_
              clear HC q0 q1 q2 lt
              rintro e w24 ⟨v24, rfl, i24, hd24⟩
              have hs24 := hs23.trans hd24
              obtain ⟨a24, n24, c24, rfl, e24⟩ := i24.slice
              have I24 := Lib.hid i24
              have E24 := Lib.hid e24
              clear i24 e24
              obtain ⟨q0, q1, q2, lt⟩ := HGB.out _ hs24
              have hI := fun (hl : l1 = true) => HASK.out.resolve_left (by rw [hl]; simp)
              cases l1 with
              | true =>
                obtain ⟨⟨hl2, hlen1⟩, hlen2⟩ := hI rfl
                subst hl2
                rw [← E23.out, ← E24.out] at hlen1
                rw [← E22.out, ← E21.out] at hlen2
                have hl1' : ¬ n24 < n23 := by omega
                have hl2' : ¬ n21 < n22 := by omega
                clear hI
                obtain ⟨Wx, hWx⟩ : ∃ Wx, Wx = w24.alloc (.cells #[.int .i64 other] 3) := ⟨_, rfl⟩
                have hSx : Same w24 Wx := by rw [hWx]; exact (Same.refl _).alloc _
                have hone : Ints Wx (.slice (some ⟨w24.heap.size, 0, none⟩) 1 1) [other] := by rw [hWx]; exact own_ints (xs := [other]) (own_one (base := 0) (h_new _ _) (Nat.zero_le _)) (by simp)
                have HONE := Lib.hid hone
                have HWX := Lib.hid hWx
                have HC := HP.out Wx (hs24.trans hSx)
                rw [hWx] at HC
                clear hone hWx
                go_wp2_with fail
                refine HC.mono ?_
                clear HC q0 q1 q2 lt
                rintro e w30 ⟨v30, rfl, i30, hx30⟩
                rw [← HWX.out] at hx30
                obtain ⟨a30, n30, c30, rfl, e30⟩ := i30.slice
                have hd30 := hSx.trans hx30
                have hs30 := hs24.trans hd30
                have HC := Inside_spec w30 _ _ [other] g.rpeople (HONE.out.keep hx30.keep) i30
                clear e30 i30
                by_cases hin : other ∈ g.rpeople
                case pos =>
                  rw [minus_nil (fun x hx => by rw [List.mem_singleton.1 hx]; exact hin), show decide (([] : List Int) = []) = true from rfl] at HC
                  clear hin
                  go_wp2_with fail
                  refine HC.mono ?_
                  clear HC
                  rintro e w31 ⟨rfl, hd31⟩
                  have hs31 := hs30.trans hd31
                  go_wp2_with fail
                  go_ret
                  exact ⟨rfl, hS1.trans hs31⟩
                case neg =>
                  have hmn : decide (minus [other] g.rpeople = []) = false := by
                    rw [decide_eq_false_iff_not]
                    intro h
                    exact hin (by
                      have := List.filter_eq_nil_iff.1 h other (by simp)
                      simpa using this)
                  rw [hmn] at HC
                  obtain ⟨hs1', hs2'⟩ := HSAME.out hin
                  injection hs1' with hs1a hs1b
                  injection hs1b with hs1b hs1c
                  injection hs2' with hs2a hs2b
                  clear hin hmn hs2b hs1c
                  go_wp2_with fail
                  refine HC.mono ?_
                  clear HC
                  rintro e w31 ⟨rfl, hd31⟩
                  have hs31 := hs30.trans hd31
                  have HS1 := Lib.hid hs1a
                  have HS2 := Lib.hid hs2a
                  clear hs1a hs2a hs1b
                  have HC := SameInts_spec w31 _ _ who now (I21.out.keep (Same.keep (hd22.trans (hd23.trans (hd24.trans (hd30.trans hd31)))))) (I22.out.keep (Same.keep (hd23.trans (hd24.trans (hd30.trans hd31)))))
                  rw [HS1.out, show decide (who = who) = true from by simp] at HC
                  go_wp2_with fail
                  refine HC.mono ?_
                  clear HC
                  rintro e w32 ⟨rfl, hd32⟩
                  have hs32 := hs31.trans hd32
                  have HC := SameInts_spec w32 _ _ lost less (I23.out.keep (Same.keep (hd24.trans (hd30.trans (hd31.trans hd32))))) (I24.out.keep (Same.keep (hd30.trans (hd31.trans hd32))))
                  rw [HS2.out, show decide (lost = lost) = true from by simp] at HC
                  go_wp2_with fail
                  refine HC.mono ?_
                  clear HC
                  rintro e w33 ⟨rfl, hd33⟩
                  have hs33 := hs32.trans hd33
                  go_wp2_with fail
                  go_ret
                  exact ⟨rfl, hS1.trans hs33⟩
              | false =>
                clear hI
                cases l2 with
                | true =>
                  obtain ⟨Wx, hWx⟩ : ∃ Wx, Wx = w24.alloc (.cells #[.int .i64 other] 3) := ⟨_, rfl⟩
                  have hSx : Same w24 Wx := by rw [hWx]; exact (Same.refl _).alloc _
                  have hone : Ints Wx (.slice (some ⟨w24.heap.size, 0, none⟩) 1 1) [other] := by rw [hWx]; exact own_ints (xs := [other]) (own_one (base := 0) (h_new _ _) (Nat.zero_le _)) (by simp)
                  have HONE := Lib.hid hone
                  have HWX := Lib.hid hWx
                  have HC := HP.out Wx (hs24.trans hSx)
                  rw [hWx] at HC
                  clear hone hWx
                  go_wp2_with fail
                  refine HC.mono ?_
                  clear HC q0 q1 q2 lt
                  rintro e w30 ⟨v30, rfl, i30, hx30⟩
                  rw [← HWX.out] at hx30
                  obtain ⟨a30, n30, c30, rfl, e30⟩ := i30.slice
                  have hd30 := hSx.trans hx30
                  have hs30 := hs24.trans hd30
                  have HC := Inside_spec w30 _ _ [other] g.rpeople (HONE.out.keep hx30.keep) i30
                  clear e30 i30
                  by_cases hin : other ∈ g.rpeople
                  case pos =>
                    rw [minus_nil (fun x hx => by rw [List.mem_singleton.1 hx]; exact hin), show decide (([] : List Int) = []) = true from rfl] at HC
                    clear hin
                    go_wp2_with fail
                    refine HC.mono ?_
                    clear HC
                    rintro e w31 ⟨rfl, hd31⟩
                    have hs31 := hs30.trans hd31
                    go_wp2_with fail
                    go_ret
                    exact ⟨rfl, hS1.trans hs31⟩
                  case neg =>
                    have hmn : decide (minus [other] g.rpeople = []) = false := by
                      rw [decide_eq_false_iff_not]
                      intro h
                      exact hin (by
                        have := List.filter_eq_nil_iff.1 h other (by simp)
                        simpa using this)
                    rw [hmn] at HC
                    obtain ⟨hs1', hs2'⟩ := HSAME.out hin
                    injection hs1' with hs1a hs1b
                    injection hs1b with hs1b hs1c
                    injection hs2' with hs2a hs2b
                    clear hin hmn hs2b hs1c
                    go_wp2_with fail
                    refine HC.mono ?_
                    clear HC
                    rintro e w31 ⟨rfl, hd31⟩
                    have hs31 := hs30.trans hd31
                    cases hs1b
                | false =>
                  obtain ⟨Wx, hWx⟩ : ∃ Wx, Wx = w24.alloc (.cells #[.int .i64 other] 3) := ⟨_, rfl⟩
                  have hSx : Same w24 Wx := by rw [hWx]; exact (Same.refl _).alloc _
                  have hone : Ints Wx (.slice (some ⟨w24.heap.size, 0, none⟩) 1 1) [other] := by rw [hWx]; exact own_ints (xs := [other]) (own_one (base := 0) (h_new _ _) (Nat.zero_le _)) (by simp)
                  have HONE := Lib.hid hone
                  have HWX := Lib.hid hWx
                  have HC := HP.out Wx (hs24.trans hSx)
                  rw [hWx] at HC
                  clear hone hWx
                  go_wp2_with fail
                  refine HC.mono ?_
                  clear HC q0 q1 q2 lt
                  rintro e w30 ⟨v30, rfl, i30, hx30⟩
                  rw [← HWX.out] at hx30
                  obtain ⟨a30, n30, c30, rfl, e30⟩ := i30.slice
                  have hd30 := hSx.trans hx30
                  have hs30 := hs24.trans hd30
                  have HC := Inside_spec w30 _ _ [other] g.rpeople (HONE.out.keep hx30.keep) i30
                  clear e30 i30
                  by_cases hin : other ∈ g.rpeople
                  case pos =>
                    rw [minus_nil (fun x hx => by rw [List.mem_singleton.1 hx]; exact hin), show decide (([] : List Int) = []) = true from rfl] at HC
                    clear hin
                    go_wp2_with fail
                    refine HC.mono ?_
                    clear HC
                    rintro e w31 ⟨rfl, hd31⟩
                    have hs31 := hs30.trans hd31
                    go_wp2_with fail
                    go_ret
                    exact ⟨rfl, hS1.trans hs31⟩
                  case neg =>
                    have hmn : decide (minus [other] g.rpeople = []) = false := by
                      rw [decide_eq_false_iff_not]
                      intro h
                      exact hin (by
                        have := List.filter_eq_nil_iff.1 h other (by simp)
                        simpa using this)
                    rw [hmn] at HC
                    obtain ⟨hs1', hs2'⟩ := HSAME.out hin
                    injection hs1' with hs1a hs1b
                    injection hs1b with hs1b hs1c
                    injection hs2' with hs2a hs2b
                    clear hin hmn hs2b hs1c
                    go_wp2_with fail
                    refine HC.mono ?_
                    clear HC
                    rintro e w31 ⟨rfl, hd31⟩
                    have hs31 := hs30.trans hd31
                    have HS1 := Lib.hid hs1a
                    have HS2 := Lib.hid hs2a
                    clear hs1a hs2a hs1b
                    have HC := SameInts_spec w31 _ _ who now (I21.out.keep (Same.keep (hd22.trans (hd23.trans (hd24.trans (hd30.trans hd31)))))) (I22.out.keep (Same.keep (hd23.trans (hd24.trans (hd30.trans hd31)))))
                    rw [HS1.out, show decide (who = who) = true from by simp] at HC
                    go_wp2_with fail
                    refine HC.mono ?_
                    clear HC
                    rintro e w32 ⟨rfl, hd32⟩
                    have hs32 := hs31.trans hd32
                    have HC := SameInts_spec w32 _ _ lost less (I23.out.keep (Same.keep (hd24.trans (hd30.trans (hd31.trans hd32))))) (I24.out.keep (Same.keep (hd30.trans (hd31.trans hd32))))
                    rw [HS2.out, show decide (lost = lost) = true from by simp] at HC
                    go_wp2_with fail
                    refine HC.mono ?_
                    clear HC
                    rintro e w33 ⟨rfl, hd33⟩
                    have hs33 := hs32.trans hd33
                    go_wp2_with fail
                    go_ret
                    exact ⟨rfl, hS1.trans hs33⟩
end Go.Proofs.Ytmnpbopkhpbhiaa
