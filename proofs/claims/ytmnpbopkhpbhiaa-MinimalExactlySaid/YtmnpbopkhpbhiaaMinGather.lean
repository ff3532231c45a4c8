/- minimal.gather. -/
import Derived.Test.YtmnpbopkhpbhiaaPlain
import Derived.Test.YtmnpbopkhpbhiaaOwnRows
set_option linter.unusedVariables false
set_option linter.unusedSimpArgs false
namespace Go.Proofs.Ytmnpbopkhpbhiaa
open Go.RowKit
set_option maxRecDepth 100000
set_option maxHeartbeats 2000000 in
theorem mgather_all (k : Nat) : ∀ (g : Gt) (w : World) (val : Value), SizeOf.sizeOf g < k → IsG w g val → g.ppl.length ≤ 1000000 →
    Calls Try.prog 113 #[val] w fun e w' => ∃ v', e = .returned v' ∧ Own w' w.heap.size 3 v' (intVs g.ppl) ∧ Same w w' := by
  induction k with
  | zero => intro g w val hk; omega
  | succ k ih =>
    intro g w val hk hg hlen
    obtain ⟨v, rfl, hv⟩ := hg
    obtain ⟨p, n, l⟩ := g
    obtain ⟨a, cap, rfl, hcap, hmax, hl⟩ := hv.gs
    simp only [Gt.p_mk, Gt.n_mk, Gt.l_mk] at *
    have HL := Lib.hid hl
    have HIH := Lib.hid ih
    have HLEN := Lib.hid hlen
    clear hl ih hv hlen
    obtain ⟨W1, hW1⟩ : ∃ W1, W1 = w.alloc (.cells #[.int .i64 p, .int .i64 n, .slice a l.length cap] 24) := ⟨_, rfl⟩
    have hS1 : Same w W1 := by rw [hW1]; exact (Same.refl w).alloc _
    have HW1 := Lib.hid hW1
    by_cases hp : 0 ≤ p
    · have hpp : (Gt.mk p n l).ppl = [p] := by rw [Gt.ppl, if_pos hp]
      have HPP := Lib.hid hpp
      clear hW1 hpp
      go_enter Try.func113, Try.ntmps113
      go_wp2_with fail
      go_ret
      refine ⟨_, rfl, ?_, ((Same.refl w).alloc _).alloc _⟩
      rw [HPP.out]
      exact own_one (h_new' _ (by simp)) (Nat.le_succ _)
    · have hpp : (Gt.mk p n l).ppl = pplL l := by rw [Gt.ppl, if_neg hp]
      have HPP := Lib.hid hpp
      clear hW1 hpp
      go_enter Try.func113, Try.ntmps113
      go_wp2_with fail
      rw [← HW1.out]
      go_loopw [2, 14] (fun u i wr => ∃ (j : Nat) (ax : Option Addr) (nx cx : Nat), j ≤ l.length ∧ i = .int .i64 j ∧ u = .slice ax nx cx ∧ Hid (Own wr W1.heap.size 3 (.slice ax nx cx) (intVs (pplL (l.take j)))) ∧ Same W1 wr) (fun _ i _ => l.length - (intOf i).toNat)
      case atStart => exact ⟨0, none, 0, 0, Nat.zero_le _, rfl, rfl, Lib.hid (by rw [show intVs (pplL (l.take 0)) = [] from by simp [pplL, intVs]]; exact World.ownsRow_nil _ _ _ _), Same.refl _⟩
      case round =>
        obtain ⟨j, ax, nx, cx, hj, rfl, rfl, HX, hS⟩ := hrel
        by_cases hlt : j < l.length
        · obtain ⟨ad, u, rfl, c0, c1, c2, hat⟩ := HL.out.get j hlt
          rw [Nat.zero_add] at c0 c1 c2
          obtain ⟨au, nu, cu, rfl⟩ := hat.form
          have hSw := hS1.trans hS
          have hKr := hSw.keep
          have d0 := hKr.cell c0
          have d1 := hKr.cell c1
          have d2 := hKr.cell c2
          rw [add_add_pos _ _ _ (by omega)] at d1 d2
          have hsz : SizeOf.sizeOf l[j] < k := by
            have := List.sizeOf_lt_of_mem (List.getElem_mem hlt)
            simp only [Gt.mk.sizeOf_spec] at hk
            omega
          have htk : pplL (l.take (j + 1)) = pplL (l.take j) ++ l[j].ppl := by
            rw [List.take_succ_eq_append_getElem hlt, pplL_append]; simp [pplL]
          have hbd : (pplL (l.take j)).length + l[j].ppl.length ≤ 1000000 := by
            have h2 : (pplL (l.take (j + 1))).length ≤ (pplL l).length := by
              conv => rhs; rw [← List.take_append_drop (j + 1) l, pplL_append, List.length_append]
              omega
            rw [htk, List.length_append] at h2
            have h3 := HLEN.out
            rw [HPP.out] at h3
            omega
          obtain ⟨Wb, hWb⟩ : ∃ Wb, Wb = wr.alloc (.cells #[.int .i64 l[j].p, .int .i64 l[j].n, .slice au nu cu] 24) := ⟨_, rfl⟩
          have hSb : Same wr Wb := by rw [hWb]; exact (Same.refl wr).alloc _
          have Hc := HIH.out l[j] Wb (.agg #[.int .i64 l[j].p, .int .i64 l[j].n, .slice au nu cu]) hsz (IsG.keep (hSw.trans hSb).keep ⟨_, rfl, hat⟩) (by omega)
          have HTK := Lib.hid htk
          have HBD := Lib.hid hbd
          have HWB := Lib.hid hWb
          rw [hWb] at Hc
          clear c0 c1 c2 hat htk hbd hWb
          go_wp2_with fail
          refine Hc.mono ?_
          clear Hc
          rintro e w2 ⟨v2, rfl, hi2, hs⟩
          rw [← HWB.out] at hi2 hs
          obtain ⟨a2, n2, c2, rfl, -⟩ := hi2.slice
          have hs2 := hSb.trans hs
          have hO2 := own_keep hs2.keep HX.out
          have HC2 := Lib.hid (Own.cells hi2)
          have HO2 := Lib.hid hO2
          have HBB := Lib.hid (show ((intVs (pplL (l.take j))).length + (intVs l[j].ppl).length) * 8 ≤ 140737488355328 by rw [intVs_len, intVs_len]; have := HBD.out; omega)
          clear hi2 hO2
          go_wp2_with (at_builtin; refine wpList_append_src rfl _ _ 25 rfl Try.underlying25 info_int rfl HO2.out rfl HC2.out rfl (one_ints _) HBB.out (by decide) (hS.trans hs2).size ?_)
          rintro a7 n7 c7 w7 hO7 hG7 hB7 hW7
          have hS7 := Same.grown (hS.trans hs2) hG7 hB7
          have HO7 := Lib.hid hO7
          clear hO7 hG7 hB7 hW7
          go_wp2_with fail
          go_roundw
          case rel => exact ⟨j + 1, a7, n7, c7, by omega, by go_num, rfl, Lib.hid (by rw [HTK.out, intVs, List.map_append]; exact HO7.out), hS7⟩
          case measure => simp [intOf]; omega
        · obtain rfl : j = l.length := by omega
          go_wp2_with fail
          go_ret
          refine ⟨_, rfl, ?_, hS1.trans hS⟩
          have h := HX.out
          rw [List.take_length] at h
          rw [HPP.out]; exact own_lower h hS1.size
end Go.Proofs.Ytmnpbopkhpbhiaa
