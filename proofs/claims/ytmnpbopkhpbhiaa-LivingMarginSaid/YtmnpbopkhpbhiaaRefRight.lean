/- signatoryref22.right. -/
import Derived.Test.YtmnpbopkhpbhiaaLeaves
set_option linter.unusedVariables false
set_option linter.unusedSimpArgs false
namespace Go.Proofs.Ytmnpbopkhpbhiaa
open Go.RowKit
set_option maxRecDepth 100000
set_option maxHeartbeats 2000000 in
theorem refRight_all (k : Nat) : ∀ (g : Gt) (w : World) (val : Value), SizeOf.sizeOf g < k → IsG w g val →
    Calls Try.prog 138 #[val] w fun e w' => e = .returned (.bool g.right) ∧ Same w w' := by
  induction k with
  | zero => intro g w val hk; omega
  | succ k ih =>
    intro g w val hk hg
    obtain ⟨v, rfl, hv⟩ := hg
    obtain ⟨p, n, l⟩ := g
    obtain ⟨a, cap, rfl, hcap, hmax, hl⟩ := hv.gs
    simp only [Gt.p_mk, Gt.n_mk, Gt.l_mk] at *
    have HL := Lib.hid hl
    have HIH := Lib.hid ih
    clear hl ih hv
    obtain ⟨W1, hW1⟩ : ∃ W1, W1 = w.alloc (.cells #[.int .i64 p, .int .i64 n, .slice a l.length cap] 24) := ⟨_, rfl⟩
    have hS1 : Same w W1 := by rw [hW1]; exact (Same.refl w).alloc _
    have r1 : Rec W1 w.heap.size 24 #[.int .i64 p, .int .i64 n, .slice a l.length cap] := by rw [hW1]; exact Rec.new _ _ _
    have HW1 := Lib.hid hW1
    clear hW1
    by_cases hp : 0 ≤ p
    · go_enter Try.func138, Try.ntmps138
      go_wp2_with fail
      all_goals go_ret
      all_goals exact ⟨ret_bool (by rw [Gt.right, if_pos hp]; cases l <;> simp_all <;> omega), (Same.refl w).alloc _⟩
    · by_cases hbad : p ≠ -1 ∨ n < 1 ∨ 4096 < n
      · have hr : (Gt.mk p n l).right = false := by
          rw [Gt.right, if_neg hp]
          rcases hbad with h | h | h <;> simp <;> intros <;> omega
        have HR := Lib.hid hr
        clear hr
        by_cases hp1 : p = -1
        · subst hp1
          rcases hbad with h | h | h
          · exact absurd rfl h
          all_goals go_enter Try.func138, Try.ntmps138
          all_goals go_wp2_with fail
          all_goals try go_ret
          all_goals try exact ⟨ret_bool HR.out.symm, (Same.refl w).alloc _⟩
          all_goals exfalso
          all_goals omega
        · clear hbad
          go_enter Try.func138, Try.ntmps138
          go_wp2_with fail
          all_goals go_ret
          all_goals exact ⟨ret_bool HR.out.symm, (Same.refl w).alloc _⟩
      · obtain rfl : p = -1 := by omega
        have hn1 : 1 ≤ n := by omega
        have hn2 : n ≤ 4096 := by omega
        have hr : (Gt.mk (-1) n l).right = rightL l := by
          rw [Gt.right, if_neg hp]
          simp [hn1, hn2]
        have HR := Lib.hid hr
        have hd1 : ¬ n < 1 := by omega
        have hd2 : ¬ 4096 < n := by omega
        clear hr hbad
        go_enter Try.func138, Try.ntmps138
        go_wp2_with fail
        rw [← HW1.out]
        go_loopw [3] (fun i wr => ∃ j : Nat, j ≤ l.length ∧ i = .int .i64 j ∧ Hid (∀ x, x ∈ l.take j → x.right = true) ∧ Same W1 wr) (fun i _ => l.length - (intOf i).toNat)
        case atStart => exact ⟨0, Nat.zero_le _, rfl, Lib.hid (by simp), Same.refl _⟩
        case round =>
          obtain ⟨j, hj, rfl, hno, hS⟩ := hrel
          have rr := Rec.same hS r1
          have q2 := rr.cell 2
          have lr := rr.lt
          simp at q2
          by_cases hlt : j < l.length
          · obtain ⟨ad, u, rfl, c0, c1, c2, hat⟩ := HL.out.get j hlt
            rw [Nat.zero_add] at c0 c1 c2
            obtain ⟨au, cu, hu, -, -, -⟩ := hat.gs
            have hKr := (hS1.trans hS).keep
            have d0 := hKr.cell c0
            have d1 := hKr.cell c1
            have d2 := hKr.cell c2
            rw [add_add_pos _ _ _ (by omega)] at d1 d2
            have hsz : SizeOf.sizeOf l[j] < k := by
              have := List.sizeOf_lt_of_mem (List.getElem_mem hlt)
              simp only [Gt.mk.sizeOf_spec] at hk
              omega
            have Hc := HIH.out l[j] wr (.agg #[.int .i64 l[j].p, .int .i64 l[j].n, u]) hsz (IsG.keep hKr ⟨u, rfl, hat⟩)
            have htk : l.take (j + 1) = l.take j ++ [l[j]] := by simp
            have HTK := Lib.hid htk
            have hmem : l[j] ∈ l := List.getElem_mem _
            have HM := Lib.hid hmem
            clear c0 c1 c2 hat htk hmem
            generalize hlu : l[j].l.length = lu at hu
            subst hu
            have HLU := Lib.hid hlu
            clear hlu
            cases hx : l[j].right with
            | false =>
              rw [hx] at Hc
              have HX := Lib.hid hx
              clear hx
              go_wp2_with fail
              refine Hc.mono ?_
              clear Hc
              rintro e w2 ⟨rfl, hs⟩
              go_wp2_with fail
              go_ret
              refine ⟨ret_bool ?_, (hS1.trans hS).trans hs⟩
              rw [HR.out, rightL_any]
              have : (l.any fun x => !x.right) = true := List.any_eq_true.2 ⟨_, HM.out, by simp [HX.out]⟩
              rw [this]; rfl
            | true =>
              rw [hx] at Hc
              have HX := Lib.hid hx
              clear hx
              go_wp2_with fail
              refine Hc.mono ?_
              clear Hc
              rintro e w2 ⟨rfl, hs⟩
              go_wp2_with fail
              go_roundw
              case rel =>
                refine ⟨j + 1, by omega, by go_num, Lib.hid ?_, hS.trans hs⟩
                intro y hy
                rw [HTK.out, List.mem_append, List.mem_singleton] at hy
                rcases hy with h | h
                · exact hno.out y h
                · rw [h]; exact HX.out
              case measure => simp [intOf]; omega
          · obtain rfl : j = l.length := by omega
            have hall : (Gt.mk (-1) n l).right = true := by
              rw [HR.out, rightL_any]
              have h := hno.out
              rw [List.take_length] at h
              have : (l.any fun x => !x.right) = false := List.any_eq_false.2 (fun x hx => by rw [h x hx]; simp)
              rw [this]; rfl
            have HALL := Lib.hid hall
            clear hall
            go_wp2_with fail
            go_ret
            exact ⟨ret_bool HALL.out.symm, hS1.trans hS⟩
end Go.Proofs.Ytmnpbopkhpbhiaa
