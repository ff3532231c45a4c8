/- signatoryref22: deeper, right, Leaves, Check. -/
import Derived.Test.YtmnpbopkhpbhiaaRefList
import Derived.Test.YtmnpbopkhpbhiaaSortI
set_option linter.unusedVariables false
set_option linter.unusedSimpArgs false
namespace Go.Proofs.Ytmnpbopkhpbhiaa
open Go.RowKit
set_option maxRecDepth 100000
mutual
def Gt.deep : Gt → Nat → Bool
  | .mk _ _ _, 0 => true
  | .mk _ _ l, d + 1 => deepL l d
def deepL : List Gt → Nat → Bool
  | [], _ => false
  | g :: gs, d => g.deep d || deepL gs d
end
theorem deepL_any : ∀ (l : List Gt) (d : Nat), deepL l d = l.any fun x => x.deep d
  | [], _ => by simp [deepL]
  | g :: gs, d => by simp [deepL, deepL_any gs, List.any_cons]
set_option maxHeartbeats 1000000 in
theorem deeper_all (k : Nat) : ∀ (g : Gt) (w : World) (val : Value) (d : Nat), SizeOf.sizeOf g < k → IsG w g val → d < 1000 →
    Calls Try.prog 137 #[val, .int .i64 d] w fun e w' => e = .returned (.bool (g.deep d)) ∧ Same w w' := by
  induction k with
  | zero => intro g w val d hk; omega
  | succ k ih =>
    intro g w val d hk hg hd
    obtain ⟨v, rfl, hv⟩ := hg
    obtain ⟨p, n, l⟩ := g
    obtain ⟨a, cap, rfl, hcap, hmax, hl⟩ := hv.gs
    simp only [Gt.p_mk, Gt.n_mk, Gt.l_mk] at *
    have HL := Lib.hid hl
    have HIH := Lib.hid ih
    clear hl ih hv
    cases d with
    | zero =>
      go_enter Try.func137, Try.ntmps137
      go_wp2_with fail
      go_ret
      exact ⟨ret_bool (by simp [Gt.deep]), (Same.refl w).alloc _⟩
    | succ d =>
      obtain ⟨W1, hW1⟩ : ∃ W1, W1 = w.alloc (.cells #[.int .i64 p, .int .i64 n, .slice a l.length cap] 24) := ⟨_, rfl⟩
      have hS1 : Same w W1 := by rw [hW1]; exact (Same.refl w).alloc _
      have r1 : Rec W1 w.heap.size 24 #[.int .i64 p, .int .i64 n, .slice a l.length cap] := by rw [hW1]; exact Rec.new _ _ _
      have hz : (((d : Int) + 1) == 0) = false := by simp; omega
      have HW1 := Lib.hid hW1
      clear hW1
      rw [show ((d + 1 : Nat) : Int) = (d : Int) + 1 from by omega]
      go_enter Try.func137, Try.ntmps137
      go_wp2_with fail
      rw [← HW1.out]
      go_loopw [5] (fun i wr => ∃ j : Nat, j ≤ l.length ∧ i = .int .i64 j ∧ Hid (∀ x, x ∈ l.take j → x.deep d = false) ∧ Same W1 wr) (fun i _ => l.length - (intOf i).toNat)
      case atStart => exact ⟨0, Nat.zero_le _, rfl, Lib.hid (by simp), Same.refl _⟩
      case round =>
        obtain ⟨j, hj, rfl, hno, hS⟩ := hrel
        have rr := Rec.same hS r1
        have q2 := rr.cell 2
        have lr := rr.lt
        simp at q2
        by_cases hlt : j < l.length
        · obtain ⟨ad, u, rfl, c0, c1, c2, hat⟩ := HL.out.get j hlt
          rw [Nat.zero_add] at c0 c1 c2
          obtain ⟨au, cu, hu, -, -, -⟩ := hat.gs
          have hKr := (hS1.trans hS).keep
          have d0 := hKr.cell c0
          have d1 := hKr.cell c1
          have d2 := hKr.cell c2
          rw [add_add_pos _ _ _ (by omega)] at d1 d2
          have hsz : SizeOf.sizeOf l[j] < k := by
            have := List.sizeOf_lt_of_mem (List.getElem_mem hlt)
            simp only [Gt.mk.sizeOf_spec] at hk
            omega
          have Hc := HIH.out l[j] wr (.agg #[.int .i64 l[j].p, .int .i64 l[j].n, u]) d hsz (IsG.keep hKr ⟨u, rfl, hat⟩) (by omega)
          have htk : l.take (j + 1) = l.take j ++ [l[j]] := by simp
          have HTK := Lib.hid htk
          have hmem : l[j] ∈ l := List.getElem_mem _
          have HM := Lib.hid hmem
          clear c0 c1 c2 hat htk hmem
          generalize hlu : l[j].l.length = lu at hu
          subst hu
          have HLU := Lib.hid hlu
          clear hlu
          cases hx : l[j].deep d with
          | true =>
            rw [hx] at Hc
            have HX := Lib.hid hx
            clear hx
            go_wp2_with fail
            refine Hc.mono ?_
            clear Hc
            rintro e w2 ⟨rfl, hs⟩
            go_wp2_with fail
            go_ret
            refine ⟨ret_bool ?_, (hS1.trans hS).trans hs⟩
            rw [Gt.deep, deepL_any]
            exact (List.any_eq_true.2 ⟨_, HM.out, HX.out⟩).symm
          | false =>
            rw [hx] at Hc
            have HX := Lib.hid hx
            clear hx
            go_wp2_with fail
            refine Hc.mono ?_
            clear Hc
            rintro e w2 ⟨rfl, hs⟩
            go_wp2_with fail
            go_roundw
            case rel =>
              refine ⟨j + 1, by omega, by go_num, Lib.hid ?_, hS.trans hs⟩
              intro y hy
              rw [HTK.out, List.mem_append, List.mem_singleton] at hy
              rcases hy with h | h
              · exact hno.out y h
              · rw [h]; exact HX.out
            case measure => simp [intOf]; omega
        · obtain rfl : j = l.length := by omega
          have hall : (Gt.mk p n l).deep (d + 1) = false := by
            rw [Gt.deep, deepL_any]
            have h := hno.out
            rw [List.take_length] at h
            exact List.any_eq_false.2 (fun x hx => by rw [h x hx]; simp)
          have HALL := Lib.hid hall
          clear hall
          go_wp2_with fail
          go_ret
          exact ⟨ret_bool HALL.out.symm, hS1.trans hS⟩
end Go.Proofs.Ytmnpbopkhpbhiaa
