/- signatoryref22.holds. -/
import Derived.Test.YtmnpbopkhpbhiaaRefCheck
set_option linter.unusedVariables false
set_option linter.unusedSimpArgs false
namespace Go.Proofs.Ytmnpbopkhpbhiaa
open Go.RowKit
set_option maxRecDepth 100000
theorem holdsL_snoc (ks : List Int) (l : List Gt) (x : Gt) : holdsL ks (l ++ [x]) = holdsL ks l + (if x.holds ks then 1 else 0) := by
  induction l with
  | nil => simp [holdsL]
  | cons g gs ih => simp only [List.cons_append, holdsL, ih]; omega
theorem holdsL_bound (ks : List Int) (l : List Gt) : 0 ≤ holdsL ks l ∧ holdsL ks l ≤ l.length := by
  rw [holdsL_len]
  have := List.length_filter_le (fun x : Gt => x.holds ks) l
  omega
set_option maxHeartbeats 2000000 in
theorem refHolds_all (k : Nat) : ∀ (g : Gt) (w : World) (val vw : Value) (ks : List Int), SizeOf.sizeOf g < k → IsG w g val → Ints w vw ks →
    Calls Try.prog 131 #[val, vw] w fun e w' => e = .returned (.bool (g.holds ks)) ∧ Same w w' := by
  induction k with
  | zero => intro g w val vw ks hk; omega
  | succ k ih =>
    intro g w val vw ks hk hg hw
    obtain ⟨v, rfl, hv⟩ := hg
    obtain ⟨p, n, l⟩ := g
    obtain ⟨a, cap, rfl, hcap, hmax, hl⟩ := hv.gs
    obtain ⟨aw, nw, cw, rfl⟩ : ∃ a n c, vw = .slice a n c := by obtain ⟨a, c, e, _⟩ := hw; exact ⟨a, _, c, e⟩
    simp only [Gt.p_mk, Gt.n_mk, Gt.l_mk] at *
    have HL := Lib.hid hl
    have HIH := Lib.hid ih
    have HWW := Lib.hid hw
    clear hl ih hv hw
    obtain ⟨W1, hW1⟩ : ∃ W1, W1 = w.alloc (.cells #[.int .i64 p, .int .i64 n, .slice a l.length cap] 24) := ⟨_, rfl⟩
    have hS1 : Same w W1 := by rw [hW1]; exact (Same.refl w).alloc _
    have r1 : Rec W1 w.heap.size 24 #[.int .i64 p, .int .i64 n, .slice a l.length cap] := by rw [hW1]; exact Rec.new _ _ _
    have HW1 := Lib.hid hW1
    by_cases hp : 0 ≤ p
    · have hh := Has_spec W1 (.slice aw nw cw) ks p (HWW.out.keep hS1.keep)
      rw [hW1] at hh
      clear hW1
      go_enter Try.func131, Try.ntmps131
      go_wp2_with fail
      refine hh.mono ?_
      clear hh
      rintro e w2 ⟨rfl, rfl⟩
      go_wp2_with fail
      go_ret
      exact ⟨ret_bool (by rw [Gt.holds, if_pos hp]), (Same.refl w).alloc _⟩
    · have hh : (Gt.mk p n l).holds ks = decide (n ≤ holdsL ks l) := by rw [Gt.holds, if_neg hp]
      have HH := Lib.hid hh
      clear hW1 hh
      go_enter Try.func131, Try.ntmps131
      go_wp2_with fail
      rw [← HW1.out]
      go_loopw [5, 6] (fun m i wr => ∃ (j : Nat) (c : Int), j ≤ l.length ∧ i = .int .i64 j ∧ m = .int .i64 c ∧ 0 ≤ c ∧ c ≤ j ∧ Hid (c = holdsL ks (l.take j)) ∧ Same W1 wr) (fun _ i _ => l.length - (intOf i).toNat)
      case atStart => exact ⟨0, 0, Nat.zero_le _, rfl, rfl, by omega, by omega, Lib.hid (by simp [holdsL]), Same.refl _⟩
      case round =>
        obtain ⟨j, c, hj, rfl, rfl, hc0, hc1, heq, hS⟩ := hrel
        have rr := Rec.same hS r1
        have q1 := rr.cell 1
        have q2 := rr.cell 2
        have lr := rr.lt
        simp at q1 q2
        by_cases hlt : j < l.length
        · obtain ⟨ad, u, rfl, c0, c1, c2, hat⟩ := HL.out.get j hlt
          rw [Nat.zero_add] at c0 c1 c2
          obtain ⟨au, cu, hu, -, -, -⟩ := hat.gs
          have hKr := (hS1.trans hS).keep
          have d0 := hKr.cell c0
          have d1 := hKr.cell c1
          have d2 := hKr.cell c2
          rw [add_add_pos _ _ _ (by omega)] at d1 d2
          have hsz : SizeOf.sizeOf l[j] < k := by
            have := List.sizeOf_lt_of_mem (List.getElem_mem hlt)
            simp only [Gt.mk.sizeOf_spec] at hk
            omega
          have Hc := HIH.out l[j] wr (.agg #[.int .i64 l[j].p, .int .i64 l[j].n, u]) (.slice aw nw cw) ks hsz (IsG.keep hKr ⟨u, rfl, hat⟩) (HWW.out.keep hKr)
          have hsn : holdsL ks (l.take (j + 1)) = holdsL ks (l.take j) + (if l[j].holds ks then 1 else 0) := by
            rw [List.take_succ_eq_append_getElem hlt, holdsL_snoc]
          have HSN := Lib.hid hsn
          clear c0 c1 c2 hat hsn
          generalize hlu : l[j].l.length = lu at hu
          subst hu
          have HLU := Lib.hid hlu
          clear hlu
          cases hx : l[j].holds ks with
          | true =>
            rw [hx] at Hc HSN
            have HX := Lib.hid hx
            clear hx
            go_wp2_with fail
            refine Hc.mono ?_
            clear Hc
            rintro e w2 ⟨rfl, hs⟩
            go_wp2_with fail
            go_roundw
            case rel => exact ⟨j + 1, c + 1, by omega, by go_num, by go_num, by omega, by omega, Lib.hid (by rw [HSN.out, heq.out]; simp), hS.trans hs⟩
            case measure => simp [intOf]; omega
          | false =>
            rw [hx] at Hc HSN
            have HX := Lib.hid hx
            clear hx
            go_wp2_with fail
            refine Hc.mono ?_
            clear Hc
            rintro e w2 ⟨rfl, hs⟩
            go_wp2_with fail
            go_roundw
            case rel => exact ⟨j + 1, c, by omega, by go_num, rfl, by omega, by omega, Lib.hid (by rw [HSN.out, heq.out]; simp), hS.trans hs⟩
            case measure => simp [intOf]; omega
        · obtain rfl : j = l.length := by omega
          have hc : c = holdsL ks l := by have h := heq.out; rwa [List.take_length] at h
          have HC := Lib.hid hc
          clear hc
          go_wp2_with fail
          go_ret
          exact ⟨ret_bool (by rw [HH.out, HC.out]), hS1.trans hS⟩
end Go.Proofs.Ytmnpbopkhpbhiaa
