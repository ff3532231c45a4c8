/- signatoryref22: deeper, right, Leaves, Check. signatoryref22.Leaves. signatoryref22.right. -/
import Derived.Test.YtmnpbopkhpbhiaaRefList
import Derived.Test.YtmnpbopkhpbhiaaRecs
set_option linter.unusedVariables false
set_option linter.unusedSimpArgs false
namespace Go.Proofs.Ytmnpbopkhpbhiaa
section
open Go.RowKit
set_option maxRecDepth 100000
mutual
def Gt.deep : Gt → Nat → Bool
  | .mk _ _ _, 0 => true
  | .mk _ _ l, d + 1 => deepL l d
def deepL : List Gt → Nat → Bool
  | [], _ => false
  | g :: gs, d => g.deep d || deepL gs d
end
theorem deepL_any : ∀ (l : List Gt) (d : Nat), deepL l d = l.any fun x => x.deep d
  | [], _ => by simp [deepL]
  | g :: gs, d => by simp [deepL, deepL_any gs, List.any_cons]
set_option maxHeartbeats 1000000 in
theorem deeper_all (k : Nat) : ∀ (g : Gt) (w : World) (val : Value) (d : Nat), SizeOf.sizeOf g < k → IsG w g val → d < 1000 →
    Calls Try.prog 137 #[val, .int .i64 d] w fun e w' => e = .returned (.bool (g.deep d)) ∧ Same w w' := by
  induction k with
  | zero => intro g w val d hk; omega
  | succ k ih =>
    intro g w val d hk hg hd
    obtain ⟨v, rfl, hv⟩ := hg
    obtain ⟨p, n, l⟩ := g
    obtain ⟨a, cap, rfl, hcap, hmax, hl⟩ := hv.gs
    simp only [Gt.p_mk, Gt.n_mk, Gt.l_mk] at *
    have HL := Lib.hid hl
    have HIH := Lib.hid ih
    clear hl ih hv
    cases d with
    | zero =>
      go_enter Try.func137, Try.ntmps137
      go_wp2_with fail
      go_ret
      exact ⟨ret_bool (by simp [Gt.deep]), (Same.refl w).alloc _⟩
    | succ d =>
      obtain ⟨W1, hW1⟩ : ∃ W1, W1 = w.alloc (.cells #[.int .i64 p, .int .i64 n, .slice a l.length cap] 24) := ⟨_, rfl⟩
      have hS1 : Same w W1 := by rw [hW1]; exact (Same.refl w).alloc _
      have r1 : Rec W1 w.heap.size 24 #[.int .i64 p, .int .i64 n, .slice a l.length cap] := by rw [hW1]; exact Rec.new _ _ _
      have hz : (((d : Int) + 1) == 0) = false := by simp; omega
      have HW1 := Lib.hid hW1
      clear hW1
      rw [show ((d + 1 : Nat) : Int) = (d : Int) + 1 from by omega]
      go_enter Try.func137, Try.ntmps137
      go_wp2_with fail
      rw [← HW1.out]
      go_loopw [5] (fun i wr => ∃ j : Nat, j ≤ l.length ∧ i = .int .i64 j ∧ Hid (∀ x, x ∈ l.take j → x.deep d = false) ∧ Same W1 wr) (fun i _ => l.length - (intOf i).toNat)
      case atStart => exact ⟨0, Nat.zero_le _, rfl, Lib.hid (by simp), Same.refl _⟩
      case round =>
        obtain ⟨j, hj, rfl, hno, hS⟩ := hrel
        have rr := Rec.same hS r1
        have q2 := rr.cell 2
        have lr := rr.lt
        simp at q2
        by_cases hlt : j < l.length
        · obtain ⟨ad, u, rfl, c0, c1, c2, hat⟩ := HL.out.get j hlt
          rw [Nat.zero_add] at c0 c1 c2
          obtain ⟨au, cu, hu, -, -, -⟩ := hat.gs
          have hKr := (hS1.trans hS).keep
          have d0 := hKr.cell c0
          have d1 := hKr.cell c1
          have d2 := hKr.cell c2
          rw [add_add_pos _ _ _ (by omega)] at d1 d2
          have hsz : SizeOf.sizeOf l[j] < k := by
            have := List.sizeOf_lt_of_mem (List.getElem_mem hlt)
            simp only [Gt.mk.sizeOf_spec] at hk
            omega
          have Hc := HIH.out l[j] wr (.agg #[.int .i64 l[j].p, .int .i64 l[j].n, u]) d hsz (IsG.keep hKr ⟨u, rfl, hat⟩) (by omega)
          have htk : l.take (j + 1) = l.take j ++ [l[j]] := by simp
          have HTK := Lib.hid htk
          have hmem : l[j] ∈ l := List.getElem_mem _
          have HM := Lib.hid hmem
          clear c0 c1 c2 hat htk hmem
          generalize hlu : l[j].l.length = lu at hu
          subst hu
          have HLU := Lib.hid hlu
          clear hlu
          cases hx : l[j].deep d with
          | true =>
            rw [hx] at Hc
            have HX := Lib.hid hx
            clear hx
            go_wp2_with fail
            refine Hc.mono ?_
            clear Hc
            rintro e w2 ⟨rfl, hs⟩
            go_wp2_with fail
            go_ret
            refine ⟨ret_bool ?_, (hS1.trans hS).trans hs⟩
            rw [Gt.deep, deepL_any]
            exact (List.any_eq_true.2 ⟨_, HM.out, HX.out⟩).symm
          | false =>
            rw [hx] at Hc
            have HX := Lib.hid hx
            clear hx
            go_wp2_with fail
            refine Hc.mono ?_
            clear Hc
            rintro e w2 ⟨rfl, hs⟩
            go_wp2_with fail
            go_roundw
            case rel =>
              refine ⟨j + 1, by omega, by go_num, Lib.hid ?_, hS.trans hs⟩
              intro y hy
              rw [HTK.out, List.mem_append, List.mem_singleton] at hy
              rcases hy with h | h
              · exact hno.out y h
              · rw [h]; exact HX.out
            case measure => simp [intOf]; omega
        · obtain rfl : j = l.length := by omega
          have hall : (Gt.mk p n l).deep (d + 1) = false := by
            rw [Gt.deep, deepL_any]
            have h := hno.out
            rw [List.take_length] at h
            exact List.any_eq_false.2 (fun x hx => by rw [h x hx]; simp)
          have HALL := Lib.hid hall
          clear hall
          go_wp2_with fail
          go_ret
          exact ⟨ret_bool HALL.out.symm, hS1.trans hS⟩
end
section
open Go.RowKit
set_option maxRecDepth 100000
mutual
/-- The leaves, counted up to some more than a limit. -/
def Gt.lv : Gt → Int → Int
  | .mk _ _ l, lim => if l.length = 0 then 1 else lvL l lim 0
def lvL : List Gt → Int → Int → Int
  | [], _, n => n
  | g :: gs, lim, n => if n ≤ lim then lvL gs lim (n + g.lv (lim - n)) else n
end
mutual
theorem lv_bound : ∀ (g : Gt) (lim : Int), 0 ≤ lim → 0 ≤ g.lv lim ∧ g.lv lim ≤ lim + 1
  | .mk p n l, lim, h => by
    rw [Gt.lv]
    split
    · omega
    · exact lvL_bound l lim 0 (by omega) (by omega)
theorem lvL_bound : ∀ (l : List Gt) (lim n : Int), 0 ≤ n → n ≤ lim + 1 → 0 ≤ lvL l lim n ∧ lvL l lim n ≤ lim + 1
  | [], lim, n, h, h' => by rw [lvL]; omega
  | g :: gs, lim, n, h, h' => by
    rw [lvL]
    split
    · have := lv_bound g (lim - n) (by omega)
      exact lvL_bound gs lim _ (by omega) (by omega)
    · omega
end
theorem lvL_stop (l : List Gt) (lim n : Int) (h : lim < n) : lvL l lim n = n := by
  cases l with
  | nil => rw [lvL]
  | cons g gs => rw [lvL, if_neg (by omega)]
set_option maxHeartbeats 1000000 in
theorem Leaves_all (k : Nat) : ∀ (g : Gt) (w : World) (val : Value) (lim : Int), SizeOf.sizeOf g < k → IsG w g val → 0 ≤ lim → lim < 1000 →
    Calls Try.prog 112 #[val, .int .i64 lim] w fun e w' => e = .returned (.int .i64 (g.lv lim)) ∧ Same w w' := by
  induction k with
  | zero => intro g w val lim hk; omega
  | succ k ih =>
    intro g w val lim hk hg h0 h1
    obtain ⟨v, rfl, hv⟩ := hg
    obtain ⟨p, n, l⟩ := g
    obtain ⟨a, cap, rfl, hcap, hmax, hl⟩ := hv.gs
    simp only [Gt.p_mk, Gt.n_mk, Gt.l_mk] at *
    have HL := Lib.hid hl
    have HIH := Lib.hid ih
    clear hl ih hv
    obtain ⟨W1, hW1⟩ : ∃ W1, W1 = w.alloc (.cells #[.int .i64 p, .int .i64 n, .slice a l.length cap] 24) := ⟨_, rfl⟩
    have hS1 : Same w W1 := by rw [hW1]; exact (Same.refl w).alloc _
    have r1 : Rec W1 w.heap.size 24 #[.int .i64 p, .int .i64 n, .slice a l.length cap] := by rw [hW1]; exact Rec.new _ _ _
    have HW1 := Lib.hid hW1
    clear hW1
    by_cases hn : l.length = 0
    · have hz : ((l.length : Int) == 0) = true := by rw [hn]; rfl
      have hlv : (Gt.mk p n l).lv lim = 1 := by rw [Gt.lv, if_pos hn]
      have HLV := Lib.hid hlv
      clear hlv
      go_enter Try.func112, Try.ntmps112
      go_wp2_with fail
      go_ret
      exact ⟨ret_int HLV.out.symm, (Same.refl w).alloc _⟩
    · have hz : ((l.length : Int) == 0) = false := by simpa using hn
      have hlv : (Gt.mk p n l).lv lim = lvL l lim 0 := by rw [Gt.lv, if_neg hn]
      have HLV := Lib.hid hlv
      have HN := Lib.hid hn
      clear hlv hn
      go_enter Try.func112, Try.ntmps112
      go_wp2_with fail
      rw [← HW1.out]
      go_loopw [5, 6] (fun m i wr => ∃ (j : Nat) (c : Int), j ≤ l.length ∧ i = .int .i64 j ∧ m = .int .i64 c ∧ 0 ≤ c ∧ c ≤ lim + 1 ∧ Hid (lvL l lim 0 = lvL (l.drop j) lim c) ∧ Same W1 wr) (fun _ i _ => l.length - (intOf i).toNat)
      case atStart => exact ⟨0, 0, Nat.zero_le _, rfl, rfl, by omega, by omega, Lib.hid (by simp), Same.refl _⟩
      case round =>
        obtain ⟨j, c, hj, rfl, rfl, hc0, hc1, heq, hS⟩ := hrel
        have rr := Rec.same hS r1
        have q2 := rr.cell 2
        have lr := rr.lt
        simp at q2
        by_cases hlt : j < l.length
        · by_cases hcl : c ≤ lim
          · obtain ⟨ad, u, rfl, c0, c1, c2, hat⟩ := HL.out.get j hlt
            rw [Nat.zero_add] at c0 c1 c2
            obtain ⟨au, cu, hu, -, -, -⟩ := hat.gs
            have hKr := (hS1.trans hS).keep
            have d0 := hKr.cell c0
            have d1 := hKr.cell c1
            have d2 := hKr.cell c2
            rw [add_add_pos _ _ _ (by omega)] at d1 d2
            have hsz : SizeOf.sizeOf l[j] < k := by
              have := List.sizeOf_lt_of_mem (List.getElem_mem hlt)
              simp only [Gt.mk.sizeOf_spec] at hk
              omega
            have Hc := HIH.out l[j] wr (.agg #[.int .i64 l[j].p, .int .i64 l[j].n, u]) (lim - c) hsz (IsG.keep hKr ⟨u, rfl, hat⟩) (by omega) (by omega)
            have hdr : lvL (l.drop j) lim c = lvL (l.drop (j + 1)) lim (c + l[j].lv (lim - c)) := by
              rw [← List.getElem_cons_drop hlt, lvL, if_pos hcl]
            have hb := lv_bound l[j] (lim - c) (by omega)
            have HDR := Lib.hid hdr
            obtain ⟨hb1, hb2⟩ := hb
            clear c0 c1 c2 hat hdr
            generalize l[j].lv (lim - c) = y at *
            generalize hlu : l[j].l.length = lu at hu
            subst hu
            have HLU := Lib.hid hlu
            clear hlu
            go_wp2_with fail
            refine Hc.mono ?_
            clear Hc
            rintro e w2 ⟨rfl, hs⟩
            go_wp2_with fail
            go_roundw
            case rel => exact ⟨j + 1, c + y, by omega, by go_num, by go_num, by omega, by omega, Lib.hid (by rw [heq.out, HDR.out]), hS.trans hs⟩
            case measure => simp [intOf]; omega
          · have hst := lvL_stop (l.drop j) lim c (by omega)
            have HST := Lib.hid hst
            have hcl2 : lim < c := by omega
            clear hst
            go_wp2_with fail
            go_ret
            exact ⟨ret_int (by rw [HLV.out, heq.out, HST.out]), hS1.trans hS⟩
        · obtain rfl : j = l.length := by omega
          have hst : lvL (l.drop l.length) lim c = c := by rw [List.drop_length, lvL]
          have HST := Lib.hid hst
          clear hst
          go_wp2_with fail
          go_ret
          exact ⟨ret_int (by rw [HLV.out, heq.out, HST.out]), hS1.trans hS⟩
end
section
open Go.RowKit
set_option maxRecDepth 100000
set_option maxHeartbeats 2000000 in
theorem refRight_all (k : Nat) : ∀ (g : Gt) (w : World) (val : Value), SizeOf.sizeOf g < k → IsG w g val →
    Calls Try.prog 138 #[val] w fun e w' => e = .returned (.bool g.right) ∧ Same w w' := by
  induction k with
  | zero => intro g w val hk; omega
  | succ k ih =>
    intro g w val hk hg
    obtain ⟨v, rfl, hv⟩ := hg
    obtain ⟨p, n, l⟩ := g
    obtain ⟨a, cap, rfl, hcap, hmax, hl⟩ := hv.gs
    simp only [Gt.p_mk, Gt.n_mk, Gt.l_mk] at *
    have HL := Lib.hid hl
    have HIH := Lib.hid ih
    clear hl ih hv
    obtain ⟨W1, hW1⟩ : ∃ W1, W1 = w.alloc (.cells #[.int .i64 p, .int .i64 n, .slice a l.length cap] 24) := ⟨_, rfl⟩
    have hS1 : Same w W1 := by rw [hW1]; exact (Same.refl w).alloc _
    have r1 : Rec W1 w.heap.size 24 #[.int .i64 p, .int .i64 n, .slice a l.length cap] := by rw [hW1]; exact Rec.new _ _ _
    have HW1 := Lib.hid hW1
    clear hW1
    by_cases hp : 0 ≤ p
    · go_enter Try.func138, Try.ntmps138
      go_wp2_with fail
      all_goals go_ret
      all_goals exact ⟨ret_bool (by rw [Gt.right, if_pos hp]; cases l <;> simp_all <;> omega), (Same.refl w).alloc _⟩
    · by_cases hbad : p ≠ -1 ∨ n < 1 ∨ 4096 < n
      · have hr : (Gt.mk p n l).right = false := by
          rw [Gt.right, if_neg hp]
          rcases hbad with h | h | h <;> simp <;> intros <;> omega
        have HR := Lib.hid hr
        clear hr
        by_cases hp1 : p = -1
        · subst hp1
          rcases hbad with h | h | h
          · exact absurd rfl h
          all_goals go_enter Try.func138, Try.ntmps138
          all_goals go_wp2_with fail
          all_goals try go_ret
          all_goals try exact ⟨ret_bool HR.out.symm, (Same.refl w).alloc _⟩
          all_goals exfalso
          all_goals omega
        · clear hbad
          go_enter Try.func138, Try.ntmps138
          go_wp2_with fail
          all_goals go_ret
          all_goals exact ⟨ret_bool HR.out.symm, (Same.refl w).alloc _⟩
      · obtain rfl : p = -1 := by omega
        have hn1 : 1 ≤ n := by omega
        have hn2 : n ≤ 4096 := by omega
        have hr : (Gt.mk (-1) n l).right = rightL l := by
          rw [Gt.right, if_neg hp]
          simp [hn1, hn2]
        have HR := Lib.hid hr
        have hd1 : ¬ n < 1 := by omega
        have hd2 : ¬ 4096 < n := by omega
        clear hr hbad
        go_enter Try.func138, Try.ntmps138
        go_wp2_with fail
        rw [← HW1.out]
        go_loopw [3] (fun i wr => ∃ j : Nat, j ≤ l.length ∧ i = .int .i64 j ∧ Hid (∀ x, x ∈ l.take j → x.right = true) ∧ Same W1 wr) (fun i _ => l.length - (intOf i).toNat)
        case atStart => exact ⟨0, Nat.zero_le _, rfl, Lib.hid (by simp), Same.refl _⟩
        case round =>
          obtain ⟨j, hj, rfl, hno, hS⟩ := hrel
          have rr := Rec.same hS r1
          have q2 := rr.cell 2
          have lr := rr.lt
          simp at q2
          by_cases hlt : j < l.length
          · obtain ⟨ad, u, rfl, c0, c1, c2, hat⟩ := HL.out.get j hlt
            rw [Nat.zero_add] at c0 c1 c2
            obtain ⟨au, cu, hu, -, -, -⟩ := hat.gs
            have hKr := (hS1.trans hS).keep
            have d0 := hKr.cell c0
            have d1 := hKr.cell c1
            have d2 := hKr.cell c2
            rw [add_add_pos _ _ _ (by omega)] at d1 d2
            have hsz : SizeOf.sizeOf l[j] < k := by
              have := List.sizeOf_lt_of_mem (List.getElem_mem hlt)
              simp only [Gt.mk.sizeOf_spec] at hk
              omega
            have Hc := HIH.out l[j] wr (.agg #[.int .i64 l[j].p, .int .i64 l[j].n, u]) hsz (IsG.keep hKr ⟨u, rfl, hat⟩)
            have htk : l.take (j + 1) = l.take j ++ [l[j]] := by simp
            have HTK := Lib.hid htk
            have hmem : l[j] ∈ l := List.getElem_mem _
            have HM := Lib.hid hmem
            clear c0 c1 c2 hat htk hmem
            generalize hlu : l[j].l.length = lu at hu
            subst hu
            have HLU := Lib.hid hlu
            clear hlu
            cases hx : l[j].right with
            | false =>
              rw [hx] at Hc
              have HX := Lib.hid hx
              clear hx
              go_wp2_with fail
              refine Hc.mono ?_
              clear Hc
              rintro e w2 ⟨rfl, hs⟩
              go_wp2_with fail
              go_ret
              refine ⟨ret_bool ?_, (hS1.trans hS).trans hs⟩
              rw [HR.out, rightL_any]
              have : (l.any fun x => !x.right) = true := List.any_eq_true.2 ⟨_, HM.out, by simp [HX.out]⟩
              rw [this]; rfl
            | true =>
              rw [hx] at Hc
              have HX := Lib.hid hx
              clear hx
              go_wp2_with fail
              refine Hc.mono ?_
              clear Hc
              rintro e w2 ⟨rfl, hs⟩
              go_wp2_with fail
              go_roundw
              case rel =>
                refine ⟨j + 1, by omega, by go_num, Lib.hid ?_, hS.trans hs⟩
                intro y hy
                rw [HTK.out, List.mem_append, List.mem_singleton] at hy
                rcases hy with h | h
                · exact hno.out y h
                · rw [h]; exact HX.out
              case measure => simp [intOf]; omega
          · obtain rfl : j = l.length := by omega
            have hall : (Gt.mk (-1) n l).right = true := by
              rw [HR.out, rightL_any]
              have h := hno.out
              rw [List.take_length] at h
              have : (l.any fun x => !x.right) = false := List.any_eq_false.2 (fun x hx => by rw [h x hx]; simp)
              rw [this]; rfl
            have HALL := Lib.hid hall
            clear hall
            go_wp2_with fail
            go_ret
            exact ⟨ret_bool HALL.out.symm, hS1.trans hS⟩
end
end Go.Proofs.Ytmnpbopkhpbhiaa
