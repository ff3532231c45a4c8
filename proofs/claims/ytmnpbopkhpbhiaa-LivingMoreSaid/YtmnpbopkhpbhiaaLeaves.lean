/- signatoryref22.Leaves. -/
import Derived.Test.YtmnpbopkhpbhiaaRefGate
set_option linter.unusedVariables false
set_option linter.unusedSimpArgs false
namespace Go.Proofs.Ytmnpbopkhpbhiaa
open Go.RowKit
set_option maxRecDepth 100000
mutual
/-- The leaves, counted up to some more than a limit. -/
def Gt.lv : Gt → Int → Int
  | .mk _ _ l, lim => if l.length = 0 then 1 else lvL l lim 0
def lvL : List Gt → Int → Int → Int
  | [], _, n => n
  | g :: gs, lim, n => if n ≤ lim then lvL gs lim (n + g.lv (lim - n)) else n
end
mutual
theorem lv_bound : ∀ (g : Gt) (lim : Int), 0 ≤ lim → 0 ≤ g.lv lim ∧ g.lv lim ≤ lim + 1
  | .mk p n l, lim, h => by
    rw [Gt.lv]
    split
    · omega
    · exact lvL_bound l lim 0 (by omega) (by omega)
theorem lvL_bound : ∀ (l : List Gt) (lim n : Int), 0 ≤ n → n ≤ lim + 1 → 0 ≤ lvL l lim n ∧ lvL l lim n ≤ lim + 1
  | [], lim, n, h, h' => by rw [lvL]; omega
  | g :: gs, lim, n, h, h' => by
    rw [lvL]
    split
    · have := lv_bound g (lim - n) (by omega)
      exact lvL_bound gs lim _ (by omega) (by omega)
    · omega
end
theorem lvL_stop (l : List Gt) (lim n : Int) (h : lim < n) : lvL l lim n = n := by
  cases l with
  | nil => rw [lvL]
  | cons g gs => rw [lvL, if_neg (by omega)]
set_option maxHeartbeats 1000000 in
theorem Leaves_all (k : Nat) : ∀ (g : Gt) (w : World) (val : Value) (lim : Int), SizeOf.sizeOf g < k → IsG w g val → 0 ≤ lim → lim < 1000 →
    Calls Try.prog 112 #[val, .int .i64 lim] w fun e w' => e = .returned (.int .i64 (g.lv lim)) ∧ Same w w' := by
  induction k with
  | zero => intro g w val lim hk; omega
  | succ k ih =>
    intro g w val lim hk hg h0 h1
    obtain ⟨v, rfl, hv⟩ := hg
    obtain ⟨p, n, l⟩ := g
    obtain ⟨a, cap, rfl, hcap, hmax, hl⟩ := hv.gs
    simp only [Gt.p_mk, Gt.n_mk, Gt.l_mk] at *
    have HL := Lib.hid hl
    have HIH := Lib.hid ih
    clear hl ih hv
    obtain ⟨W1, hW1⟩ : ∃ W1, W1 = w.alloc (.cells #[.int .i64 p, .int .i64 n, .slice a l.length cap] 24) := ⟨_, rfl⟩
    have hS1 : Same w W1 := by rw [hW1]; exact (Same.refl w).alloc _
    have r1 : Rec W1 w.heap.size 24 #[.int .i64 p, .int .i64 n, .slice a l.length cap] := by rw [hW1]; exact Rec.new _ _ _
    have HW1 := Lib.hid hW1
    clear hW1
    by_cases hn : l.length = 0
    · have hz : ((l.length : Int) == 0) = true := by rw [hn]; rfl
      have hlv : (Gt.mk p n l).lv lim = 1 := by rw [Gt.lv, if_pos hn]
      have HLV := Lib.hid hlv
      clear hlv
      go_enter Try.func112, Try.ntmps112
      go_wp2_with fail
      go_ret
      exact ⟨ret_int HLV.out.symm, (Same.refl w).alloc _⟩
    · have hz : ((l.length : Int) == 0) = false := by simpa using hn
      have hlv : (Gt.mk p n l).lv lim = lvL l lim 0 := by rw [Gt.lv, if_neg hn]
      have HLV := Lib.hid hlv
      have HN := Lib.hid hn
      clear hlv hn
      go_enter Try.func112, Try.ntmps112
      go_wp2_with fail
      rw [← HW1.out]
      go_loopw [5, 6] (fun m i wr => ∃ (j : Nat) (c : Int), j ≤ l.length ∧ i = .int .i64 j ∧ m = .int .i64 c ∧ 0 ≤ c ∧ c ≤ lim + 1 ∧ Hid (lvL l lim 0 = lvL (l.drop j) lim c) ∧ Same W1 wr) (fun _ i _ => l.length - (intOf i).toNat)
      case atStart => exact ⟨0, 0, Nat.zero_le _, rfl, rfl, by omega, by omega, Lib.hid (by simp), Same.refl _⟩
      case round =>
        obtain ⟨j, c, hj, rfl, rfl, hc0, hc1, heq, hS⟩ := hrel
        have rr := Rec.same hS r1
        have q2 := rr.cell 2
        have lr := rr.lt
        simp at q2
        by_cases hlt : j < l.length
        · by_cases hcl : c ≤ lim
          · obtain ⟨ad, u, rfl, c0, c1, c2, hat⟩ := HL.out.get j hlt
            rw [Nat.zero_add] at c0 c1 c2
            obtain ⟨au, cu, hu, -, -, -⟩ := hat.gs
            have hKr := (hS1.trans hS).keep
            have d0 := hKr.cell c0
            have d1 := hKr.cell c1
            have d2 := hKr.cell c2
            rw [add_add_pos _ _ _ (by omega)] at d1 d2
            have hsz : SizeOf.sizeOf l[j] < k := by
              have := List.sizeOf_lt_of_mem (List.getElem_mem hlt)
              simp only [Gt.mk.sizeOf_spec] at hk
              omega
            have Hc := HIH.out l[j] wr (.agg #[.int .i64 l[j].p, .int .i64 l[j].n, u]) (lim - c) hsz (IsG.keep hKr ⟨u, rfl, hat⟩) (by omega) (by omega)
            have hdr : lvL (l.drop j) lim c = lvL (l.drop (j + 1)) lim (c + l[j].lv (lim - c)) := by
              rw [← List.getElem_cons_drop hlt, lvL, if_pos hcl]
            have hb := lv_bound l[j] (lim - c) (by omega)
            have HDR := Lib.hid hdr
            obtain ⟨hb1, hb2⟩ := hb
            clear c0 c1 c2 hat hdr
            generalize l[j].lv (lim - c) = y at *
            generalize hlu : l[j].l.length = lu at hu
            subst hu
            have HLU := Lib.hid hlu
            clear hlu
            go_wp2_with fail
            refine Hc.mono ?_
            clear Hc
            rintro e w2 ⟨rfl, hs⟩
            go_wp2_with fail
            go_roundw
            case rel => exact ⟨j + 1, c + y, by omega, by go_num, by go_num, by omega, by omega, Lib.hid (by rw [heq.out, HDR.out]), hS.trans hs⟩
            case measure => simp [intOf]; omega
          · have hst := lvL_stop (l.drop j) lim c (by omega)
            have HST := Lib.hid hst
            have hcl2 : lim < c := by omega
            clear hst
            go_wp2_with fail
            go_ret
            exact ⟨ret_int (by rw [HLV.out, heq.out, HST.out]), hS1.trans hS⟩
        · obtain rfl : j = l.length := by omega
          have hst : lvL (l.drop l.length) lim c = c := by rw [List.drop_length, lvL]
          have HST := Lib.hid hst
          clear hst
          go_wp2_with fail
          go_ret
          exact ⟨ret_int (by rw [HLV.out, heq.out, HST.out]), hS1.trans hS⟩
end Go.Proofs.Ytmnpbopkhpbhiaa
