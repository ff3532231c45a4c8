/- signatoryref24.gather, signatoryref24.People. -/
import Derived.Test.YtmnpbopkhpbhiaaRefPut
set_option linter.unusedVariables false
set_option linter.unusedSimpArgs false
namespace Go.Proofs.Ytmnpbopkhpbhiaa
open Go.RowKit
set_option maxRecDepth 100000
mutual
/-- The people of a formula, as the references meet them. -/
def Gt.ppl : Gt → List Int
  | .mk p _ l => if 0 ≤ p then [p] else pplL l
def pplL : List Gt → List Int
  | [] => []
  | g :: gs => g.ppl ++ pplL gs
end
theorem pplL_append : ∀ (a b : List Gt), pplL (a ++ b) = pplL a ++ pplL b
  | [], b => by simp [pplL]
  | g :: gs, b => by simp [pplL, pplL_append gs b]
theorem put_length (l : List Int) (n : Int) : (put l n).length ≤ l.length + 1 := by
  induction l with
  | nil => simp [put]
  | cons x xs ih =>
    simp only [put]
    split
    · simp only [List.length_cons]; omega
    · split <;> simp
def puts (acc l : List Int) : List Int := l.foldl put acc
theorem puts_length (l : List Int) : ∀ acc : List Int, (puts acc l).length ≤ acc.length + l.length := by
  induction l with
  | nil => intro acc; simp [puts]
  | cons x xs ih =>
    intro acc
    have h1 := ih (put acc x)
    have h2 := put_length acc x
    simp only [puts, List.foldl_cons, List.length_cons] at h1 ⊢
    omega
theorem puts_append (acc a b : List Int) : puts acc (a ++ b) = puts (puts acc a) b := List.foldl_append
set_option maxHeartbeats 2000000 in
theorem gather_all (k : Nat) : ∀ (g : Gt) (w : World) (val vl : Value) (acc : List Int), SizeOf.sizeOf g < k → IsG w g val → Ints w vl acc → acc.length + g.ppl.length ≤ 1000000 →
    Calls Try.prog 69 #[vl, val] w fun e w' => ∃ v', e = .returned v' ∧ Ints w' v' (puts acc g.ppl) ∧ Same w w' := by
  induction k with
  | zero => intro g w val vl acc hk; omega
  | succ k ih =>
    intro g w val vl acc hk hg hl0 hlen
    obtain ⟨v, rfl, hv⟩ := hg
    obtain ⟨p, n, l⟩ := g
    obtain ⟨a, cap, rfl, hcap, hmax, hl⟩ := hv.gs
    obtain ⟨av, nv, cv, rfl, hnv⟩ := hl0.slice
    simp only [Gt.p_mk, Gt.n_mk, Gt.l_mk] at *
    have HL := Lib.hid hl
    have HIH := Lib.hid ih
    have HA := Lib.hid hl0
    have HLEN := Lib.hid hlen
    clear hl ih hv hl0 hnv hlen
    obtain ⟨W1, hW1⟩ : ∃ W1, W1 = w.alloc (.cells #[.int .i64 p, .int .i64 n, .slice a l.length cap] 24) := ⟨_, rfl⟩
    have hS1 : Same w W1 := by rw [hW1]; exact (Same.refl w).alloc _
    have hgb : ∀ W, Same W1 W → _ := fun W h => gbox (w := w) (W := W) (by rw [← hW1]; exact h)
    have HGB := Lib.hid hgb
    have HW1 := Lib.hid hW1
    clear hgb
    by_cases hp : 0 ≤ p
    · have hpp : (Gt.mk p n l).ppl = [p] := by rw [Gt.ppl, if_pos hp]
      have hh := put_spec W1 (.slice av nv cv) acc p (HA.out.keep hS1.keep) (by have h := HLEN.out; rw [hpp] at h; simp at h; omega)
      have HPP := Lib.hid hpp
      rw [hW1] at hh
      clear hW1 hpp
      go_enter Try.func69, Try.ntmps69
      go_wp2_with fail
      refine hh.mono ?_
      clear hh
      rintro e w2 ⟨v2, rfl, hi2, hs2⟩
      have HI2 := Lib.hid hi2
      obtain ⟨a2, n2, c2, rfl, -⟩ := hi2.slice
      clear hi2
      go_wp2_with fail
      go_ret
      refine ⟨_, rfl, ?_, ?_⟩
      · rw [HPP.out]; exact HI2.out
      · rw [← HW1.out] at hs2; exact hS1.trans hs2
    · have hpp : (Gt.mk p n l).ppl = pplL l := by rw [Gt.ppl, if_neg hp]
      have HPP := Lib.hid hpp
      clear hW1 hpp
      go_enter Try.func69, Try.ntmps69
      go_wp2_with fail
      rw [← HW1.out]
      go_loopw [5, 6] (fun u i wr => ∃ (j : Nat) (ax : Option Addr) (nx cx : Nat), j ≤ l.length ∧ i = .int .i64 j ∧ u = .slice ax nx cx ∧ Hid (Ints wr (.slice ax nx cx) (puts acc (pplL (l.take j)))) ∧ Same W1 wr) (fun _ i _ => l.length - (intOf i).toNat)
      case atStart => exact ⟨0, av, nv, cv, Nat.zero_le _, rfl, rfl, Lib.hid (by simpa [pplL, puts] using HA.out.keep hS1.keep), Same.refl _⟩
      case round =>
        obtain ⟨j, ax, nx, cx, hj, rfl, rfl, HX, hS⟩ := hrel
        obtain ⟨q0, q1, q2, lr⟩ := HGB.out _ hS
        by_cases hlt : j < l.length
        · obtain ⟨ad, u, rfl, c0, c1, c2, hat⟩ := HL.out.get j hlt
          rw [Nat.zero_add] at c0 c1 c2
          obtain ⟨au, nu, cu, rfl⟩ := hat.form
          have hKr := (hS1.trans hS).keep
          have d0 := hKr.cell c0
          have d1 := hKr.cell c1
          have d2 := hKr.cell c2
          rw [add_add_pos _ _ _ (by omega)] at d1 d2
          have hsz : SizeOf.sizeOf l[j] < k := by
            have := List.sizeOf_lt_of_mem (List.getElem_mem hlt)
            simp only [Gt.mk.sizeOf_spec] at hk
            omega
          have htk : pplL (l.take (j + 1)) = pplL (l.take j) ++ l[j].ppl := by
            rw [List.take_succ_eq_append_getElem hlt, pplL_append]; simp [pplL]
          have hbd : (puts acc (pplL (l.take j))).length + l[j].ppl.length ≤ 1000000 := by
            have h1 := puts_length (pplL (l.take j)) acc
            have h2 : (pplL (l.take (j + 1))).length ≤ (pplL l).length := by
              conv => rhs; rw [← List.take_append_drop (j + 1) l, pplL_append, List.length_append]
              omega
            rw [htk, List.length_append] at h2
            have h3 := HLEN.out
            rw [HPP.out] at h3
            omega
          have Hc := HIH.out l[j] wr (.agg #[.int .i64 l[j].p, .int .i64 l[j].n, .slice au nu cu]) (.slice ax nx cx) (puts acc (pplL (l.take j))) hsz (IsG.keep hKr ⟨_, rfl, hat⟩) HX.out hbd
          have HTK := Lib.hid htk
          clear c0 c1 c2 hat htk hbd
          go_wp2_with fail
          refine Hc.mono ?_
          clear Hc
          rintro e w2 ⟨v2, rfl, hi2, hs⟩
          have HI2 := Lib.hid hi2
          obtain ⟨a2, n2, c2, rfl, -⟩ := hi2.slice
          clear hi2
          go_wp2_with fail
          go_roundw
          case rel => exact ⟨j + 1, a2, n2, c2, by omega, by go_num, rfl, Lib.hid (by rw [HTK.out, puts_append]; exact HI2.out), hS.trans hs⟩
          case measure => simp [intOf]; omega
        · obtain rfl : j = l.length := by omega
          go_wp2_with fail
          go_ret
          refine ⟨_, rfl, ?_, hS1.trans hS⟩
          have h := HX.out
          rw [List.take_length] at h
          rw [HPP.out]; exact h
/-- The people of a formula, as the references list them. -/
def Gt.rpeople (g : Gt) : List Int := puts [] g.ppl
set_option maxHeartbeats 1000000 in
theorem refPeopleOf_spec (w : World) (g : Gt) (val : Value) (hg : IsG w g val) (hlen : g.ppl.length ≤ 1000000) :
    Calls Try.prog 29 #[val] w fun e w' => ∃ v', e = .returned v' ∧ Ints w' v' g.rpeople ∧ Same w w' := by
  obtain ⟨v, rfl, hv⟩ := hg
  obtain ⟨a, n, c, rfl⟩ := hv.form
  obtain ⟨W1, hW1⟩ : ∃ W1, W1 = (w.alloc (.cells #[.int .i64 g.p, .int .i64 g.n, .slice a n c] 24)).alloc (.cells #[] 3) := ⟨_, rfl⟩
  have hS1 : Same w W1 := by rw [hW1]; exact ((Same.refl w).alloc _).alloc _
  have hb : W1.heap[w.heap.size + 1]? = some (.cells #[] 3 (0, 0)) := by rw [hW1]; exact h_new' _ (by simp)
  have H := gather_all (SizeOf.sizeOf g + 1) g W1 _ _ [] (by omega) ⟨_, rfl, hv.keep hS1.keep⟩ (own_ints (xs := []) (own_zero (base := 0) hb (Nat.zero_le _)) (by simp)) (by simpa using hlen)
  have HW1 := Lib.hid hW1
  rw [hW1] at H
  clear hb hv hW1
  go_enter Try.func29, Try.ntmps29
  go_wp2_with fail
  refine H.mono ?_
  clear H
  rintro e w2 ⟨v2, rfl, hi2, hs⟩
  have HI2 := Lib.hid hi2
  obtain ⟨a2, n2, c2, rfl, -⟩ := hi2.slice
  clear hi2
  rw [← HW1.out] at hs
  go_wp2_with fail
  go_ret
  exact ⟨_, rfl, HI2.out, hS1.trans hs⟩
end Go.Proofs.Ytmnpbopkhpbhiaa
