/- signatoryref24.All, signatoryref24.Before. -/
import Derived.Test.YtmnpbopkhpbhiaaRefChoose
import Derived.Test.YtmnpbopkhpbhiaaRefList
set_option linter.unusedVariables false
set_option linter.unusedSimpArgs false
namespace Go.Proofs.Ytmnpbopkhpbhiaa
open Go.RowKit
set_option maxRecDepth 100000
/-- All lists with fewer than k of some people, in order. -/
def allTo (xs : List Int) : Nat → List (List Int)
  | 0 => []
  | k + 1 => allTo xs k ++ chooseL k xs
def allR (xs : List Int) : List (List Int) := allTo xs (xs.length + 1)
theorem allTo_count (xs : List Int) (h : xs.length ≤ 12) : ∀ k, (allTo xs k).length ≤ 4096 * k
  | 0 => by simp [allTo]
  | k + 1 => by
    have h1 := allTo_count xs h k
    have h2 := count12 h k
    rw [allTo, List.length_append]
    omega
set_option maxHeartbeats 2000000 in
theorem all_spec (w : World) (v : Value) (xs : List Int) (hx : Ints w v xs) (hlen : xs.length ≤ 12) :
    Calls Try.prog 62 #[v] w fun e w' => ∃ v' us, e = .returned v' ∧ Own w' w.heap.size 25 v' us ∧ Rows w' w.heap.size us (allR xs) ∧ Same w w' := by
  obtain ⟨a, nx, cap, rfl, hnx⟩ := hx.slice
  have HX := Lib.hid hx
  have HNX := Lib.hid hnx
  have hn12 : nx ≤ 12 := by omega
  clear hx hnx
  go_enter Try.func62, Try.ntmps62
  go_wp2_with fail
  go_loopw [3, 4] (fun u i wr => ∃ (k : Nat) (ax : Option Addr) (n0 cx : Nat) (us : List Value), k ≤ nx + 1 ∧ i = .int .i64 k ∧ u = .slice ax n0 cx ∧ Hid (Own wr w.heap.size 25 (.slice ax n0 cx) us ∧ Rows wr w.heap.size us (allTo xs k)) ∧ Same w wr) (fun _ i _ => nx + 1 - (intOf i).toNat)
  case atStart => exact ⟨0, _, _, _, [], by omega, rfl, rfl, Lib.hid ⟨own_zero (h_new _ _) (Nat.le_refl _), Rows.nil _ _⟩, (Same.refl w).alloc _⟩
  case round =>
    obtain ⟨k, ax, n0, cx, us, hk, rfl, rfl, HI, hS⟩ := hrel
    by_cases hlt : k ≤ nx
    · have H := choose_all (k + 1) k wr _ xs (by omega) (HX.out.keep hS.keep) hlen (by omega)
      have hus : us.length ≤ 4096 * k := by rw [HI.out.2.1]; exact allTo_count xs hlen k
      go_wp2_with fail
      refine H.mono ?_
      clear H
      rintro e w2 ⟨vr, ur, rfl, hor, hrr, hs2⟩
      obtain ⟨ar, nr, cr, rfl, rfl⟩ := hor.slice
      have hrl : ur.length ≤ 4096 := by rw [hrr.1]; exact count12 hlen k
      have hown := own_keep hs2.keep HI.out.1
      have hrow := HI.out.2.keep hs2.keep
      have HO := Lib.hid hown
      have HR := Lib.hid hrow
      have HC := Lib.hid (Own.cells hor)
      have HRR := Lib.hid (hrr.lower (base' := w.heap.size) hS.size)
      have HONE := Lib.hid (one_rows hrr)
      have hS2 := hS.trans hs2
      clear hown hrow hor hrr
      go_wp2_with (at_builtin; refine wpList_append_src rfl _ _ 40 rfl Try.underlying40 info_ints rfl HO.out rfl HC.out rfl HONE.out (by omega) (by decide) hS2.size ?_)
      rintro a7 n7 c7 w7 hO7 hG7 hB7 hW7
      have hS7 := Same.grown hS2 hG7 hB7
      have hR7 := (HR.out.grown HO.out hG7).append (HRR.out.grown HO.out hG7)
      have HO7 := Lib.hid hO7
      have HR7 := Lib.hid hR7
      clear hO7 hG7 hB7 hW7 hR7
      go_wp2_with fail
      go_roundw
      case rel => exact ⟨k + 1, a7, n7, c7, _, by omega, by go_num, rfl, Lib.hid ⟨HO7.out, HR7.out⟩, hS7⟩
      case measure => simp [intOf]; omega
    · obtain rfl : k = nx + 1 := by omega
      go_wp2_with fail
      go_ret
      exact ⟨_, us, rfl, HI.out.1, by rw [allR, ← HNX.out]; exact HI.out.2, hS⟩
/-- The lists' first difference. -/
def lexB : List Int → List Int → Bool
  | x :: xs, y :: ys => if x = y then lexB xs ys else decide (x < y)
  | _, _ => false
/-- Does a set come before another one? -/
def beforeB (a b : List Int) : Bool := if a.length = b.length then lexB a b else decide (a.length < b.length)
theorem lexB_drop : ∀ (k : Nat) (a b : List Int), a.take k = b.take k → lexB a b = lexB (a.drop k) (b.drop k)
  | 0, a, b, _ => by simp
  | k + 1, [], [], _ => by simp
  | k + 1, [], y :: ys, h => by simp at h
  | k + 1, x :: xs, [], h => by simp at h
  | k + 1, x :: xs, y :: ys, h => by
    simp only [List.take_succ_cons, List.cons.injEq] at h
    simp only [List.drop_succ_cons, lexB]
    rw [if_pos h.1]
    exact lexB_drop k xs ys h.2
set_option maxHeartbeats 1000000 in
theorem before_spec (w : World) (v vo : Value) (xs ys : List Int) (h : Ints w v xs) (ho : Ints w vo ys) :
    Calls Try.prog 33 #[v, vo] w fun e w' => e = .returned (.bool (beforeB xs ys)) ∧ Same w w' := by
  obtain ⟨a, cap, rfl, -, hmax, hc⟩ := h
  obtain ⟨ao, co, rfl, -, -, ho⟩ := ho
  have HC := Lib.hid hc
  have HO := Lib.hid ho
  clear hc ho
  by_cases hl : xs.length = ys.length
  · have hb : ((xs.length : Int) != (ys.length : Int)) = false := by simp [hl]
    have hbe : beforeB xs ys = lexB xs ys := by rw [beforeB, if_pos hl]
    have HB := Lib.hid hbe
    have HL := Lib.hid hl
    clear hl hbe
    go_enter Try.func33, Try.ntmps33
    go_wp2_with fail
    go_loopw [5] (fun i wr => ∃ k : Nat, k ≤ xs.length ∧ i = .int .i64 k ∧ Hid (xs.take k = ys.take k) ∧ Same w wr) (fun i _ => xs.length - (intOf i).toNat)
    case atStart => exact ⟨0, Nat.zero_le _, rfl, Lib.hid rfl, Same.refl w⟩
    case round =>
      obtain ⟨k, hk, rfl, hn, hS⟩ := hrel
      by_cases hlt : k < xs.length
      · have hlt2 : k < ys.length := by have := HL.out; omega
        obtain ⟨ad, u, rfl, hu, hr⟩ := HC.out k hlt
        obtain ⟨ad2, u2, rfl, hu2, hr2⟩ := HO.out k hlt2
        unfold RInt at hr hr2
        subst hr hr2
        have hux := hS.keep.cell hu
        have hux2 := hS.keep.cell hu2
        have htk : xs.take (k + 1) = xs.take k ++ [xs[k]] := by simp
        have htk2 : ys.take (k + 1) = ys.take k ++ [ys[k]] := by simp
        have HTK := Lib.hid htk
        have HTK2 := Lib.hid htk2
        have hne : xs[k] ≠ ys[k] → lexB xs ys = decide (xs[k] < ys[k]) := fun h => by
          rw [lexB_drop k xs ys hn.out, ← List.getElem_cons_drop hlt, ← List.getElem_cons_drop hlt2, lexB, if_neg h]
        have HNE := Lib.hid hne
        have HLT := Lib.hid hlt
        clear htk htk2 hne hu hu2
        generalize xs[k] = p at *
        generalize ys[k] = q at *
        by_cases he : p = q
        · have hb : (p != q) = false := by simpa using he
          have HE := Lib.hid he
          clear he
          go_wp2_with fail
          go_region
          go_wp2_with fail
          go_roundw
          case rel => exact ⟨k + 1, by have := HLT.out; omega, by go_num, Lib.hid (by rw [HTK.out, HTK2.out, hn.out, HE.out]), hS.drew⟩
          case measure => have := HLT.out; simp [intOf]; omega
        · have hb : (p != q) = true := by simpa using he
          have hlx := HNE.out he
          have HLX := Lib.hid hlx
          have HE := Lib.hid he
          clear he hlx
          go_wp2_with fail
          go_region
          go_wp2_with fail
          go_region
          go_wp2_with fail
          go_ret
          exact ⟨ret_bool (by rw [HB.out, HLX.out]), hS.drew.drew⟩
      · obtain rfl : k = xs.length := by omega
        have heq : xs = ys := by
          have h := hn.out
          rw [List.take_length] at h
          rw [h, HL.out, List.take_length]
        have hlx : lexB xs ys = false := by
          rw [lexB_drop xs.length xs ys (by rw [heq])]
          simp [lexB]
        have HEQ := Lib.hid hlx
        clear heq hlx
        go_wp2_with fail
        go_ret
        exact ⟨ret_bool (by rw [HB.out, HEQ.out]), hS⟩
  · have hb : ((xs.length : Int) != (ys.length : Int)) = true := by simp; omega
    have hbe : beforeB xs ys = decide (xs.length < ys.length) := by rw [beforeB, if_neg hl]
    have HB := Lib.hid hbe
    have HL := Lib.hid hl
    clear hl hbe
    go_enter Try.func33, Try.ntmps33
    go_wp2_with fail
    go_ret
    exact ⟨ret_bool (by rw [HB.out]), Same.refl w⟩
end Go.Proofs.Ytmnpbopkhpbhiaa
