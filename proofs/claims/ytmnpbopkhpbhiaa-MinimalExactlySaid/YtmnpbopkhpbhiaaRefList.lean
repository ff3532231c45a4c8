/- The references' lists: signatoryref22.Has, signatoryref24.Without, Inside, Before, SameInts; signatoryref51.Both. -/
import Derived.Test.YtmnpbopkhpbhiaaDelete
set_option linter.unusedVariables false
set_option linter.unusedSimpArgs false
namespace Go.Proofs.Ytmnpbopkhpbhiaa
open Go.RowKit
set_option maxRecDepth 100000
set_option maxHeartbeats 1000000 in
theorem Has_spec (w : World) (v : Value) (xs : List Int) (x : Int) (h : Ints w v xs) :
    Calls Try.prog 70 #[v, .int .i64 x] w fun e w' => e = .returned (.bool (decide (x ∈ xs))) ∧ w = w' := by
  obtain ⟨a, cap, rfl, hcap, hmax, hc⟩ := h
  go_enter Try.func70, Try.ntmps70
  go_wp2_with fail
  go_loop [5] (fun i => ∃ k : Nat, k ≤ xs.length ∧ i = .int .i64 k ∧ (x ∉ xs.take k)) (fun i => xs.length - (intOf i).toNat)
  case atStart => exact ⟨0, Nat.zero_le _, rfl, by simp⟩
  case round =>
    obtain ⟨k, hk, rfl, hn⟩ := hrel
    by_cases hlt : k < xs.length
    · obtain ⟨ad, u, rfl, hu, hr⟩ := hc k hlt
      unfold RInt at hr
      subst hr
      have htk : xs.take (k + 1) = xs.take k ++ [xs[k]] := by simp
      have HTK := Lib.hid htk
      have HN := Lib.hid hn
      have hmem : xs[k] ∈ xs := List.getElem_mem _
      have HM := Lib.hid hmem
      clear htk hn hmem
      by_cases he : xs[k] = x
      · have hb : (xs[k] == x) = true := by simpa using he
        have HE := Lib.hid he
        clear he
        go_wp2_with fail
        go_ret
        exact ⟨ret_bool (by rw [← HE.out]; simp [HM.out]), rfl⟩
      · have hb : (xs[k] == x) = false := by simpa using he
        have HE := Lib.hid he
        clear he
        go_wp2_with fail
        go_round
        case rel => exact ⟨k + 1, by omega, by go_num, by rw [HTK.out]; simp only [List.mem_append, List.mem_singleton, not_or]; exact ⟨HN.out, fun e => HE.out e.symm⟩⟩
        case measure => simp [intOf]; omega
    · obtain rfl : k = xs.length := by omega
      rw [List.take_length] at hn
      have HN := Lib.hid hn
      clear hn
      go_wp2_with fail
      go_ret
      exact ⟨ret_bool (by simp [HN.out]), rfl⟩
set_option maxHeartbeats 1000000 in
theorem Without_spec (w : World) (v vo : Value) (xs out : List Int) (h : Ints w v xs) (ho : Ints w vo out) :
    Calls Try.prog 31 #[v, vo] w fun e w' => ∃ v', e = .returned v' ∧ Ints w' v' (minus xs out) ∧ Same w w' := by
  obtain ⟨a, cap, rfl, hcap, hmax, hc⟩ := h
  have hvo : ∃ a c, vo = .slice a out.length c := by obtain ⟨a, c, e, _⟩ := ho; exact ⟨a, c, e⟩
  obtain ⟨ao, co, rfl⟩ := hvo
  have HC := Lib.hid hc
  have HO := Lib.hid ho
  clear hc ho
  go_enter Try.func31, Try.ntmps31
  go_wp2_with fail
  go_loopw [5, 6] (fun u i wr => ∃ (k : Nat) (ax : Option Addr) (nx cx : Nat), k ≤ xs.length ∧ i = .int .i64 k ∧ u = .slice ax nx cx ∧ Own wr w.heap.size 3 (.slice ax nx cx) (intVs (minus (xs.take k) out)) ∧ Same w wr) (fun _ i _ => xs.length - (intOf i).toNat)
  case atStart =>
    refine ⟨0, _, _, _, Nat.zero_le _, rfl, rfl, ?_, (Same.refl w).alloc _⟩
    refine ⟨by simp [minus, intVs], .inr ⟨w.heap.size, 0, #[], rfl, Nat.le_refl _, World.alloc_heap_new _ _, by simp [minus, intVs], by simp [maxLen], by simp, by simp [minus, intVs]⟩⟩
  case round =>
    obtain ⟨k, ax, nx, cx, hk, rfl, rfl, hown, hS⟩ := hrel
    by_cases hlt : k < xs.length
    · obtain ⟨ad, u, rfl, hu, hr⟩ := HC.out k hlt
      unfold RInt at hr
      subst hr
      have hux := hS.keep.cell hu
      have htk : xs.take (k + 1) = xs.take k ++ [xs[k]] := by simp
      have hmn : minus (xs.take (k + 1)) out = minus (xs.take k) out ++ (if xs[k] ∈ out then [] else [xs[k]]) := by
        rw [htk, minus, List.filter_append]
        by_cases h : xs[k] ∈ out <;> simp [minus, h]
      have hlen : (minus (xs.take k) out).length ≤ k := Nat.le_trans (List.length_filter_le _ _) (List.length_take_le _ _)
      have Hh := Has_spec wr (.slice ao out.length co) out xs[k] (HO.out.keep hS.keep)
      generalize xs[k] = xk at *
      have HLEN := Lib.hid hlen
      have HMN := Lib.hid hmn
      clear hmn htk hu hlen
      by_cases hm : xk ∈ out
      · rw [if_pos hm, List.append_nil] at HMN
        have hd : decide (xk ∈ out) = true := by simpa using hm
        rw [hd] at Hh
        have HOW := Lib.hid hown
        clear hd hm hown
        go_wp2_with fail
        refine Hh.mono ?_
        clear Hh
        rintro e w2 ⟨rfl, rfl⟩
        go_wp2_with fail
        go_roundw
        case rel => exact ⟨k + 1, ax, nx, cx, by omega, by go_num, rfl, by rw [HMN.out]; exact HOW.out, hS⟩
        case measure => simp [intOf]; omega
      · rw [if_neg hm] at HMN
        have hd : decide (xk ∈ out) = false := by simpa using hm
        rw [hd] at Hh
        have HA := Lib.hid ((own_at hown).alloc (.cells #[.int .i64 xk] 3))
        have HOWN := Lib.hid hown
        have HB1 := Lib.hid (show ((intVs (minus (xs.take k) out)).length + 1) * 8 ≤ 140737488355328 by rw [intVs_len]; have := HLEN.out; omega)
        have HB2 := Lib.hid (hS.alloc (.cells #[.int .i64 xk] 3)).size
        clear hd hm hown
        go_wp2_with fail
        refine Hh.mono ?_
        clear Hh
        rintro e w2 ⟨rfl, rfl⟩
        go_wp2_with (at_builtin; refine append1 (g := wr.heap.size) (wr.alloc (.cells #[.int .i64 xk] 3)) rfl _ _ 25 rfl Try.underlying25 info_int rfl HA.out rfl (.int .i64 xk) rfl (cell_one_new _ _ _ 0 _ rfl) rfl HB1.out (by decide) HB2.out ?_)
        rintro a7 n7 c7 w2 hO2 hG2
        have hG3 := World.grownBy.trans (World.grownBy_alloc wr (.cells #[.int .i64 xk] 3) _) hG2
        have hS3 := hS.grown hG3 (fun q hq => (own_base HOWN.out hq).1)
        have HO2 := Lib.hid hO2
        clear hO2 hG2 hG3
        go_wp2_with fail
        go_roundw
        case rel => exact ⟨k + 1, a7, n7, c7, by omega, by go_num, rfl, by rw [HMN.out, intVs_snoc]; exact HO2.out, hS3⟩
        case measure => simp [intOf]; omega
    · obtain rfl : k = xs.length := by omega
      rw [List.take_length] at hown
      have hin := own_ints hown (Nat.le_trans (List.length_filter_le _ _) hmax)
      have HIN := Lib.hid hin
      clear hin hown
      go_wp2_with fail
      go_ret
      exact ⟨_, rfl, HIN.out, hS⟩
/-- Those of l that are in m. -/
def both (l m : List Int) : List Int := l.filter fun x => decide (x ∈ m)
set_option maxHeartbeats 1000000 in
theorem Both_spec (w : World) (v vo : Value) (xs out : List Int) (h : Ints w v xs) (ho : Ints w vo out) :
    Calls Try.prog 32 #[v, vo] w fun e w' => ∃ v', e = .returned v' ∧ Ints w' v' (both xs out) ∧ Same w w' := by
  obtain ⟨a, cap, rfl, hcap, hmax, hc⟩ := h
  have hvo : ∃ a c, vo = .slice a out.length c := by obtain ⟨a, c, e, _⟩ := ho; exact ⟨a, c, e⟩
  obtain ⟨ao, co, rfl⟩ := hvo
  have HC := Lib.hid hc
  have HO := Lib.hid ho
  clear hc ho
  go_enter Try.func32, Try.ntmps32
  go_wp2_with fail
  go_loopw [5, 6] (fun u i wr => ∃ (k : Nat) (ax : Option Addr) (nx cx : Nat), k ≤ xs.length ∧ i = .int .i64 k ∧ u = .slice ax nx cx ∧ Own wr w.heap.size 3 (.slice ax nx cx) (intVs (both (xs.take k) out)) ∧ Same w wr) (fun _ i _ => xs.length - (intOf i).toNat)
  case atStart =>
    exact ⟨0, _, _, _, Nat.zero_le _, rfl, rfl, World.ownsRow_nil _ _ _ _, Same.refl w⟩
  case round =>
    obtain ⟨k, ax, nx, cx, hk, rfl, rfl, hown, hS⟩ := hrel
    by_cases hlt : k < xs.length
    · obtain ⟨ad, u, rfl, hu, hr⟩ := HC.out k hlt
      unfold RInt at hr
      subst hr
      have hux := hS.keep.cell hu
      have htk : xs.take (k + 1) = xs.take k ++ [xs[k]] := by simp
      have hmn : both (xs.take (k + 1)) out = both (xs.take k) out ++ (if xs[k] ∈ out then [xs[k]] else []) := by
        rw [htk, both, List.filter_append]
        by_cases h : xs[k] ∈ out <;> simp [both, h]
      have hlen : (both (xs.take k) out).length ≤ k := Nat.le_trans (List.length_filter_le _ _) (List.length_take_le _ _)
      have Hh := Has_spec wr (.slice ao out.length co) out xs[k] (HO.out.keep hS.keep)
      generalize xs[k] = xk at *
      have HLEN := Lib.hid hlen
      have HMN := Lib.hid hmn
      clear hmn htk hu hlen
      by_cases hm : xk ∈ out
      · rw [if_pos hm] at HMN
        have hd : decide (xk ∈ out) = true := by simpa using hm
        rw [hd] at Hh
        have HA := Lib.hid ((own_at hown).alloc (.cells #[.int .i64 xk] 3))
        have HOWN := Lib.hid hown
        have HB1 := Lib.hid (show ((intVs (both (xs.take k) out)).length + 1) * 8 ≤ 140737488355328 by rw [intVs_len]; have := HLEN.out; omega)
        have HB2 := Lib.hid (hS.alloc (.cells #[.int .i64 xk] 3)).size
        clear hd hm hown
        go_wp2_with fail
        refine Hh.mono ?_
        clear Hh
        rintro e w2 ⟨rfl, rfl⟩
        go_wp2_with (at_builtin; refine append1 (g := wr.heap.size) (wr.alloc (.cells #[.int .i64 xk] 3)) rfl _ _ 25 rfl Try.underlying25 info_int rfl HA.out rfl (.int .i64 xk) rfl (cell_one_new _ _ _ 0 _ rfl) rfl HB1.out (by decide) HB2.out ?_)
        rintro a7 n7 c7 w2 hO2 hG2
        have hG3 := World.grownBy.trans (World.grownBy_alloc wr (.cells #[.int .i64 xk] 3) _) hG2
        have hS3 := hS.grown hG3 (fun q hq => (own_base HOWN.out hq).1)
        have HO2 := Lib.hid hO2
        clear hO2 hG2 hG3
        go_wp2_with fail
        go_roundw
        case rel => exact ⟨k + 1, a7, n7, c7, by omega, by go_num, rfl, by rw [HMN.out, intVs_snoc]; exact HO2.out, hS3⟩
        case measure => simp [intOf]; omega
      · rw [if_neg hm, List.append_nil] at HMN
        have hd : decide (xk ∈ out) = false := by simpa using hm
        rw [hd] at Hh
        have HOW := Lib.hid hown
        clear hd hm hown
        go_wp2_with fail
        refine Hh.mono ?_
        clear Hh
        rintro e w2 ⟨rfl, rfl⟩
        go_wp2_with fail
        go_roundw
        case rel => exact ⟨k + 1, ax, nx, cx, by omega, by go_num, rfl, by rw [HMN.out]; exact HOW.out, hS⟩
        case measure => simp [intOf]; omega
    · obtain rfl : k = xs.length := by omega
      rw [List.take_length] at hown
      have hin := own_ints hown (Nat.le_trans (List.length_filter_le _ _) hmax)
      have HIN := Lib.hid hin
      clear hin hown
      go_wp2_with fail
      go_ret
      exact ⟨_, rfl, HIN.out, hS⟩
set_option maxHeartbeats 1000000 in
theorem Inside_spec (w : World) (v vo : Value) (xs out : List Int) (h : Ints w v xs) (ho : Ints w vo out) :
    Calls Try.prog 30 #[v, vo] w fun e w' => e = .returned (.bool (decide (minus xs out = []))) ∧ Same w w' := by
  have H := Without_spec w v vo xs out h ho
  obtain ⟨a, n, c, rfl⟩ : ∃ a n c, v = .slice a n c := by obtain ⟨a, c, e, _⟩ := h; exact ⟨a, _, c, e⟩
  obtain ⟨ao, no, co, rfl⟩ : ∃ a n c, vo = .slice a n c := by obtain ⟨a, c, e, _⟩ := ho; exact ⟨a, _, c, e⟩
  clear h ho
  go_enter Try.func30, Try.ntmps30
  go_wp2_with fail
  refine H.mono ?_
  clear H
  rintro e w1 ⟨v1, rfl, hi, hs⟩
  obtain ⟨a1, c1, rfl, -, -, -⟩ := hi
  cases hm : minus xs out with
  | nil =>
    have HM := Lib.hid hm
    clear hm
    go_wp2_with fail
    go_ret
    exact ⟨ret_bool (by simp [HM.out]), hs⟩
  | cons y ys =>
    have HM := Lib.hid hm
    clear hm
    go_wp2_with fail
    go_ret
    exact ⟨ret_bool (by simp [HM.out]; omega), hs⟩
set_option maxHeartbeats 1000000 in
theorem SameInts_spec (w : World) (v vo : Value) (xs ys : List Int) (h : Ints w v xs) (ho : Ints w vo ys) :
    Calls Try.prog 22 #[v, vo] w fun e w' => e = .returned (.bool (decide (xs = ys))) ∧ Same w w' := by
  obtain ⟨a, cap, rfl, -, hmax, hc⟩ := h
  obtain ⟨ao, co, rfl, -, -, ho⟩ := ho
  have HC := Lib.hid hc
  have HO := Lib.hid ho
  clear hc ho
  by_cases hl : xs.length = ys.length
  · have hb : ((xs.length : Int) != (ys.length : Int)) = false := by simp [hl]
    have HL := Lib.hid hl
    clear hl
    go_enter Try.func22, Try.ntmps22
    go_wp2_with fail
    go_loopw [5] (fun i wr => ∃ k : Nat, k ≤ xs.length ∧ i = .int .i64 k ∧ Hid (xs.take k = ys.take k) ∧ Same w wr) (fun i _ => xs.length - (intOf i).toNat)
    case atStart => exact ⟨0, Nat.zero_le _, rfl, Lib.hid rfl, Same.refl w⟩
    case round =>
      obtain ⟨k, hk, rfl, hn, hS⟩ := hrel
      by_cases hlt : k < xs.length
      · have hlt2 : k < ys.length := by have := HL.out; omega
        obtain ⟨ad, u, rfl, hu, hr⟩ := HC.out k hlt
        obtain ⟨ad2, u2, rfl, hu2, hr2⟩ := HO.out k hlt2
        unfold RInt at hr hr2
        subst hr hr2
        have hux := hS.keep.cell hu
        have hux2 := hS.keep.cell hu2
        have htk : xs.take (k + 1) = xs.take k ++ [xs[k]] := by simp
        have htk2 : ys.take (k + 1) = ys.take k ++ [ys[k]] := by simp
        have HTK := Lib.hid htk
        have HTK2 := Lib.hid htk2
        have hne : xs[k] ≠ ys[k] → xs ≠ ys := fun h e => h (by subst e; rfl)
        have HNE := Lib.hid hne
        have HLT := Lib.hid hlt
        clear htk htk2 hne hu hu2
        generalize xs[k] = p at *
        generalize ys[k] = q at *
        by_cases he : p = q
        · have hb : (p != q) = false := by simpa using he
          have HE := Lib.hid he
          clear he
          go_wp2_with fail
          go_region
          go_wp2_with fail
          go_roundw
          case rel => exact ⟨k + 1, by have := HLT.out; omega, by go_num, Lib.hid (by rw [HTK.out, HTK2.out, hn.out, HE.out]), hS.drew⟩
          case measure => have := HLT.out; simp [intOf]; omega
        · have hb : (p != q) = true := by simpa using he
          have HE := Lib.hid he
          clear he
          go_wp2_with fail
          go_region
          go_wp2_with fail
          go_ret
          exact ⟨ret_bool (by simp [HNE.out HE.out]), hS.drew⟩
      · obtain rfl : k = xs.length := by omega
        have heq : xs = ys := by
          have h := hn.out
          rw [List.take_length] at h
          rw [h, HL.out, List.take_length]
        have HEQ := Lib.hid heq
        clear heq
        go_wp2_with fail
        go_ret
        exact ⟨ret_bool (by simp [HEQ.out]), hS⟩
  · have hb : ((xs.length : Int) != (ys.length : Int)) = true := by simp; omega
    have HL := Lib.hid hl
    clear hl
    go_enter Try.func22, Try.ntmps22
    go_wp2_with fail
    go_ret
    exact ⟨ret_bool (by
      have : xs ≠ ys := fun e => HL.out (by rw [e])
      simp [this]), Same.refl w⟩
end Go.Proofs.Ytmnpbopkhpbhiaa
