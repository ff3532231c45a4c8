/- minimal: a set of a question as a list. minimal: whether a set blocks; what a condition on sets is. -/
import Derived.Test.YtmnpbopkhpbhiaaMinAsk
set_option linter.unusedVariables false
set_option linter.unusedSimpArgs false
namespace Go.Proofs.Ytmnpbopkhpbhiaa
section
open Go.RowKit
set_option maxRecDepth 100000
theorem selI_snoc : ∀ (ps : List Int) (p : Int) (s : Nat), selI (ps ++ [p]) s = selI ps s ++ (if s / 2 ^ ps.length % 2 = 1 then [p] else [])
  | [], p, s => by simp [selI]
  | q :: ps, p, s => by
    rw [List.cons_append, selI, selI_snoc ps p (s / 2), selI, List.length_cons, Nat.pow_succ, Nat.mul_comm, ← Nat.div_div_eq_div_mul, List.append_assoc]
theorem selI_take (ps : List Int) (s k : Nat) (h : k < ps.length) : selI (ps.take (k + 1)) s = selI (ps.take k) s ++ (if s / 2 ^ k % 2 = 1 then [ps[k]] else []) := by
  rw [List.take_succ_eq_append_getElem h, selI_snoc, List.length_take, Nat.min_eq_left (by omega)]
theorem selI_len (ps : List Int) (s : Nat) : (selI ps s).length ≤ ps.length := (selI_sub ps s).length_le
theorem bit_and_any (q : Nat) (h : q < 4096) : bits .and .u64 (q : Int) 1 = ((q % 2 : Nat) : Int) := by
  rw [bit_and_u q h]; split <;> omega
set_option maxHeartbeats 4000000 in
theorem list_spec (w : World) (ps : List Int) (F : Nat → Bool) (v : Value) (s : Nat) (hq : IsQ w ps F v) (hs : s < 4096) :
    Calls Try.prog 119 #[v, .int .u64 s] w fun e w' => ∃ v', e = .returned v' ∧ Own w' w.heap.size 3 v' (intVs (selI ps s)) ∧ Same w w' := by
  obtain ⟨a, c, f, rfl, hi, hl, B, ad, cb, rfl, hB, hK, -⟩ := hq
  obtain ⟨a', c', e', hcap, hmax, hc⟩ := hi
  obtain ⟨rfl, rfl⟩ : a = a' ∧ c = c' := by simpa using e'
  obtain ⟨u, hu⟩ : ∃ u : Int, u = ((2 ^ ps.length - 1 : Nat) : Int) := ⟨_, rfl⟩
  rw [← hu]
  obtain ⟨L, hL⟩ : ∃ L, L = ps.length := ⟨_, rfl⟩
  have HLL := Lib.hid hL
  have HC := Lib.hid hc
  rw [← hL] at hl ⊢
  have hS1 : Same w (w.alloc (.cells #[.slice a L c, .int .u64 u, .func (.func 117) #[] #[ptr B]] 87)) := (Same.refl w).alloc _
  clear hc hu hB hK hmax hcap e' hL
  go_enter Try.func119, Try.ntmps119
  go_wp2_with fail
  go_loopw [5, 6, 7, 12] (fun v5 _ _ i wr => ∃ (j : Nat) (ax : Option Addr) (nx cx : Nat), j ≤ L ∧ i = .int .i64 j ∧ v5 = .slice ax nx cx ∧ Hid (Own wr w.heap.size 3 (.slice ax nx cx) (intVs (selI (ps.take j) s))) ∧ Same w wr) (fun _ _ _ i _ => L - (intOf i).toNat)
  case atStart => exact ⟨0, _, _, _, Nat.zero_le _, rfl, rfl, Lib.hid (by rw [show intVs (selI (ps.take 0) s) = [] from by simp [selI, intVs]]; exact own_zero (h_new' _ (by simp)) (by simp)), hS1.alloc _⟩
  case round =>
    obtain ⟨j, ax, nx, cx, hj, rfl, rfl, HO, hS⟩ := hrel
    by_cases hlt : j < L
    · have hlp : j < ps.length := by rw [← HLL.out]; exact hlt
      obtain ⟨ad, x, rfl, hx, hr⟩ := HC.out j hlp
      unfold RInt at hr
      subst hr
      have d0 := hS.keep.cell hx
      have htk := selI_take ps s j hlp
      have hbl : (selI (ps.take j) s).length + 1 ≤ 4096 := by have := selI_len (ps.take j) s; rw [List.length_take] at this; omega
      generalize ps[j] = xj at *
      obtain ⟨q, hq⟩ : ∃ q : Nat, q = s / 2 ^ j := ⟨_, rfl⟩
      have hq2 : (s : Int) / 2 ^ j = (q : Int) := by rw [hq]; simp
      have hq3 : q < 4096 := by rw [hq]; exact Nat.lt_of_le_of_lt (Nat.div_le_self _ _) hs
      have hbit := bit_and_u q hq3
      rw [← hq] at htk
      have HTK := Lib.hid htk
      have HBL := Lib.hid hbl
      clear htk hbl hq hx
      by_cases hb : q % 2 = 1
      · rw [if_pos hb] at hbit HTK
        have HA := Lib.hid ((own_at HO.out).alloc (.cells #[.int .i64 xj] 3))
        have HB1 := Lib.hid (show ((intVs (selI (ps.take j) s)).length + 1) * 8 ≤ 140737488355328 by rw [intVs_len]; have := HBL.out; omega)
        have HB2 := Lib.hid (hS.alloc (.cells #[.int .i64 xj] 3)).size
        clear hb hq3
        go_wp2_with (at_builtin; refine append1 (g := wr.heap.size) (wr.alloc (.cells #[.int .i64 xj] 3)) rfl _ _ 25 rfl Try.underlying25 info_int rfl HA.out rfl (.int .i64 xj) rfl (cell_one_new _ _ _ 0 _ rfl) rfl HB1.out (by decide) HB2.out ?_)
        rintro a7 n7 c7 w2 hO2 hG2
        have hG3 := World.grownBy.trans (World.grownBy_alloc wr (.cells #[.int .i64 xj] 3) _) hG2
        have hS3 := hS.grown hG3 (fun q hq => (own_base HO.out hq).1)
        have HO2 := Lib.hid hO2
        clear hO2 hG2 hG3
        go_wp2_with fail
        go_roundw
        case rel => exact ⟨j + 1, a7, n7, c7, by omega, by go_num, rfl, Lib.hid (by rw [HTK.out, intVs_snoc]; exact HO2.out), hS3⟩
        case measure => simp [intOf]; omega
      · rw [if_neg hb] at hbit HTK
        clear hb hq3
        go_wp2_with fail
        go_roundw
        case rel => exact ⟨j + 1, ax, nx, cx, by omega, by go_num, rfl, Lib.hid (by rw [HTK.out, List.append_nil]; exact HO.out), hS⟩
        case measure => simp [intOf]; omega
    · obtain rfl : L = j := by omega
      go_wp2_with fail
      go_ret
      refine ⟨_, rfl, ?_, hS⟩
      have h := HO.out
      rw [HLL.out, List.take_length] at h
      exact h
end
section
open Go.RowKit
set_option maxRecDepth 100000
/-- A condition on sets: a function that answers F, and leaves the world. -/
def Fine (W : World) (f : Value) (n : Nat) (F : Nat → Bool) : Prop :=
  ∃ (k : Nat) (fst lb : Array Value), f = .func (.func k) fst lb ∧ (∀ args w, (callFunc k args).run Try.prog w = .ok (.enter k args) w) ∧
    ∀ W' s, Keep W W' → s < 2 ^ n → Calls Try.prog k (fst.push (.int .u64 (s : Nat)) ++ lb) W' fun e w' => e = .returned (.bool (F s)) ∧ Same W' w'
theorem Fine.keep {w W : World} (h : Keep w W) {f : Value} {n : Nat} {F : Nat → Bool} (hf : Fine w f n F) : Fine W f n F := by
  obtain ⟨k, fst, lb, e, he, hc⟩ := hf
  exact ⟨k, fst, lb, e, he, fun W' s hK hs => hc W' s (h.trans hK) hs⟩
theorem pow_le {n : Nat} (h : n ≤ 12) : 2 ^ n ≤ 4096 := (Nat.pow_le_pow_right (by omega) h : 2 ^ n ≤ 2 ^ 12)
/-- What the question holds is such a condition. -/
theorem IsQ.fine {w : World} {ps : List Int} {F : Nat → Bool} {a : Option Addr} {n c : Nat} {u : Int} {f : Value} (h : IsQ w ps F (.agg #[.slice a n c, .int .u64 u, f])) : Fine w f ps.length F := by
  obtain ⟨a', c', f', e, hi, hl, B, ad, cb, rfl, hB, hK, hs⟩ := h
  obtain ⟨⟨rfl, rfl, rfl⟩, rfl, rfl⟩ : (a = a' ∧ n = ps.length ∧ c = c') ∧ u = ((2 ^ ps.length - 1 : Nat) : Int) ∧ f = .func (.func 117) #[] #[ptr B] := by simpa using e
  refine ⟨117, #[], #[ptr B], rfl, enters_known, fun W' s hk hlt => ?_⟩
  exact (known_spec W' B (2 ^ ps.length) ad cb s F (hk.same _ _ hB rfl) (pow_le hl) hlt (hk.cell (hs s hlt))).mono fun _ _ h => ⟨h.1, by rw [← h.2]; exact Same.refl _⟩
theorem bits_but : ∀ n : Nat, n < 13 → ∀ s : Nat, s < 2 ^ n → bits .andNot .u64 ((2 ^ n - 1 : Nat) : Int) (s : Int) = ((2 ^ n - 1 - s : Nat) : Int) := by decide +kernel
theorem enters_blocks : ∀ args w, (callFunc 78 args).run Try.prog w = .ok (.enter 78 args) w :=
  enters_of Try.func78 (by kernel_rfl) rfl
set_option maxHeartbeats 4000000 in
theorem blocks_spec (w : World) (ps : List Int) (F : Nat → Bool) (v : Value) (s : Nat) (hq : IsQ w ps F v) (hs : s < 2 ^ ps.length) :
    Calls Try.prog 78 #[v, .int .u64 s] w fun e w' => e = .returned (.bool (!F (2 ^ ps.length - 1 - s))) ∧ Same w w' := by
  obtain ⟨a, c, f, rfl, hi, hl, B, ad, cb, rfl, hB, hK, hc⟩ := hq
  have hb := bits_but ps.length (by omega) s hs
  obtain ⟨w1, hw1⟩ : ∃ w1, w1 = w.alloc (.cells #[.slice a ps.length c, .int .u64 ((2 ^ ps.length - 1 : Nat) : Int), .func (.func 117) #[] #[ptr B]] 87) := ⟨_, rfl⟩
  have hS : Same w w1 := by rw [hw1]; exact (Same.refl w).alloc _
  have HC := known_spec w1 B (2 ^ ps.length) ad cb (2 ^ ps.length - 1 - s) F (Boxed.same hS hB) (pow_le hl) (by omega) (hS.keep.cell (hc _ (by omega)))
  have HS := Lib.hid hS
  rw [hw1] at HC HS
  generalize ((2 ^ ps.length - 1 : Nat) : Int) = u at *
  generalize 2 ^ ps.length - 1 - s = r at *
  generalize F r = b at *
  have e97 := enters_known
  clear hi hB hK hc hs hl hw1 hS
  go_enter Try.func78, Try.ntmps78
  go_wp2_with fail
  refine HC.mono ?_
  clear HC
  rintro e w2 ⟨rfl, rfl⟩
  go_wp2_with fail
  go_ret
  exact ⟨rfl, HS.out⟩
/-- That a set blocks is such a condition. -/
theorem IsQ.fineB {w : World} {ps : List Int} {F : Nat → Bool} {v : Value} (h : IsQ w ps F v) : Fine w (.func (.func 78) #[v] #[]) ps.length (fun s => !F (2 ^ ps.length - 1 - s)) :=
  ⟨78, #[v], #[], rfl, enters_blocks, fun W' s hk hlt => blocks_spec W' ps F v s (h.keep hk) hlt⟩
end
end Go.Proofs.Ytmnpbopkhpbhiaa
