/- Slices of ints: slices.Index, Contains, Clone, IndexFunc, DeleteFunc; append. -/
import Derived.Test.YtmnpbopkhpbhiaaHoldsFn
import Derived.Maps.AppendAt
import Derived.Maps.OwnIn
import Derived.Lib.SliceRun
set_option linter.unusedVariables false
set_option linter.unusedSimpArgs false
namespace Go.Proofs.Ytmnpbopkhpbhiaa
open Go.RowKit
set_option maxRecDepth 100000
/-- v is a slice of the call's own: its elements are xs, from block base on. -/
abbrev Own (w : World) (base : Nat) (e : TypeId) (v : Value) (xs : List Value) : Prop := w.ownsRow base e 1 v xs.length xs
def intVs (xs : List Int) : List Value := xs.map fun x => .int .i64 x
theorem intVs_len (xs : List Int) : (intVs xs).length = xs.length := by simp [intVs]
theorem intVs_snoc (xs : List Int) (x : Int) : intVs (xs ++ [x]) = intVs xs ++ [.int .i64 x] := by simp [intVs]
/-- An owned slice reads as what it holds. -/
theorem own_sl {α : Type} {R : World → Value → α → Prop} {w : World} {base : Nat} {e : TypeId} {v : Value} {us : List Value} {xs : List α} (h : Own w base e v us) (hl : us.length = xs.length) (hb : xs.length ≤ 17592186044416)
    (hR : ∀ i (hi : i < us.length) (hj : i < xs.length), R w us[i] xs[i]) : Sl R w v xs := by
  rcases h.2 with ⟨rfl, hn⟩ | ⟨g, cap, cur, rfl, hg, hh, h1, h2, h3, h4⟩
  · refine ⟨none, 0, by rw [← hl, hn], by omega, hb, fun i hi => by omega⟩
  · refine ⟨some ⟨g, 0, none⟩, cap, by rw [hl], by omega, hb, fun i hi => ⟨_, us[i], rfl, ?_, hR i (by omega) hi⟩⟩
    exact h.cells rfl i _ (List.getElem?_eq_getElem (by omega))
theorem own_ints {w : World} {base : Nat} {e : TypeId} {v : Value} {xs : List Int} (h : Own w base e v (intVs xs)) (hb : xs.length ≤ 17592186044416) : Ints w v xs :=
  own_sl h (intVs_len xs) hb (fun i hi hj => by simp [intVs, RInt])
theorem own_keep {w W : World} (h : Keep w W) {base : Nat} {e : TypeId} {v : Value} {xs : List Value} (ho : Own w base e v xs) : Own W base e v xs := by
  obtain ⟨h1, h2⟩ := ho
  refine ⟨h1, ?_⟩
  rcases h2 with h2 | ⟨g, cap, cur, hv, hg, hh, r⟩
  · exact .inl h2
  · exact .inr ⟨g, cap, cur, hv, hg, h.same _ _ hh rfl, r⟩
theorem own_base {w : World} {base : Nat} {e : TypeId} {v : Value} {xs : List Value} (h : Own w base e v xs) {k : Nat} (hk : v.ownBlock = some k) : base ≤ k ∧ k < w.heap.size := h.lt k hk
theorem own_lower {w : World} {base base' : Nat} {e : TypeId} {v : Value} {xs : List Value} (h : Own w base e v xs) (hb : base' ≤ base) : Own w base' e v xs := by
  obtain ⟨h1, h2⟩ := h
  refine ⟨h1, ?_⟩
  rcases h2 with h2 | ⟨g, cap, cur, hv, hg, r⟩
  · exact .inl h2
  · exact .inr ⟨g, cap, cur, hv, by omega, r⟩
/-- append(v, x) of one element. -/
theorem run_append1 {P : Program} {T ty E : TypeId} {z : Value} {bytes : Nat} (hT : P.underlying T = some (.slice E)) (hE : (P.info? E).map (fun i => (i.zero, i.size, i.bytes)) = some (some z, 1, bytes)) (hz : z.cells.size = 1)
    {w : World} {base : Nat} {v : Value} {xs : List Value} (h : Own w base E v xs) (x : Value) (h1 : x.oneCell' = true) (hb : (xs.length + 1) * bytes ≤ 140737488355328) (hb1 : 0 < bytes) (hbase : base ≤ w.heap.size) :
    ∃ v' w', (Builtin.append_ #[T, T] ty #[v, .slice (some ⟨w.heap.size, 0, none⟩) 1 1]).run P (w.alloc (.cells #[x] E)) = .ok v' w' ∧ Own w' base E v' (xs ++ [x]) ∧ w.grownBy w' v.ownBlock ∧
      (v'.ownBlock = v.ownBlock ∨ ∃ b, v'.ownBlock = some b ∧ w.heap.size ≤ b) ∧ ∃ g cap, v' = .slice (some ⟨g, 0, none⟩) (xs.length + 1) cap := by
  obtain ⟨i0, hi, hz0, hz1, hz2⟩ := info_parts hE
  have hlen : xs.length + 1 ≤ 140737488355328 := Nat.le_trans (Nat.le_mul_of_pos_right _ hb1) hb
  obtain ⟨v', w', hr, hown, hg, _, hat⟩ := run_append_own_at (P := P) (w.alloc (.cells #[x] E)) base T ty E i0 z 1 bytes hT hi hz0 hz1 hz2 hz (by omega) v xs.length xs (h.alloc _) ⟨w.heap.size, 0, none⟩ 1 1 [x] rfl (cell_one_new _ _ _) (by simpa using h1) (by simp only [maxLen]; omega) hb (by simp; omega)
  have hl : (xs ++ [x]).length = xs.length + 1 := by simp
  refine ⟨v', w', hr, by unfold Own; rw [hl]; exact hown, World.grownBy.trans (World.grownBy_alloc w _ _) hg, ?_, ?_⟩
  · rcases hat with hat | hat
    · exact .inl hat
    · exact .inr ⟨_, hat, by simp⟩
  · rcases hown.2 with ⟨_, hn⟩ | ⟨g, cap, cur, hv, _⟩
    · omega
    · exact ⟨g, cap, hv⟩
theorem own_at {w : World} {base : Nat} {e : TypeId} {v : Value} {xs : List Value} (h : Own w base e v xs) : w.ownsRow base e 1 v xs.length xs := h
/-- append(v, x) of one element, at the operation of a walk in a fence: behind it 'v'', 'w'', what it owns, how it grew, its form. -/
theorem append1In {F : Fence} {n : Nat} {P : Program} {E : TypeId} {z : Value} {bytes : Nat} (w : World) {ops : Array Oper} {rest : List Oper} {o : Oper} {a : Act} {Q : Exit → Act → World → Prop}
    (hgd : o.guard = none) (s x : Operand) (t : TypeId) (ho : o.op = .call { callee := .builtin .append, args := #[s, x], argTypes := #[t, t] })
    (hT : P.underlying t = some (.slice E)) (hE : (P.info? E).map (fun i => (i.zero, i.size, i.bytes)) = some (some z, 1, bytes)) (hz : z.cells.size = 1)
    {base : Nat} {v : Value} {xs : List Value} {g : Nat} (hown : w.ownsRow base E 1 v xs.length xs) (hs : a.eval s = v) (y : Value) (hx : a.eval x = .slice (some ⟨g, 0, none⟩) 1 1) (hc : w.cell? ⟨g, 0, none⟩ = some y) (h1 : y.oneCell' = true)
    (hb : (xs.length + 1) * bytes ≤ 140737488355328) (hb1 : 0 < bytes) (hbase : base ≤ w.heap.size)
    (h : ∀ a7 n7 c7 w', Own w' base E (.slice a7 n7 c7) (xs ++ [y]) → w.grownBy w' v.ownBlock → wpListIn F n P ops Q rest (a.put o.dst (.slice a7 n7 c7)) w') :
    wpListIn F n P ops Q (o :: rest) a w := by
  obtain ⟨i0, hi, hz0, hz1, hz2⟩ := info_parts hE
  have hlen : xs.length + 1 ≤ 140737488355328 := Nat.le_trans (Nat.le_mul_of_pos_right _ hb1) hb
  refine wpListIn_append_own_at (w := w) hgd s x t ho base E i0 z 1 bytes hT hi hz0 hz1 hz2 hz (by omega) v xs.length xs hs hown ⟨g, 0, none⟩ 1 1 [y] hx rfl ?_ (by simpa using h1) (by simp only [maxLen]; omega) hb hbase ?_
  · intro j u hj
    cases j with
    | zero =>
      injection hj with hj
      subst hj
      exact hc
    | succ j => simp at hj
  · intro v' w' h2 h3 _ _
    have hl : (xs ++ [y]).length = xs.length + 1 := by simp
    have h4 : Own w' base E v' (xs ++ [y]) := by unfold Own; rw [hl]; exact h2
    have hv' : ∃ a7 n7 c7, v' = .slice a7 n7 c7 := by
      rcases h4.2 with ⟨rfl, _⟩ | ⟨g, cap, cur, hv, _⟩
      · exact ⟨_, _, _, rfl⟩
      · exact ⟨_, _, _, hv⟩
    obtain ⟨a7, n7, c7, rfl⟩ := hv'
    exact h a7 n7 c7 w' h4 h3
theorem append1 {P : Program} {E : TypeId} {z : Value} {bytes : Nat} (w : World) {ops : Array Oper} {rest : List Oper} {o : Oper} {a : Act} {Q : Exit → Act → World → Prop}
    (hgd : o.guard = none) (s x : Operand) (t : TypeId) (ho : o.op = .call { callee := .builtin .append, args := #[s, x], argTypes := #[t, t] })
    (hT : P.underlying t = some (.slice E)) (hE : (P.info? E).map (fun i => (i.zero, i.size, i.bytes)) = some (some z, 1, bytes)) (hz : z.cells.size = 1)
    {base : Nat} {v : Value} {xs : List Value} {g : Nat} (hown : w.ownsRow base E 1 v xs.length xs) (hs : a.eval s = v) (y : Value) (hx : a.eval x = .slice (some ⟨g, 0, none⟩) 1 1) (hc : w.cell? ⟨g, 0, none⟩ = some y) (h1 : y.oneCell' = true)
    (hb : (xs.length + 1) * bytes ≤ 140737488355328) (hb1 : 0 < bytes) (hbase : base ≤ w.heap.size)
    (h : ∀ a7 n7 c7 w', Own w' base E (.slice a7 n7 c7) (xs ++ [y]) → w.grownBy w' v.ownBlock → wpList P ops Q rest (a.put o.dst (.slice a7 n7 c7)) w') :
    wpList P ops Q (o :: rest) a w := by
  obtain ⟨i0, hi, hz0, hz1, hz2⟩ := info_parts hE
  have hlen : xs.length + 1 ≤ 140737488355328 := Nat.le_trans (Nat.le_mul_of_pos_right _ hb1) hb
  refine wpList_append_own_at w hgd s x t ho base E i0 z 1 bytes hT hi hz0 hz1 hz2 hz (by omega) v xs.length xs hs hown ⟨g, 0, none⟩ 1 1 [y] hx rfl ?_ (by simpa using h1) (by simp only [maxLen]; omega) hb hbase ?_
  · intro j u hj
    cases j with
    | zero =>
      injection hj with hj
      subst hj
      exact hc
    | succ j => simp at hj
  · intro v' w' h2 h3 _ _
    have hl : (xs ++ [y]).length = xs.length + 1 := by simp
    have h4 : Own w' base E v' (xs ++ [y]) := by unfold Own; rw [hl]; exact h2
    have hv' : ∃ a7 n7 c7, v' = .slice a7 n7 c7 := by
      rcases h4.2 with ⟨rfl, _⟩ | ⟨g, cap, cur, hv, _⟩
      · exact ⟨_, _, _, rfl⟩
      · exact ⟨_, _, _, hv⟩
    obtain ⟨a7, n7, c7, rfl⟩ := hv'
    exact h a7 n7 c7 w' h4 h3
theorem info_int : (Try.prog.info? 3).map (fun i => (i.zero, i.size, i.bytes)) = some (some (.int .i64 0), 1, 8) := by kernel_rfl
/-- Where x is, or -1. -/
def idxRes (x : Int) (xs : List Int) : Int := if x ∈ xs then (xs.idxOf x : Int) else -1
set_option maxHeartbeats 1000000 in
theorem index_spec (w : World) (v : Value) (xs : List Int) (x : Int) (h : Ints w v xs) :
    Calls Try.prog 116 #[v, .int .i64 x] w fun e w' => e = .returned (.int .i64 (idxRes x xs)) ∧ w = w' := by
  obtain ⟨a, cap, rfl, hcap, hmax, hc⟩ := h
  go_enter Try.func116, Try.ntmps116
  go_wp2_with fail
  go_loop [8] (fun i => ∃ k : Nat, k ≤ xs.length ∧ i = .int .i64 k ∧ (x ∉ xs.take k)) (fun i => xs.length - (intOf i).toNat)
  case atStart => exact ⟨0, Nat.zero_le _, rfl, by simp⟩
  case round =>
    obtain ⟨k, hk, rfl, hn⟩ := hrel
    by_cases hlt : k < xs.length
    · obtain ⟨ad, u, rfl, hu, hr⟩ := hc k hlt
      unfold RInt at hr
      subst hr
      have htk : xs.take (k + 1) = xs.take k ++ [xs[k]] := by simp
      have hsp : xs = xs.take k ++ xs[k] :: xs.drop (k + 1) := by rw [List.getElem_cons_drop, List.take_append_drop]
      have HTK := Lib.hid htk
      have HSP := Lib.hid hsp
      have HN := Lib.hid hn
      clear htk hsp hn
      by_cases he : x = xs[k]
      · have hb : (x == xs[k]) = true := by simpa using he
        have HE := Lib.hid he
        clear he
        go_wp2_with fail
        go_ret
        refine ⟨ret_int ?_, rfl⟩
        have hmem : x ∈ xs := by rw [HE.out]; exact List.getElem_mem _
        have hidx : xs.idxOf x = k := by
          have h1 : xs.idxOf x = (xs.take k ++ xs[k] :: xs.drop (k + 1)).idxOf x := congrArg (fun l => List.idxOf x l) HSP.out
          rw [h1, List.idxOf_append, if_neg HN.out, ← HE.out, List.idxOf_cons_self]
          simp
          omega
        rw [idxRes, if_pos hmem, hidx]
      · have hb : (x == xs[k]) = false := by simpa using he
        have HE := Lib.hid he
        clear he
        go_wp2_with fail
        go_round
        case rel => exact ⟨k + 1, by omega, by go_num, by rw [HTK.out]; simp only [List.mem_append, List.mem_singleton, not_or]; exact ⟨HN.out, HE.out⟩⟩
        case measure => simp [intOf]; omega
    · obtain rfl : k = xs.length := by omega
      rw [List.take_length] at hn
      go_wp2_with fail
      go_ret
      exact ⟨ret_int (by rw [idxRes, if_neg hn]), rfl⟩
set_option maxHeartbeats 1000000 in
theorem contains_spec (w : World) (v : Value) (xs : List Int) (x : Int) (h : Ints w v xs) :
    Calls Try.prog 102 #[v, .int .i64 x] w fun e w' => e = .returned (.bool (decide (x ∈ xs))) ∧ w = w' := by
  have H := index_spec w v xs x h
  obtain ⟨a, cap, rfl, hcap, hmax, hc⟩ := h
  clear hc
  go_enter Try.func102, Try.ntmps102
  go_wp2_with fail
  refine H.mono ?_
  clear H
  rintro e w' ⟨rfl, rfl⟩
  by_cases hm : x ∈ xs
  · rw [idxRes, if_pos hm]
    have hi : (0 : Int) ≤ (xs.idxOf x : Int) := by omega
    have HM := Lib.hid hm
    clear hm
    go_wp2_with fail
    go_ret
    exact ⟨ret_bool (by simp [HM.out]), rfl⟩
  · rw [idxRes, if_neg hm]
    have HM := Lib.hid hm
    clear hm
    go_wp2_with fail
    go_ret
    exact ⟨ret_bool (by simp [HM.out]), rfl⟩
set_option maxHeartbeats 1000000 in
theorem clone_spec (w : World) (v : Value) (xs : List Int) (h : Ints w v xs) :
    Calls Try.prog 100 #[v] w fun e w' => ∃ v', e = .returned v' ∧ Own w' w.heap.size 3 v' (intVs xs) ∧ Same w w' := by
  obtain ⟨a, cap, rfl, hcap, hmax, hc⟩ := h
  cases a with
  | none =>
    have hx : xs = [] := by
      cases xs with
      | nil => rfl
      | cons y ys => obtain ⟨ad, u, e, _⟩ := hc 0 (by simp); cases e
    subst hx
    clear hc
    have hnil := Lib.run_eql_slice_nil (P := Try.prog) w 25 3 none 0 cap 0 0 Try.underlying25
    rw [show (none : Option Addr).isNone = true from rfl] at hnil
    go_enter Try.func100, Try.ntmps100
    go_wp2_with fail
    go_ret
    exact ⟨_, rfl, World.ownsRow_nil _ _ _ _, Same.refl w⟩
  | some ad =>
    obtain ⟨i0, hi, hz0, hz1, hz2⟩ := info_parts info_int
    have hown : (w.alloc (.cells #[] 3)).ownsRow w.heap.size 3 1 (.slice (some ⟨w.heap.size, 0, none⟩) 0 0) 0 [] := by
      refine ⟨by simp, .inr ⟨w.heap.size, 0, #[], rfl, Nat.le_refl _, World.alloc_heap_new _ _, by simp, by simp [maxLen], by simp, by simp⟩⟩
    have hnews : ∀ j u, (intVs xs)[j]? = some u → (w.alloc (.cells #[] 3)).cell? (ad.add j) = some u := by
      intro j u hj
      have hjl : j < xs.length := by
        have := (List.getElem?_eq_some_iff.1 hj).1
        rwa [intVs_len] at this
      obtain ⟨ad', u', e, hu, hr⟩ := hc j hjl
      injection e with e
      subst e
      unfold RInt at hr
      subst hr
      simp [intVs, hjl] at hj
      subst hj
      exact ((Same.refl w).alloc _).keep.cell hu
    have h1 : ∀ u ∈ intVs xs, u.oneCell' = true := by
      intro u hu
      simp only [intVs, List.mem_map] at hu
      obtain ⟨x, _, rfl⟩ := hu
      rfl
    clear hc
    have hnil := Lib.run_eql_slice_nil (P := Try.prog) w 25 3 (some ad) xs.length cap 0 0 Try.underlying25
    rw [show (some ad : Option Addr).isNone = false from rfl] at hnil
    go_enter Try.func100, Try.ntmps100
    go_wp2_with (at_builtin; refine wpList_append_own_at (w.alloc (.cells #[] 3)) rfl _ _ 25 rfl w.heap.size 3 i0 (.int .i64 0) 1 8 Try.underlying25 hi hz0 hz1 hz2 rfl (by decide) _ 0 [] rfl hown ad xs.length cap (intVs xs) rfl (by rw [intVs_len]; omega) hnews h1 (by simp only [maxLen]; omega) (by omega) (by simp) ?_)
    rintro v' w' hown' hg - -
    go_wp2_with fail
    go_ret
    refine ⟨v', rfl, ?_, ((Same.refl w).alloc _).grown hg (by intro k e; simp [Value.ownBlock] at e; omega)⟩
    simpa [Own, intVs_len] using hown'
end Go.Proofs.Ytmnpbopkhpbhiaa
