/- Appends of several elements: at a plain region's list, and at a step of a region that draws its order. -/
import Derived.Test.YtmnpbopkhpbhiaaRecs
import Derived.Test.YtmnpbopkhpbhiaaDelete
import Derived.Deep.Upon
import Derived.Deep.RegionHeld3
import Derived.Deep.AppendLies
import Derived.Deep.DrawnRows
set_option linter.unusedVariables false
set_option linter.unusedSimpArgs false
namespace Go.Proofs.Ytmnpbopkhpbhiaa
open Go.RowKit
/-- The slice's elements are us. -/
def Cells (w : World) (v : Value) (us : List Value) : Prop := ∃ a c, v = .slice a us.length c ∧ us.length ≤ c ∧ ∀ j (h : j < us.length), ∃ ad, a = some ad ∧ w.cell? (ad.add j) = some us[j]
theorem Cells.keep {w W : World} (h : Keep w W) {v : Value} {us : List Value} (hs : Cells w v us) : Cells W v us := by
  obtain ⟨a, c, e, h1, h2⟩ := hs
  refine ⟨a, c, e, h1, fun j hj => ?_⟩
  obtain ⟨ad, e', hc⟩ := h2 j hj
  exact ⟨ad, e', h.cell hc⟩
theorem sl_cells {α : Type} {R : World → Value → α → Prop} {w : World} {v : Value} {xs : List α} (h : Sl R w v xs) : ∃ us, Cells w v us ∧ us.length = xs.length ∧ ∀ i (h : i < xs.length) (h' : i < us.length), R w us[i] xs[i] := by
  obtain ⟨a, c, rfl, h1, h2, h3⟩ := h
  have : ∀ n, n ≤ xs.length → ∃ us : List Value, us.length = n ∧ ∀ j (h : j < us.length) (h' : j < xs.length), ∃ ad, a = some ad ∧ w.cell? (ad.add j) = some us[j] ∧ R w us[j] xs[j] := by
    intro n
    induction n with
    | zero => intro _; exact ⟨[], rfl, fun j hj => by simp at hj⟩
    | succ n ih =>
      intro hn
      obtain ⟨us, hl, hu⟩ := ih (by omega)
      obtain ⟨ad, u, e, hc, hr⟩ := h3 n (by omega)
      refine ⟨us ++ [u], by simp [hl], fun j hj hj' => ?_⟩
      by_cases hlt : j < us.length
      · rw [List.getElem_append_left hlt]
        exact hu j hlt hj'
      · have hjn : j = n := by simp at hj; omega
        subst hjn
        rw [List.getElem_append_right (by omega)]
        simp only [hl, Nat.sub_self, List.getElem_cons_zero]
        exact ⟨ad, e, hc, hr⟩
  obtain ⟨us, hl, hu⟩ := this xs.length (Nat.le_refl _)
  refine ⟨us, ⟨a, c, by rw [hl], by omega, fun j hj => ?_⟩, hl, fun i hi hi' => ?_⟩
  · obtain ⟨ad, e, hc, _⟩ := hu j hj (by omega)
    exact ⟨ad, e, hc⟩
  · obtain ⟨_, _, _, hr⟩ := hu i hi' hi
    exact hr
theorem Ints.cells {w : World} {v : Value} {xs : List Int} (h : Ints w v xs) : Cells w v (intVs xs) := by
  obtain ⟨us, hc, hl, hu⟩ := sl_cells h
  have : us = intVs xs := by
    refine List.ext_getElem (by simp [intVs, hl]) fun i h1 h2 => ?_
    have := hu i (by omega) h1
    unfold RInt at this
    rw [this]
    simp [intVs]
  rw [← this]; exact hc
theorem Own.cells {w : World} {base : Nat} {e : TypeId} {v : Value} {us : List Value} (h : Own w base e v us) : Cells w v us := by
  rcases h.2 with ⟨hv, hn⟩ | ⟨g, cap, cur, hv, _, hh, h1, _, h3, h4⟩
  · obtain rfl := List.eq_nil_of_length_eq_zero hn
    exact ⟨none, 0, hv, Nat.le_refl _, fun j hj => by simp at hj⟩
  · refine ⟨_, cap, hv, h1, fun j hj => ⟨_, rfl, ?_⟩⟩
    rw [add_plain, cell_of_row w g j cur e (0, 0) hh]
    have : us[j] = (cur.toList.take (us.length * 1))[j]'(by rw [h4]; exact hj) := by simp only [h4]
    rw [this]
    simp
theorem one_ints (xs : List Int) : ∀ u ∈ intVs xs, u.oneCell' = true := by
  intro u hu
  obtain ⟨x, _, rfl⟩ := List.mem_map.1 hu
  rfl
section
variable {P : Program} {E : TypeId} {z : Value} {bytes : Nat}
/-- append(v, x...) -/
theorem run_append_src {T ty : TypeId} (hT : P.underlying T = some (.slice E)) (hE : (P.info? E).map (fun i => (i.zero, i.size, i.bytes)) = some (some z, 1, bytes)) (hz : z.cells.size = 1)
    {w : World} {base : Nat} {v : Value} {xs : List Value} (h : Own w base E v xs) {x : Value} {us : List Value} (hx : Cells w x us) (h1 : ∀ u ∈ us, u.oneCell' = true) (hb : (xs.length + us.length) * bytes ≤ 140737488355328) (hb1 : 0 < bytes) (hbase : base ≤ w.heap.size) :
    ∃ a7 n7 c7 w', (Builtin.append_ #[T, T] ty #[v, x]).run P w = .ok (.slice a7 n7 c7) w' ∧ Own w' base E (.slice a7 n7 c7) (xs ++ us) ∧ w.grownBy w' v.ownBlock ∧ (Value.ownBlock (.slice a7 n7 c7) = v.ownBlock ∨ Value.ownBlock (.slice a7 n7 c7) = some w.heap.size) := by
  obtain ⟨i0, hi, hz0, hz1, hz2⟩ := info_parts hE
  obtain ⟨a, c, rfl, hc, hcell⟩ := hx
  cases a with
  | none =>
    have hus : us = [] := by
      cases us with
      | nil => rfl
      | cons u us => obtain ⟨_, e, _⟩ := hcell 0 (by simp); cases e
    subst hus
    have hsrc := Src.ofNil (P := P) w (size := i0.size) hT c
    rcases h.2 with ⟨hv, hn⟩ | ⟨g, cap, cur, hv, r⟩
    · subst hv
      refine ⟨none, 0, 0, w, run_append_nothing w T T ty E i0 hT hi none 0 0 (Nat.le_refl _) _ hsrc, ?_, World.grownBy.refl _ _, .inl rfl⟩
      simpa using h
    · subst hv
      refine ⟨_, _, _, w, run_append_nothing w T T ty E i0 hT hi _ _ _ r.2.2.1 _ hsrc, ?_, World.grownBy.refl _ _, .inl rfl⟩
      simpa using h
  | some ad =>
    have hlen : xs.length + us.length ≤ 140737488355328 := Nat.le_trans (Nat.le_mul_of_pos_right _ hb1) hb
    obtain ⟨v', w', hr, h2, h3, _, h9⟩ := run_append_own_at (P := P) w base T ty E i0 z 1 bytes hT hi hz0 hz1 hz2 hz (by omega) v xs.length xs h ad us.length c us (by simp) (fun j u hj => by
      obtain ⟨hlt, rfl⟩ := List.getElem?_eq_some_iff.1 hj
      obtain ⟨ad', e, hcc⟩ := hcell j hlt
      injection e with e
      subst e
      exact hcc) h1 (by simp only [maxLen]; omega) hb hbase
    have hl : (xs ++ us).length = xs.length + us.length := by simp
    have h4 : Own w' base E v' (xs ++ us) := by unfold Own; rw [hl]; exact h2
    have hv' : ∃ a7 n7 c7, v' = .slice a7 n7 c7 := by
      rcases h4.2 with ⟨rfl, _⟩ | ⟨g, cap, cur, hv, _⟩
      · exact ⟨_, _, _, rfl⟩
      · exact ⟨_, _, _, hv⟩
    obtain ⟨a7, n7, c7, rfl⟩ := hv'
    exact ⟨a7, n7, c7, w', hr, h4, h3, h9⟩
theorem wp_append_src {o : Oper} {a : Act} {K : Act → World → Prop} {Q : Exit → Act → World → Prop} (s x : Operand) (T : TypeId)
    (ho : o.op = .call { callee := .builtin .append, args := #[s, x], argTypes := #[T, T] })
    (hT : P.underlying T = some (.slice E)) (hE : (P.info? E).map (fun i => (i.zero, i.size, i.bytes)) = some (some z, 1, bytes)) (hz : z.cells.size = 1)
    {w : World} {base : Nat} {v : Value} {xs : List Value} (h : Own w base E v xs) (hs : a.eval s = v) {y : Value} {us : List Value} (hx : Cells w y us) (hy : a.eval x = y) (h1 : ∀ u ∈ us, u.oneCell' = true) (hb : (xs.length + us.length) * bytes ≤ 140737488355328) (hb1 : 0 < bytes) (hbase : base ≤ w.heap.size)
    (hk : ∀ a7 n7 c7 w', Own w' base E (.slice a7 n7 c7) (xs ++ us) → w.grownBy w' v.ownBlock → (∀ q, v.ownBlock = some q → base ≤ q) → (Value.ownBlock (.slice a7 n7 c7) = v.ownBlock ∨ Value.ownBlock (.slice a7 n7 c7) = some w.heap.size) → K (a.put o.dst (.slice a7 n7 c7)) w') : o.wp P a w K Q := by
  obtain ⟨a7, n7, c7, w', hr, h2, h3, h9⟩ := run_append_src (P := P) (ty := o.type) hT hE hz h hx h1 hb hb1 hbase
  unfold Oper.wp execOp
  simp only [ho, resolve, invoke, builtin, Sem.run_bind, Sem.run_pure, Result.andThen_ok, List.map_toArray, List.map_cons, List.map_nil, hs, hy, hr]
  exact hk a7 n7 c7 w' h2 h3 (fun q hq => (own_base h hq).1) h9
theorem wpList_append_src {ops : Array Oper} {rest : List Oper} {o : Oper} {a : Act} {Q : Exit → Act → World → Prop} (hgd : o.guard = none) (s x : Operand) (T : TypeId)
    (ho : o.op = .call { callee := .builtin .append, args := #[s, x], argTypes := #[T, T] })
    (hT : P.underlying T = some (.slice E)) (hE : (P.info? E).map (fun i => (i.zero, i.size, i.bytes)) = some (some z, 1, bytes)) (hz : z.cells.size = 1)
    {w : World} {base : Nat} {v : Value} {xs : List Value} (h : Own w base E v xs) (hs : a.eval s = v) {y : Value} {us : List Value} (hx : Cells w y us) (hy : a.eval x = y) (h1 : ∀ u ∈ us, u.oneCell' = true) (hb : (xs.length + us.length) * bytes ≤ 140737488355328) (hb1 : 0 < bytes) (hbase : base ≤ w.heap.size)
    (hk : ∀ a7 n7 c7 w', Own w' base E (.slice a7 n7 c7) (xs ++ us) → w.grownBy w' v.ownBlock → (∀ q, v.ownBlock = some q → base ≤ q) → (Value.ownBlock (.slice a7 n7 c7) = v.ownBlock ∨ Value.ownBlock (.slice a7 n7 c7) = some w.heap.size) → wpList P ops Q rest (a.put o.dst (.slice a7 n7 c7)) w') : wpList P ops Q (o :: rest) a w :=
  wpList_plain hgd fun _ hK => wp_append_src s x T ho hT hE hz h hs hx hy h1 hb hb1 hbase fun a7 n7 c7 w' h2 h3 h4 h5 => hK _ _ (hk a7 n7 c7 w' h2 h3 h4 h5)
theorem step_append_src {ops : Array Oper} {o : Oper} {a : Act} {K : Act → World → Prop} {Q : Exit → Act → World → Prop} {X : Prop} (hgd : o.guard = none) (s x : Operand) (T : TypeId)
    (ho : o.op = .call { callee := .builtin .append, args := #[s, x], argTypes := #[T, T] })
    (hT : P.underlying T = some (.slice E)) (hE : (P.info? E).map (fun i => (i.zero, i.size, i.bytes)) = some (some z, 1, bytes)) (hz : z.cells.size = 1)
    {w : World} {base : Nat} {v : Value} {xs : List Value} (h : Own w base E v xs) (hs : a.eval s = v) {y : Value} {us : List Value} (hx : Cells w y us) (hy : a.eval x = y) (h1 : ∀ u ∈ us, u.oneCell' = true) (hb : (xs.length + us.length) * bytes ≤ 140737488355328) (hb1 : 0 < bytes) (hbase : base ≤ w.heap.size)
    (hk : ∀ a7 n7 c7 w', Own w' base E (.slice a7 n7 c7) (xs ++ us) → w.grownBy w' v.ownBlock → (∀ q, v.ownBlock = some q → base ≤ q) → (Value.ownBlock (.slice a7 n7 c7) = v.ownBlock ∨ Value.ownBlock (.slice a7 n7 c7) = some w.heap.size) → K (a.put o.dst (.slice a7 n7 c7)) w') :
    if Region.wanted o (yielded ops a.tmps) = true then Oper.wp P o a w K Q else X := by
  have hw : Region.wanted o (yielded ops a.tmps) = true := by simp [Region.wanted, hgd]
  rw [if_pos hw]
  exact wp_append_src s x T ho hT hE hz h hs hx hy h1 hb hb1 hbase hk
end
/-- A new row of the call's own: nothing in it. -/
theorem own_zero {w : World} {b base : Nat} {e : TypeId} (h : w.heap[b]? = some (.cells #[] e (0, 0))) (hb : base ≤ b) : Own w base e (.slice (some ⟨b, 0, none⟩) 0 0) [] :=
  ⟨by simp, .inr ⟨b, 0, #[], rfl, hb, h, Nat.le_refl _, by simp [maxLen], by simp, by simp⟩⟩
/-- One element in it. -/
theorem own_one {w : World} {b base : Nat} {e : TypeId} {u : Value} (h : w.heap[b]? = some (.cells #[u] e (0, 0))) (hb : base ≤ b) : Own w base e (.slice (some ⟨b, 0, none⟩) 1 1) [u] :=
  ⟨by simp, .inr ⟨b, 1, #[u], rfl, hb, h, Nat.le_refl _, by simp [maxLen], by simp, by simp⟩⟩
theorem cells_one {w : World} {b : Nat} {e : TypeId} {u : Value} (h : w.heap[b]? = some (.cells #[u] e (0, 0))) : Cells w (.slice (some ⟨b, 0, none⟩) 1 1) [u] := (own_one (base := 0) h (Nat.zero_le _)).cells
theorem Ints.of_cells {w : World} {v : Value} {xs : List Int} (h : Cells w v (intVs xs)) (hm : xs.length ≤ 17592186044416) : Ints w v xs := by
  obtain ⟨a, c, rfl, h1, h2⟩ := h
  refine ⟨a, c, by rw [intVs_len], by rw [intVs_len] at h1; exact h1, hm, fun i hi => ?_⟩
  obtain ⟨ad, e, hc⟩ := h2 i (by rw [intVs_len]; exact hi)
  exact ⟨ad, _, e, hc, by simp [intVs, RInt]⟩
theorem Ints.take {w : World} {a : Option Addr} {n c : Nat} {xs : List Int} (h : Ints w (.slice a n c) xs) (k : Nat) (hk : k ≤ xs.length) : Ints w (.slice a k c) (xs.take k) := by
  obtain ⟨a', c', e, h1, h2, h3⟩ := h
  injection e with e1 e2 e3
  subst e1 e2 e3
  refine ⟨a, c, by rw [List.length_take, Nat.min_eq_left hk], by rw [List.length_take]; omega, by rw [List.length_take]; omega, fun i hi => ?_⟩
  rw [List.length_take] at hi
  obtain ⟨ad, u, e, hc, hr⟩ := h3 i (by omega)
  exact ⟨ad, u, e, hc, by rw [List.getElem_take]; exact hr⟩
theorem add_add (ad : Addr) (m j : Nat) : (ad.add m).add j = ad.add (m + j) := by
  unfold Addr.add
  by_cases hm : m = 0
  · subst hm; simp
  · by_cases hj : j = 0
    · subst hj; simp [hm]
    · simp [hm, hj, Nat.add_assoc]
theorem Ints.drop {w : World} {ad : Addr} {n c : Nat} {xs : List Int} (h : Ints w (.slice (some ad) n c) xs) (k : Nat) (hk : k ≤ xs.length) : Ints w (.slice (some (ad.add k)) (n - k) (c - k)) (xs.drop k) := by
  obtain ⟨a', c', e, h1, h2, h3⟩ := h
  injection e with e1 e2 e3
  subst e1 e2 e3
  refine ⟨_, _, by rw [List.length_drop], by rw [List.length_drop]; omega, by rw [List.length_drop]; omega, fun i hi => ?_⟩
  rw [List.length_drop] at hi
  obtain ⟨ad', u, e, hc, hr⟩ := h3 (k + i) (by omega)
  injection e with e
  subst e
  exact ⟨_, u, rfl, by rw [add_add]; exact hc, by rw [List.getElem_drop]; exact hr⟩
theorem Ints.nil_of {w : World} {a : Option Addr} {c : Nat} (n : Nat) (hn : n = 0) : Ints w (.slice a n c) [] := by
  subst hn
  exact ⟨a, c, rfl, by simp, by simp, fun i hi => by simp at hi⟩
theorem h_alloc (w : World) (o : Obj) (b : Nat) : (w.alloc o).heap[b]? = if b = w.heap.size then some o else w.heap[b]? := by
  simp only [World.alloc, Array.getElem?_push]
theorem h_new (w : World) (o : Obj) : (w.alloc o).heap[w.heap.size]? = some o := World.alloc_heap_new _ _
theorem h_new' {w : World} {b : Nat} (o : Obj) (h : b = w.heap.size) : (w.alloc o).heap[b]? = some o := by subst h; exact h_new _ _
theorem h_old {w : World} {b : Nat} {o : Obj} (h : w.heap[b]? = some o) (o' : Obj) : (w.alloc o').heap[b]? = some o := by
  have := (Array.getElem?_eq_some_iff.1 h).1
  rw [h_alloc, if_neg (by omega)]; exact h
theorem h_drew (w : World) (b : Nat) : w.drew.heap[b]? = w.heap[b]? := rfl
theorem heap_drew (w : World) : w.drew.heap = w.heap := rfl
theorem h_grown {w W : World} {row : Option Nat} (hg : w.grownBy W row) {b : Nat} {o : Obj} (h : w.heap[b]? = some o) (hne : some b ≠ row) : W.heap[b]? = some o := by
  rw [hg.block b (Array.getElem?_eq_some_iff.1 h).1 hne]; exact h
theorem h_same {w W : World} (hg : Same w W) {b : Nat} {o : Obj} (h : w.heap[b]? = some o) : W.heap[b]? = some o := by
  rw [hg.out.block b (Array.getElem?_eq_some_iff.1 h).1]; exact h
/-- A formula that was laid into a block of its own: its cells. -/
theorem gbox {w W : World} {p n v : Value} {t : TypeId} (h : Same (w.alloc (.cells #[p, n, v] t)) W) : W.cell? ⟨w.heap.size, 0, none⟩ = some p ∧ W.cell? ⟨w.heap.size, 1, none⟩ = some n ∧ W.cell? ⟨w.heap.size, 2, none⟩ = some v ∧ w.heap.size < W.heap.size := by
  have r : Rec W w.heap.size t #[p, n, v] := Rec.same h (Rec.new _ _ _)
  have q0 := r.cell 0
  have q1 := r.cell 1
  have q2 := r.cell 2
  simp at q0 q1 q2
  exact ⟨q0, q1, q2, r.lt⟩
theorem Gt.At.form {w : World} {g : Gt} {v : Value} (h : g.At w v) : ∃ a n c, v = .slice a n c := by obtain ⟨a, c, e, _⟩ := h.gs; exact ⟨a, _, c, e⟩
theorem Ints.slice {w : World} {v : Value} {xs : List Int} (h : Ints w v xs) : ∃ a n c, v = .slice a n c ∧ n = xs.length := by obtain ⟨a, c, e, _⟩ := h; exact ⟨a, _, c, e, rfl⟩
/-- A row of another type is not touched by an append. -/
theorem own_other {w W : World} {base base' : Nat} {e e' : TypeId} {u v : Value} {ys us : List Value} (h : Own w base e u ys) (h' : Own w base' e' v us) (hne : e ≠ e') (hg : w.grownBy W v.ownBlock) : Own W base e u ys := by
  obtain ⟨h1, h2⟩ := h
  refine ⟨h1, ?_⟩
  rcases h2 with h2 | ⟨g, cap, cur, hv, hb, hh, r⟩
  · exact .inl h2
  · refine .inr ⟨g, cap, cur, hv, hb, h_grown hg hh ?_, r⟩
    rcases h'.2 with ⟨hv', _⟩ | ⟨g', cap', cur', hv', _, hh', _⟩
    · rw [hv']; simp [Value.ownBlock]
    · rw [hv']
      intro he
      simp only [Value.ownBlock, Option.some.injEq] at he
      subst he
      rw [hh] at hh'
      injection hh' with hh'
      injection hh' with e1 e2 e3
      exact hne e2
end Go.Proofs.Ytmnpbopkhpbhiaa
