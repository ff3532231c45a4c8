/- Rows of formulas of the call's own; signatorylaw24.of. -/
import Derived.Test.YtmnpbopkhpbhiaaOwnRows
import Derived.Test.YtmnpbopkhpbhiaaGate
set_option linter.unusedVariables false
set_option linter.unusedSimpArgs false
namespace Go.Proofs.Ytmnpbopkhpbhiaa
open Go.RowKit
set_option maxRecDepth 100000
theorem info_gate : (Try.prog.info? 24).map (fun i => (i.zero, i.size, i.bytes)) = some (some (.agg #[.int .i64 0, .int .i64 0, .slice none 0 0]), 3, 40) := by kernel_rfl
/-- The cells of a row of formulas. -/
def gcells (vs : List (Int × Int × Value)) : List Value := vs.flatMap fun x => [.int .i64 x.1, .int .i64 x.2.1, x.2.2]
theorem gcells_len (vs : List (Int × Int × Value)) : (gcells vs).length = vs.length * 3 := by
  induction vs with
  | nil => rfl
  | cons x vs ih => simp only [gcells, List.flatMap_cons, List.length_append, List.length_cons, List.length_nil] at ih ⊢; omega
theorem gcells_append (a b : List (Int × Int × Value)) : gcells (a ++ b) = gcells a ++ gcells b := by simp [gcells]
theorem gcells_get : ∀ (vs : List (Int × Int × Value)) (j : Nat) (h : j < vs.length), (gcells vs)[j * 3]? = some (.int .i64 vs[j].1) ∧ (gcells vs)[j * 3 + 1]? = some (.int .i64 vs[j].2.1) ∧ (gcells vs)[j * 3 + 2]? = some vs[j].2.2
  | [], j, h => by simp at h
  | x :: vs, 0, _ => by simp [gcells]
  | x :: vs, j + 1, h => by
    have := gcells_get vs j (by simpa using h)
    rw [show (j + 1) * 3 = j * 3 + 3 from by omega, show j * 3 + 3 + 1 = (j * 3 + 1) + 3 from by omega, show j * 3 + 3 + 2 = (j * 3 + 2) + 3 from by omega]
    simpa [gcells] using this
def GOwn (w : World) (base : Nat) (v : Value) (vs : List (Int × Int × Value)) : Prop := w.ownsRow base 24 3 v vs.length (gcells vs)
theorem GOwn.nil (w : World) (base : Nat) : GOwn w base (.slice none 0 0) [] := ⟨rfl, .inl ⟨rfl, rfl⟩⟩
theorem GOwn.form {w : World} {base : Nat} {v : Value} {vs : List (Int × Int × Value)} (h : GOwn w base v vs) : ∃ a c, v = .slice a vs.length c := by
  rcases h.2 with ⟨e, e2⟩ | ⟨g, cap, cur, e, _⟩
  · exact ⟨none, 0, by rw [e, e2]⟩
  · exact ⟨_, _, e⟩
theorem GOwn.keep {w W : World} (h : Keep w W) {base : Nat} {v : Value} {vs : List (Int × Int × Value)} (ho : GOwn w base v vs) : GOwn W base v vs := by
  obtain ⟨h1, h2⟩ := ho
  refine ⟨h1, ?_⟩
  rcases h2 with h2 | ⟨g, cap, cur, hv, hb, hh, r⟩
  · exact .inl h2
  · exact .inr ⟨g, cap, cur, hv, hb, h.same _ _ hh rfl, r⟩
theorem GOwn.set {w : World} {base : Nat} {v : Value} {vs : List (Int × Int × Value)} (h : GOwn w base v vs) {p : Addr} (hp : p.block < base) (u : Value) : GOwn (w.setCell p u) base v vs := by
  obtain ⟨h1, h2⟩ := h
  refine ⟨h1, ?_⟩
  rcases h2 with h2 | ⟨g, cap, cur, hv, hb, hh, r⟩
  · exact .inl h2
  · exact .inr ⟨g, cap, cur, hv, hb, (Below.heap_setCell _ _ _ _ (by omega)).trans hh, r⟩
theorem GOwn.gs {w : World} {base : Nat} {v : Value} {vs : List (Int × Int × Value)} {gs : List Gt} (h : GOwn w base v vs) (hl : vs.length = gs.length) (hb : gs.length ≤ 3518437208883)
    (hg : ∀ j (h1 : j < vs.length) (h2 : j < gs.length), vs[j].1 = gs[j].p ∧ vs[j].2.1 = gs[j].n ∧ gs[j].At w vs[j].2.2) : Gs w v gs := by
  rcases h.2 with ⟨e, e2⟩ | ⟨g, cap, cur, e, _, hh, hn, _, hsz, htake⟩
  · have : gs = [] := List.eq_nil_of_length_eq_zero (by omega)
    subst this
    exact ⟨none, 0, e, by simp, by simp, by simp only [GsAt]⟩
  · refine ⟨some ⟨g, 0, none⟩, cap, by rw [e, hl], by omega, hb, GsAt.mk fun j hj => ?_⟩
    have hj' : j < vs.length := by omega
    obtain ⟨g1, g2, g3⟩ := hg j hj' hj
    obtain ⟨c0, c1, c2⟩ := gcells_get vs j hj'
    have hcell : ∀ d, d < vs.length * 3 → w.cell? ⟨g, d, none⟩ = (gcells vs)[d]? := fun d hd => by
      rw [e] at h
      exact World.ownsRow.cellAt h d hd
    have e0 : (⟨g, 0, none⟩ : Addr).add ((0 + j) * 3) = ⟨g, j * 3, none⟩ := by rw [add_plain, Nat.zero_add]
    refine ⟨⟨g, 0, none⟩, vs[j].2.2, rfl, ?_, ?_, ?_, g3⟩
    · rw [e0, hcell _ (by omega), c0, g1]
    · rw [e0, show (⟨g, j * 3, none⟩ : Addr).add 1 = ⟨g, j * 3 + 1, none⟩ from by unfold Addr.add; simp, hcell _ (by omega), c1, g2]
    · rw [e0, show (⟨g, j * 3, none⟩ : Addr).add 2 = ⟨g, j * 3 + 2, none⟩ from by unfold Addr.add; simp, hcell _ (by omega), c2]
theorem wpList_append_gate {ops : Array Oper} {rest : List Oper} {o : Oper} {a : Act} {Q : Exit → Act → World → Prop} (hgd : o.guard = none) (s x : Operand)
    (ho : o.op = .call { callee := .builtin .append, args := #[s, x], argTypes := #[22, 22] })
    {w : World} {base : Nat} {v : Value} {vs : List (Int × Int × Value)} (h : GOwn w base v vs) (hs : a.eval s = v) {b : Nat} {p n : Int} {u : Value} (hx : a.eval x = .slice (some ⟨b, 0, none⟩) 1 1)
    (hc : w.heap[b]? = some (.cells #[.int .i64 p, .int .i64 n, u] 24 (0, 0))) (h1 : u.oneCell' = true) (hb : vs.length ≤ 1000000) (hbase : base ≤ w.heap.size)
    (hk : ∀ a7 n7 c7 w', GOwn w' base (.slice a7 n7 c7) (vs ++ [(p, n, u)]) → w.grownBy w' v.ownBlock → (∀ q, v.ownBlock = some q → base ≤ q) → wpList Try.prog ops Q rest (a.put o.dst (.slice a7 n7 c7)) w') : wpList Try.prog ops Q (o :: rest) a w := by
  obtain ⟨i0, hi, hz0, hz1, hz2⟩ := info_parts info_gate
  have hcell : ∀ d, w.cell? ⟨b, d, none⟩ = (#[Value.int .i64 p, .int .i64 n, u])[d]? := fun d => cell_of_row w b _ _ _ (0, 0) hc
  refine wpList_append_own_at w hgd s x 22 ho base 24 i0 _ 3 40 Try.underlying22 hi hz0 hz1 hz2 rfl (by omega) v vs.length (gcells vs) hs h ⟨b, 0, none⟩ 1 1 [.int .i64 p, .int .i64 n, u] hx rfl ?_ ?_ (by simp only [maxLen]; omega) (by omega) hbase ?_
  · intro j y hj
    rw [add_plain, hcell]
    match j, hj with
    | 0, hj => simpa using hj
    | 1, hj => simpa using hj
    | 2, hj => simpa using hj
    | j + 3, hj => simp at hj
  · intro y hy
    simp only [List.mem_cons, List.not_mem_nil, or_false] at hy
    rcases hy with rfl | rfl | rfl
    · rfl
    · rfl
    · exact h1
  · intro v' w' h2 h3 _ _
    have h4 : GOwn w' base v' (vs ++ [(p, n, u)]) := by
      unfold GOwn
      rw [List.length_append, List.length_singleton, gcells_append]
      exact h2
    obtain ⟨a7, c7, rfl⟩ := h4.form
    exact hk a7 _ c7 w' h4 h3 (fun q hq => by
      rcases h.2 with ⟨e, _⟩ | ⟨g, cap, cur, e, hb, _⟩
      · rw [e] at hq; cases hq
      · rw [e] at hq; cases hq; exact hb)
/-- A formula of one person. -/
def lf (n : Int) : Gt := .mk n 0 []
theorem nil_at (w : World) (p n : Int) : (Gt.mk p n []).At w (.slice none 0 0) := by
  simp only [Gt.At]
  exact ⟨none, 0, rfl, Nat.le_refl _, by simp, by simp only [GsAt]⟩
theorem lf_at (w : World) (n : Int) : (lf n).At w (.slice none 0 0) := nil_at w n 0
def leafV (ps : List Int) : List (Int × Int × Value) := ps.map fun p => (p, 0, .slice none 0 0)
theorem leaf_gs {w : World} {base : Nat} {v : Value} {ps : List Int} (h : GOwn w base v (leafV ps)) (hb : ps.length ≤ 1000000) : Gs w v (ps.map lf) :=
  h.gs (by simp [leafV]) (by simp; omega) fun j h1 h2 => by
    simp only [leafV, List.getElem_map]
    exact ⟨rfl, rfl, lf_at w _⟩
end Go.Proofs.Ytmnpbopkhpbhiaa
