/- A range over a set of whole numbers: whatever the order. -/
import Derived.Test.YtmnpbopkhpbhiaaFirst
import Derived.Maps.RangeRun
import Derived.Maps.OwnSet
set_option linter.unusedVariables false
set_option linter.unusedSimpArgs false
namespace Go.Proofs.Ytmnpbopkhpbhiaa
open Go.RowKit
open Go.ChangeMaps (setBlock)
/-- Block r walks over the map in block m, whose keys are ks; sn are the keys that came, in their order. -/
def IterAt (w : World) (r m : Nat) (ks sn : List Int) : Prop :=
  sn.Nodup ∧ (∀ x, x ∈ sn → x ∈ ks) ∧ w.heap[r]? = some (.mapIter (some m) ks.length (sn.map fun x => ks.idxOf x).toArray ks.length)
theorem IterAt.same {w W : World} (h : Same w W) {r m : Nat} {ks sn : List Int} (hi : IterAt w r m ks sn) : IterAt W r m ks sn :=
  ⟨hi.1, hi.2.1, h.keep.same _ _ hi.2.2 rfl⟩
theorem IterAt.lt {w : World} {r m : Nat} {ks sn : List Int} (hi : IterAt w r m ks sn) : r < w.heap.size := (Array.getElem?_eq_some_iff.1 hi.2.2).1
theorem IterAt.new (w : World) (m : Nat) (ks : List Int) : IterAt (w.alloc (.mapIter (some m) ks.length #[] ks.length)) w.heap.size m ks [] :=
  ⟨List.nodup_nil, fun x h => by simp at h, World.alloc_heap_new w _⟩
theorem mem_setEntries {val : Value} {ks : List Int} (hn : ks.Nodup) {e : MapEntry} (he : e ∈ setEntries val ks) : ∃ x, x ∈ ks ∧ e = { key := .int .i64 x, val := val, born := ks.idxOf x } := by
  unfold setEntries at he
  rw [List.mem_map] at he
  obtain ⟨⟨x, i⟩, hx, rfl⟩ := he
  rw [List.mem_zipIdx_iff_getElem?] at hx
  obtain ⟨hi, hx⟩ := List.getElem?_eq_some_iff.1 hx
  simp only at hi hx
  refine ⟨x, by rw [← hx]; exact List.getElem_mem _, ?_⟩
  have : ks.idxOf x = i := by
    rw [← hx]
    exact hn.idxOf_getElem i hi
  rw [this]
theorem setEntries_mem {val : Value} {ks : List Int} {x : Int} (h : x ∈ ks) : ({ key := .int .i64 x, val := val, born := ks.idxOf x } : MapEntry) ∈ setEntries val ks := by
  unfold setEntries
  rw [List.mem_map]
  refine ⟨(x, ks.idxOf x), ?_, rfl⟩
  rw [List.mem_zipIdx_iff_getElem?]
  simp [List.getElem?_eq_getElem (List.idxOf_lt_length_of_mem h)]
theorem born_setEntries (val : Value) (ks : List Int) : ((setEntries val ks).map (·.born)).Nodup := by
  unfold setEntries
  rw [List.map_map, show ((fun e : MapEntry => e.born) ∘ fun (p : Int × Nat) => ({ key := .int .i64 p.1, val := val, born := p.2 } : MapEntry)) = (·.2) from rfl, List.zipIdx_map_snd]
  exact List.nodup_range'
theorem idxOf_inj {ks : List Int} {x y : Int} (hx : x ∈ ks) (hy : y ∈ ks) (h : ks.idxOf x = ks.idxOf y) : x = y := by
  have h1 := List.getElem_idxOf (List.idxOf_lt_length_of_mem hx)
  have h2 := List.getElem_idxOf (List.idxOf_lt_length_of_mem hy)
  rw [← h1, ← h2]
  congr 1
section
variable {P : Program}
theorem run_range_set {T K E : TypeId} (ht : P.underlying T = some (.map K E)) {w : World} {m : Nat} {ks : List Int} {val : Value} (hm : MapSet w m ks val) :
    (Instr.range T (.map (some m))).run P w = .ok (.pointer (some ⟨w.heap.size, 0, none⟩)) (w.alloc (.mapIter (some m) ks.length #[] ks.length)) :=
  run_range_map w T K E m _ _ ht hm.2
theorem run_len_set {T K E : TypeId} (ht : P.underlying T = some (.map K E)) {w : World} {m : Nat} {ks : List Int} {val : Value} (hm : MapSet w m ks val) (ty : TypeId) :
    (Builtin.len_ #[T] ty #[.map (some m)]).run P w = .ok (.int .i64 ks.length) w := by
  have hg : (getObj m).run P w = .ok (.map (setEntries val ks).toArray ks.length) w := by simp [getObj, Sem.run, hm.2]
  simp [Builtin.len_, Sem.run_bind, run_underlying ht, hg, setEntries, goInt]
/-- 'len(m)' at the operation. -/
theorem wpList_len_set {ops : Array Oper} {rest : List Oper} {o : Oper} {a : Act} {Q : Exit → Act → World → Prop} {w : World} (hg : o.guard = none) (m : Operand) (t : TypeId)
    (hop : o.op = Op.call { callee := Callee.builtin Builtin.len, args := #[m], argTypes := #[t] }) {K E : TypeId} (ht : P.underlying t = some (.map K E)) {mm : Nat} {ks : List Int} {val : Value}
    (hm : a.eval m = .map (some mm)) (hs : MapSet w mm ks val) (hK : wpList P ops Q rest (a.put o.dst (.int .i64 ks.length)) w) : wpList P ops Q (o :: rest) a w := by
  refine wpList_plain hg fun K' hK' => ?_
  unfold Oper.wp
  simp [execOp, hop, resolve, invoke, builtin, hm, run_len_set ht hs o.type, Result.andThen]
  exact hK' _ _ hK
theorem next_set (ty : TypeId) {w : World} {r m : Nat} {ks sn : List Int} {val : Value} (hm : MapSet w m ks val) (hi : IterAt w r m ks sn) (hrm : r ≠ m) :
    ((∀ x, x ∈ ks → x ∈ sn) ∧ (Instr.next (.pointer (some ⟨r, 0, none⟩)) false ty).run P w = .ok (.tuple #[.bool false]) w) ∨
    ∃ x w', x ∈ ks ∧ x ∉ sn ∧ (Instr.next (.pointer (some ⟨r, 0, none⟩)) false ty).run P w = .ok (.tuple #[.bool true, .int .i64 x, val]) w' ∧ IterAt w' r m ks (sn ++ [x]) ∧ w.grownBy w' (some r) ∧
      (Instr.entry (.pointer (some ⟨r, 0, none⟩))).run P w' = .ok (.tuple #[.int .i64 x, val]) w' := by
  have hold : ∀ e ∈ (setEntries val ks).toArray.toList, e.born < ks.length := by
    intro e he
    obtain ⟨x, hx, rfl⟩ := mem_setEntries hm.1 (by simpa using he)
    exact List.idxOf_lt_length_of_mem hx
  rcases run_next_at (P := P) w ty r m ks.length ks.length _ _ ks.length hi.2.2 hm.2 hold (Nat.le_refl _) with ⟨h0, hr⟩ | ⟨e, he, w1, hw1, hr⟩
  · refine .inl ⟨fun x hx => ?_, hr⟩
    rcases Classical.em (x ∈ sn) with h | h
    · exact h
    · exfalso
      have hmem : ({ key := .int .i64 x, val := val, born := ks.idxOf x } : MapEntry) ∈ leftOf (setEntries val ks).toArray (sn.map fun x => ks.idxOf x).toArray := by
        unfold leftOf
        rw [Array.mem_filter]
        refine ⟨by simpa using setEntries_mem hx, ?_⟩
        simp
        intro y hy hxy
        exact h (by rw [← idxOf_inj (hi.2.1 y hy) hx hxy]; exact hy)
      have := Array.size_pos_of_mem hmem
      omega
  · have he' : e ∈ setEntries val ks ∧ (sn.map fun x => ks.idxOf x).toArray.contains e.born = false := by
      unfold leftOf at he
      rw [Array.mem_toList_iff, Array.mem_filter] at he
      exact ⟨by simpa using he.1, by simpa using he.2⟩
    obtain ⟨x, hx, rfl⟩ := mem_setEntries hm.1 he'.1
    have hns : x ∉ sn := by
      intro hxs
      have := he'.2
      simp at this
      exact this x hxs rfl
    have hsz : w1.heap = w.heap := by rcases hw1 with rfl | rfl <;> rfl
    have hlt := hi.lt
    have hseen : ((sn ++ [x]).map fun x => ks.idxOf x).toArray = ((sn.map fun x => ks.idxOf x).toArray).push (ks.idxOf x) := by simp
    have hI : IterAt (setBlock w1 r (.mapIter (some m) ks.length (((sn.map fun x => ks.idxOf x).toArray).push (ks.idxOf x)) ks.length)) r m ks (sn ++ [x]) := by
      refine ⟨?_, ?_, ?_⟩
      · rw [List.nodup_append]
        exact ⟨hi.1, by simp, fun a ha b hb => by rw [List.mem_singleton] at hb; subst hb; intro e; subst e; exact hns ha⟩
      · intro y hy
        rcases List.mem_append.1 hy with h | h
        · exact hi.2.1 y h
        · rw [List.mem_singleton] at h; rw [h]; exact hx
      · rw [hseen]
        simp [setBlock, hsz, hlt]
    have hG : w.grownBy (setBlock w1 r (.mapIter (some m) ks.length (((sn.map fun x => ks.idxOf x).toArray).push (ks.idxOf x)) ks.length)) (some r) := by
      refine ⟨?_, ?_, ?_, ?_, ?_⟩
      · rcases hw1 with rfl | rfl <;> rfl
      · rcases hw1 with rfl | rfl <;> rfl
      · rcases hw1 with rfl | rfl <;> rfl
      · simp [setBlock, hsz]
      · intro k hk hne
        have : r ≠ k := fun e => hne (by rw [e])
        simp [setBlock, hsz, Array.getElem?_setIfInBounds_ne this]
    refine .inr ⟨x, _, hx, hns, hr, hI, hG, ?_⟩
    have hr2 := hI.2.2
    rw [hseen] at hr2
    refine run_entry_at _ r m ks.length _ (setEntries val ks).toArray ks.length { key := .int .i64 x, val := val, born := ks.idxOf x } hr2 ?_ (by simpa using he'.1) (by simpa using born_setEntries val ks)
    rw [hG.block m hm.lt (by intro e; injection e with e; exact hrm e.symm)]
    exact hm.2
end
end Go.Proofs.Ytmnpbopkhpbhiaa
