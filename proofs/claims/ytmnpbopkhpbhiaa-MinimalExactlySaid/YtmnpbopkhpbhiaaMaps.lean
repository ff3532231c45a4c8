/- Maps from int whose values are all one value: sets of whole numbers. -/
import Derived.Test.YtmnpbopkhpbhiaaRange
set_option linter.unusedVariables false
set_option linter.unusedSimpArgs false
namespace Go.Proofs.Ytmnpbopkhpbhiaa
open Go.RowKit
/-- The entries of such a map: the keys in the order in which they came. -/
def setEntries (val : Value) (ks : List Int) : List MapEntry := ks.zipIdx.map fun (k, i) => { key := .int .i64 k, val := val, born := i }
/-- Block m is a map whose keys are ks, each with the value val. -/
def MapSet (w : World) (m : Nat) (ks : List Int) (val : Value) : Prop := ks.Nodup ∧ w.heap[m]? = some (.map (setEntries val ks).toArray ks.length)
theorem MapSet.keep {w W : World} (h : Keep w W) {m : Nat} {ks : List Int} {val : Value} (hm : MapSet w m ks val) : MapSet W m ks val := ⟨hm.1, h.same _ _ hm.2 rfl⟩
theorem MapSet.lt {w : World} {m : Nat} {ks : List Int} {val : Value} (hm : MapSet w m ks val) : m < w.heap.size := (Array.getElem?_eq_some_iff.1 hm.2).1
theorem MapSet.new (w : World) (val : Value) : MapSet (w.alloc (.map #[] 0)) w.heap.size [] val := ⟨List.nodup_nil, World.alloc_heap_new w _⟩
theorem setEntries_snoc (val : Value) (ks : List Int) (x : Int) : setEntries val (ks ++ [x]) = setEntries val ks ++ [{ key := .int .i64 x, val := val, born := ks.length }] := by
  simp [setEntries, List.zipIdx_append]
section
variable {P : Program}
theorem findNow_set (x : Int) (val : Value) : ∀ (ks : List Int) (i n : Nat), Instr.findNow (.int .i64) (.int .i64 x) ((ks.zipIdx i).map fun (k, i) => ({ key := .int .i64 k, val := val, born := i } : MapEntry)) n =
    some (if x ∈ ks then some (n + ks.idxOf x, val) else none)
  | [], i, n => by simp [Instr.findNow]
  | k :: ks, i, n => by
    simp only [List.zipIdx_cons, List.map_cons, Instr.findNow, Instr.sameNow, if_true]
    by_cases h : x = k
    · subst h
      simp
    · have hb : (x == k) = false := by simpa using h
      simp only [hb]
      rw [findNow_set x val ks (i + 1) (n + 1)]
      have hk : ¬ k = x := fun e => h e.symm
      have hk2 : (k == x) = false := by simpa using hk
      simp [h, List.idxOf_cons, hk2, Nat.add_assoc, Nat.add_comm 1]
theorem run_findKey_set {K : TypeId} (hK : P.underlying K = some (.int .i64)) (x : Int) (val : Value) (ks : List Int) (w : World) :
    (Instr.findKey K (.int .i64 x) (setEntries val ks)).run P w = .ok (if x ∈ ks then some (ks.idxOf x, val) else none) w := by
  have h := findNow_set x val ks 0 0
  simp only [Nat.zero_add] at h
  simp only [Instr.findKey, setEntries, Sem.run_bind, run_underlying hK, Result.andThen_ok, h]
  split <;> rfl
theorem run_checkKey_int {K : TypeId} (hK : P.underlying K = some (.int .i64)) (x : Int) (em : Bool) (n : Nat) (w : World) :
    (Instr.checkKey em (n + 1) K (.int .i64 x)).run P w = .ok () w := by
  simp only [Instr.checkKey, Sem.run_bind, run_underlying hK, Result.andThen_ok]
  rfl
theorem run_lookup_set {T K E : TypeId} (hT : P.underlying T = some (.map K E)) (hK : P.underlying K = some (.int .i64)) {w : World} {z : Value} (hz : (zeroValue E).run P w = .ok z w) {m : Nat} {ks : List Int} {val : Value} (h : MapSet w m ks val) (x : Int) :
    (Instr.lookup T (.map (some m)) (.int .i64 x) false).run P w = .ok (if x ∈ ks then val else z) w := by
  have hg : (getObj m).run P w = .ok (.map (setEntries val ks).toArray ks.length) w := by simp [getObj, Sem.run, h.2]
  simp only [Instr.lookup, Sem.run_bind, run_underlying hT, Result.andThen_ok, hg, Sem.run_pure]
  rw [show (10000 : Nat) = 9999 + 1 from rfl, run_checkKey_int hK]
  simp only [Result.andThen_ok, run_findKey_set hK]
  by_cases hx : x ∈ ks
  · simp [hx]
  · simp [hx, Sem.run_bind, hz]
/-- Storing x. -/
def addKey (ks : List Int) (x : Int) : List Int := if x ∈ ks then ks else ks ++ [x]
theorem setEntries_modify (val : Value) (x : Int) : ∀ (ks : List Int) (i j : Nat), x ∈ ks → j = ks.idxOf x →
    ((ks.zipIdx i).map fun (k, i) => ({ key := .int .i64 k, val := val, born := i } : MapEntry)).modify j (fun e => { e with key := .int .i64 x, val := val }) = (ks.zipIdx i).map fun (k, i) => ({ key := .int .i64 k, val := val, born := i } : MapEntry)
  | [], _, _, h, _ => by simp at h
  | k :: ks, i, j, h, hj => by
    simp only [List.zipIdx_cons, List.map_cons]
    by_cases hx : x = k
    · subst hx
      simp only [List.idxOf_cons_self] at hj
      subst hj
      simp
    · have hk : (k == x) = false := by simp; exact fun e => hx e.symm
      simp only [List.idxOf_cons, hk, cond_false] at hj
      subst hj
      have hm : x ∈ ks := by simpa [hx] using h
      rw [List.modify_succ_cons]
      congr 1
      exact setEntries_modify val x ks (i + 1) _ hm rfl
theorem run_mapUpdate_set {T K E : TypeId} (hT : P.underlying T = some (.map K E)) (hK : P.underlying K = some (.int .i64)) {w : World} {m : Nat} {ks : List Int} {val : Value} (h : MapSet w m ks val) (x : Int) :
    ∃ w', (Instr.mapUpdate T (.map (some m)) (.int .i64 x) val).run P w = .ok () w' ∧ MapSet w' m (addKey ks x) val ∧ w.grownBy w' (some m) := by
  have hg : (getObj m).run P w = .ok (.map (setEntries val ks).toArray ks.length) w := by simp [getObj, Sem.run, h.2]
  have hs : ∀ o, (setObj m o).run P w = .ok () (w.putObj m o) := fun o => by simp [setObj, Sem.run, h.2, World.putObj]
  have hlt := h.lt
  by_cases hx : x ∈ ks
  · refine ⟨w, ?_, by rw [addKey, if_pos hx]; exact h, World.grownBy.refl _ _⟩
    simp only [Instr.mapUpdate, Sem.run_bind, run_underlying hT, Result.andThen_ok, hg]
    rw [show (10000 : Nat) = 9999 + 1 from rfl, run_checkKey_int hK]
    simp only [Result.andThen_ok, run_findKey_set hK, if_pos hx, Sem.run_bind]
    have hlen : ks.idxOf x < ks.length := List.idxOf_lt_length_iff.2 hx
    have hkey : ((setEntries val ks).toArray[ks.idxOf x]?).map (·.key) = some (.int .i64 x) := by
      simp [setEntries, hlen]
    have hst : (Instr.keyThatStays (((setEntries val ks).toArray[ks.idxOf x]?.map (·.key)).getD (.int .i64 x)) (.int .i64 x)).run P w = .ok (.int .i64 x) w := by
      rw [hkey]
      simp [Instr.keyThatStays, Instr.sameBits]
    rw [hst]
    simp only [Result.andThen_ok, hs]
    congr 1
    have hmod : (setEntries val ks).toArray.modify (ks.idxOf x) (fun e => { e with key := .int .i64 x, val := val }) = (setEntries val ks).toArray := by
      have := setEntries_modify val x ks 0 (ks.idxOf x) hx rfl
      rw [List.modify_toArray]
      exact congrArg _ this
    rw [hmod]
    unfold World.putObj
    have : w.heap.setIfInBounds m (.map (setEntries val ks).toArray ks.length) = w.heap := by
      apply Array.ext_getElem?
      intro i
      rw [Array.getElem?_setIfInBounds]
      split
      · rename_i e
        subst e
        rw [h.2]
      · rfl
    rw [this]
  · refine ⟨w.putObj m (.map (setEntries val (ks ++ [x])).toArray (ks.length + 1)), ?_, ?_, ?_⟩
    · simp only [Instr.mapUpdate, Sem.run_bind, run_underlying hT, Result.andThen_ok, hg]
      rw [show (10000 : Nat) = 9999 + 1 from rfl, run_checkKey_int hK]
      simp only [Result.andThen_ok, run_findKey_set hK, if_neg hx, hs]
      rw [setEntries_snoc]
      simp
    · rw [addKey, if_neg hx]
      refine ⟨?_, ?_⟩
      · rw [List.nodup_append]
        exact ⟨h.1, by simp, by intro a ha b hb; simp at hb; subst hb; exact fun e => hx (e ▸ ha)⟩
      · rw [World.putObj_heap_same hlt]
        simp
    · exact grownBy_putObj' w m _
end
end Go.Proofs.Ytmnpbopkhpbhiaa
