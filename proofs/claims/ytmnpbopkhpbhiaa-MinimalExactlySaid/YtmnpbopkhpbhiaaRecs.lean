/- slices.Sort of a slice of the call's own; records of several cells. -/
import Derived.Test.YtmnpbopkhpbhiaaInts
import Derived.Test.YtmnpbopkhpbhiaaShelf
import Derived.Sort.OwnSortedInts
set_option linter.unusedVariables false
set_option linter.unusedSimpArgs false
namespace Go.Proofs.Ytmnpbopkhpbhiaa
open Go.RowKit
def sorted (xs : List Int) : List Int := xs.mergeSort fun x y => decide (x ≤ y)
theorem sorted_perm (xs : List Int) : (sorted xs).Perm xs := List.mergeSort_perm _ _
theorem sorted_length (xs : List Int) : (sorted xs).length = xs.length := (sorted_perm xs).length_eq
theorem sorted_pairwise (xs : List Int) : (sorted xs).Pairwise (· ≤ ·) := by
  have := List.pairwise_mergeSort (le := fun (x y : Int) => decide (x ≤ y)) (by intro a b c h1 h2; simp at *; omega) (by intro a b; simp; omega) xs
  exact this.imp (by intro a b h; simpa using h)
theorem sorted_eq_of_perm {xs ys : List Int} (h : xs.Perm ys) : sorted xs = sorted ys := by
  refine List.Perm.eq_of_pairwise (le := fun a b : Int => a ≤ b) (by intros; omega) (sorted_pairwise _) (sorted_pairwise _) ?_
  exact ((sorted_perm xs).trans h).trans (sorted_perm ys).symm
theorem sort_spec (w : World) (base : Nat) (v : Value) (xs : List Int) (hown : Own w base 3 v (intVs xs)) (hl : xs.length < 4611686018427387904) :
    Calls Try.prog 98 #[v] w fun e w' => e = .returned (.tuple #[]) ∧ Own w' base 3 v (intVs (sorted xs)) ∧ w.grownBy w' v.ownBlock := by
  rcases hown.2 with ⟨hv, hn⟩ | ⟨g, cap, cur, hv, hbase, hb, h1, h2, h3, h4⟩
  · rw [intVs_len] at hn
    obtain rfl := List.eq_nil_of_length_eq_zero hn
    subst hv
    refine (Try.slices_Sort_int_none none 0 w).mono ?_
    rintro e w' ⟨rfl, rfl⟩
    exact ⟨rfl, by simpa [sorted] using hown, World.grownBy.refl _ _⟩
  · rw [intVs_len] at hv h1 h4
    have hH := holds_of_blockI hb (by simpa [intVs] using h4)
    subst hv
    refine (Try.slices_Sort_int g 0 cap xs w hH (Array.getElem?_eq_some_iff.1 hb).1 hl).mono ?_
    rintro e w' ⟨rfl, n, os, rfl⟩
    refine ⟨rfl, ?_, grownBy_sortedI _⟩
    have := ownsRow_sortedI (n := n) (os := os) (e := 3) (ss := xs) (ts := sorted xs) (sorted_length xs) hbase hb (by simpa using h1) h2 h3
    unfold Own
    rw [intVs_len, sorted_length]
    exact this
/-! ### Records -/
def Rec (w : World) (b : Nat) (t : TypeId) (cs : Array Value) : Prop := w.heap[b]? = some (.cells cs t (0, 0))
theorem Rec.lt {w : World} {b : Nat} {t : TypeId} {cs : Array Value} (h : Rec w b t cs) : b < w.heap.size := (Array.getElem?_eq_some_iff.1 h).1
theorem Rec.cell {w : World} {b : Nat} {t : TypeId} {cs : Array Value} (h : Rec w b t cs) (i : Nat) : w.cell? ⟨b, i, none⟩ = cs[i]? := by
  simp [World.cell?, show w.heap[b]? = _ from h]
theorem Rec.frozen {w : World} {b : Nat} {t : TypeId} {cs : Array Value} (h : Rec w b t cs) (i : Nat) : w.frozen? ⟨b, i, none⟩ = false := by
  simp [World.frozen?, show w.heap[b]? = _ from h]
theorem Rec.new (w : World) (t : TypeId) (cs : Array Value) : Rec (w.alloc (.cells cs t)) w.heap.size t cs := World.alloc_heap_new w _
theorem Rec.same {w W : World} (h : Same w W) {b : Nat} {t : TypeId} {cs : Array Value} (hr : Rec w b t cs) : Rec W b t cs := h.keep.same _ _ hr rfl
theorem Rec.grown {w W : World} {row : Option Nat} (hg : w.grownBy W row) {b : Nat} {t : TypeId} {cs : Array Value} (hr : Rec w b t cs) (hne : some b ≠ row) : Rec W b t cs := by
  unfold Rec
  rw [hg.block b hr.lt hne]
  exact hr
theorem Rec.set {w : World} {b : Nat} {t : TypeId} {cs : Array Value} (h : Rec w b t cs) (i : Nat) (u : Value) : Rec (w.setCell ⟨b, i, none⟩ u) b t (cs.setIfInBounds i u) := by
  unfold Rec at h ⊢
  have hlt := (Array.getElem?_eq_some_iff.1 h).1
  simp [World.setCell, Array.getElem?_modify, h]
theorem Rec.other {w : World} {b : Nat} {t : TypeId} {cs : Array Value} (h : Rec w b t cs) {p : Addr} (hp : b ≠ p.block) (u : Value) : Rec (w.setCell p u) b t cs := by
  unfold Rec
  rw [Below.heap_setCell _ _ _ _ hp]
  exact h
theorem own_of {w W : World} {base : Nat} {e : TypeId} {v : Value} {xs : List Value} (h : Own w base e v xs) (hb : ∀ k, base ≤ k → k < w.heap.size → W.heap[k]? = w.heap[k]?) : Own W base e v xs := by
  obtain ⟨h1, h2⟩ := h
  refine ⟨h1, ?_⟩
  rcases h2 with h2 | ⟨g, cap, cur, hv, hg, hh, r⟩
  · exact .inl h2
  · exact .inr ⟨g, cap, cur, hv, hg, by rw [hb g hg (Array.getElem?_eq_some_iff.1 hh).1]; exact hh, r⟩
theorem own_set {w : World} {base : Nat} {e : TypeId} {v : Value} {xs : List Value} (h : Own w base e v xs) {p : Addr} (hp : p.block < base) (u : Value) : Own (w.setCell p u) base e v xs :=
  own_of h fun k hk _ => Below.heap_setCell _ _ _ _ (by omega)
theorem own_grown {w W : World} {row : Option Nat} (hg : w.grownBy W row) {base : Nat} {e : TypeId} {v : Value} {xs : List Value} (h : Own w base e v xs) (hr : ∀ k, row = some k → k < base) : Own W base e v xs :=
  own_of h fun k hk hl => hg.block k hl (fun e => by have := hr k e.symm; omega)
theorem Rec.set4 {w : World} {b : Nat} {t : TypeId} {c0 c1 c2 c3 : Value} (h : Rec w b t #[c0, c1, c2, c3]) (u0 u1 u2 u3 : Value) :
    Rec ((((w.setCell ⟨b, 0, none⟩ u0).setCell ⟨b, 1, none⟩ u1).setCell ⟨b, 2, none⟩ u2).setCell ⟨b, 3, none⟩ u3) b t #[u0, u1, u2, u3] := by
  simpa using (((h.set 0 u0).set 1 u1).set 2 u2).set 3 u3
theorem Same.set4 {w W : World} (h : Same w W) {b : Nat} (hb : w.heap.size ≤ b) (u0 u1 u2 u3 : Value) :
    Same w ((((W.setCell ⟨b, 0, none⟩ u0).setCell ⟨b, 1, none⟩ u1).setCell ⟨b, 2, none⟩ u2).setCell ⟨b, 3, none⟩ u3) :=
  (((h.setCell (p := ⟨b, 0, none⟩) hb u0).setCell (p := ⟨b, 1, none⟩) hb u1).setCell (p := ⟨b, 2, none⟩) hb u2).setCell (p := ⟨b, 3, none⟩) hb u3
end Go.Proofs.Ytmnpbopkhpbhiaa
