/- Base words of this seat's proofs: worlds that keep what was there, slices that read as lists, formulas (gates) that read as trees. -/
import Derived.WalkKit
import Derived.Deep.QuietTactic
import Derived.BigQuiet
import Derived.Lib.Hide
import Derived.WalkSpells
import Derived.WalkLawsBesides
import Derived.IntWalk
import Derived.Laws.EntriesVeiled
set_option linter.unusedVariables false
set_option linter.unusedSimpArgs false
namespace Go.Proofs.Ytmnpbopkhpbhiaa
open Go.RowKit

/-! ### Worlds -/
/-- An object that no loop over a function rewrites by itself. -/
def keeps : Obj → Bool
  | .loop _ => false
  | .deferred _ => false
  | _ => true
/-- Every object of w but the records of loops stands in W as it stood. -/
structure Keep (w W : World) : Prop where
  size : w.heap.size ≤ W.heap.size
  same : ∀ (k : Nat) (o : Obj), w.heap[k]? = some o → keeps o = true → W.heap[k]? = some o
theorem Keep.refl (w : World) : Keep w w := ⟨Nat.le_refl _, fun _ _ h _ => h⟩
theorem Keep.trans {a b c : World} (h : Keep a b) (k : Keep b c) : Keep a c := ⟨Nat.le_trans h.size k.size, fun i o hi ho => k.same i o (h.same i o hi ho) ho⟩
/-- All that was in w is in W as it was; the streams too. -/
structure Same (w W : World) : Prop where
  out : Below w.heap.size w W
theorem Same.refl (w : World) : Same w w := ⟨Below.refl _ _⟩
theorem Same.size {a b : World} (h : Same a b) : a.heap.size ≤ b.heap.size := h.out.size
theorem Same.trans {a b c : World} (h : Same a b) (k : Same b c) : Same a c := ⟨h.out.trans (k.out.mono h.size)⟩
theorem Same.alloc {a b : World} (h : Same a b) (o : Obj) : Same a (b.alloc o) := ⟨h.out.alloc h.size o⟩
theorem Same.drew {a b : World} (h : Same a b) : Same a b.drew := ⟨h.out.drew⟩
theorem Same.drewN {a b : World} (h : Same a b) (n : Nat) : Same a (b.drewN n) := ⟨⟨h.out.os, h.out.tape, h.out.output, h.out.size, h.out.block⟩⟩
theorem Same.setCell {a b : World} (h : Same a b) {p : Addr} (hp : a.heap.size ≤ p.block) (u : Value) : Same a (b.setCell p u) := ⟨h.out.setCell hp u⟩
theorem Same.keep {a b : World} (h : Same a b) : Keep a b := by
  refine ⟨h.size, fun k o hk _ => ?_⟩
  rw [h.out.block k (Array.getElem?_eq_some_iff.1 hk).1, hk]
theorem Same.grown {a b c : World} (h : Same a b) {row : Option Nat} (hg : b.grownBy c row) (hr : ∀ k, row = some k → a.heap.size ≤ k) : Same a c := ⟨h.out.grown hg h.size hr⟩
theorem Keep.cell {w W : World} (h : Keep w W) {p : Addr} {v : Value} (hc : w.cell? p = some v) : W.cell? p = some v := by
  unfold World.cell? at hc ⊢
  cases ho : w.heap[p.block]? with
  | none => rw [ho] at hc; cases hc
  | some o =>
    rw [ho] at hc
    cases o with
    | cells c e f => rw [h.same _ _ ho rfl]; exact hc
    | _ => cases hc

/-! ### Slices that read as lists: each element is one cell -/
def Sl {α : Type} (R : World → Value → α → Prop) (w : World) (v : Value) (xs : List α) : Prop :=
  ∃ a cap, v = .slice a xs.length cap ∧ xs.length ≤ cap ∧ xs.length ≤ 17592186044416 ∧ ∀ i (h : i < xs.length), ∃ ad u, a = some ad ∧ w.cell? (ad.add i) = some u ∧ R w u xs[i]
def RInt (_ : World) (u : Value) (x : Int) : Prop := u = .int .i64 x
abbrev Ints (w : World) (v : Value) (xs : List Int) : Prop := Sl RInt w v xs
abbrev Intss (w : World) (v : Value) (xs : List (List Int)) : Prop := Sl (fun w u x => Sl RInt w u x) w v xs
theorem Sl.keep {α : Type} {R : World → Value → α → Prop} (hR : ∀ {w W u x}, Keep w W → R w u x → R W u x) {w W : World} (h : Keep w W) {v : Value} {xs : List α} (hs : Sl R w v xs) : Sl R W v xs := by
  obtain ⟨a, cap, e, h1, h2, hc⟩ := hs
  refine ⟨a, cap, e, h1, h2, fun i hi => ?_⟩
  obtain ⟨ad, u, ha, hu, hr⟩ := hc i hi
  exact ⟨ad, u, ha, h.cell hu, hR h hr⟩
theorem Ints.keep {w W : World} (h : Keep w W) {v : Value} {xs : List Int} (hs : Ints w v xs) : Ints W v xs := Sl.keep (fun _ h => h) h hs
theorem Intss.keep {w W : World} (h : Keep w W) {v : Value} {xs : List (List Int)} (hs : Intss w v xs) : Intss W v xs := Sl.keep (R := fun w u x => Sl RInt w u x) (fun k h => Ints.keep k h) h hs
end Go.Proofs.Ytmnpbopkhpbhiaa
