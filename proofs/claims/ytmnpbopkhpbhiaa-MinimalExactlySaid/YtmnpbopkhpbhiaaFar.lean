/- A store leaves other blocks. -/
import Derived.Test.YtmnpbopkhpbhiaaBase
import Derived.RangeFuncBox
set_option linter.unusedVariables false
set_option linter.unusedSimpArgs false
namespace Go.Proofs.Ytmnpbopkhpbhiaa
open Go.RowKit
theorem Ints.nil' (w : World) (c : Nat) : Ints w (.slice none 0 c) [] := ⟨none, c, rfl, by simp, by simp, fun i h => by simp at h⟩
theorem cell_far (w : World) (p a : Addr) (v : Value) (h : a.block ≠ p.block) : (w.setCell p v).cell? a = w.cell? a := by
  unfold World.cell?
  rw [Below.heap_setCell _ _ _ _ h]
/-- A store into a box that holds no int leaves a list of ints. -/
theorem Ints.setBox {A : World} {y : Value} {x : List Int} {b : Nat} {t : TypeId} {u0 : Value} (h : Ints A y x) (hb : Boxed A b t u0) (hu : ∀ i, u0 ≠ .int .i64 i) (u : Value) : Ints (A.setCell ⟨b, 0, none⟩ u) y x := by
  obtain ⟨a, c, e, h1, h2, hc⟩ := h
  refine ⟨a, c, e, h1, h2, fun i hi => ?_⟩
  obtain ⟨ad, v, ha, hv, hr⟩ := hc i hi
  refine ⟨ad, v, ha, ?_, hr⟩
  rw [cell_far]
  · exact hv
  · intro he
    unfold RInt at hr
    subst hr
    unfold World.cell? at hv
    have hb' : A.heap[(ad.add i).block]? = some (.cells #[u0] t (0, 0)) := by rw [he]; exact hb
    rw [hb'] at hv
    simp only at hv
    split at hv
    · cases hv
    · rcases Nat.eq_zero_or_pos (ad.add i).off with h0 | h0
      · rw [h0] at hv
        simp at hv
        exact hu _ hv
      · rw [Array.getElem?_eq_none (by simp; omega)] at hv
        cases hv
end Go.Proofs.Ytmnpbopkhpbhiaa
