/- The people in order: plain laws. -/
import Derived.Test.YtmnpbopkhpbhiaaRefGather
set_option linter.unusedVariables false
set_option linter.unusedSimpArgs false
namespace Go.Proofs.Ytmnpbopkhpbhiaa
open Go.RowKit
theorem put_mem (n : Int) : ∀ (l : List Int) (x : Int), x ∈ put l n ↔ x = n ∨ x ∈ l
  | [], x => by simp [put]
  | y :: ys, x => by
    simp only [put]
    split
    · simp only [List.mem_cons, put_mem n ys x]
      constructor
      · rintro (h | h | h)
        · exact .inr (.inl h)
        · exact .inl h
        · exact .inr (.inr h)
      · rintro (h | h | h)
        · exact .inr (.inl h)
        · exact .inl h
        · exact .inr (.inr h)
    · split
      · rename_i h
        subst h
        simp
      · simp
theorem put_sorted (n : Int) : ∀ (l : List Int), l.Pairwise (· < ·) → (put l n).Pairwise (· < ·)
  | [], _ => by simp [put]
  | y :: ys, h => by
    simp only [List.pairwise_cons] at h
    simp only [put]
    split
    · rename_i hlt
      refine List.pairwise_cons.2 ⟨fun z hz => ?_, put_sorted n ys h.2⟩
      rcases (put_mem n ys z).1 hz with rfl | hz
      · exact hlt
      · exact h.1 z hz
    · split
      · exact List.pairwise_cons.2 h
      · refine List.pairwise_cons.2 ⟨fun z hz => ?_, List.pairwise_cons.2 h⟩
        rcases List.mem_cons.1 hz with rfl | hz
        · omega
        · have := h.1 z hz; omega
theorem puts_mem (l : List Int) : ∀ (acc : List Int) (x : Int), x ∈ puts acc l ↔ x ∈ acc ∨ x ∈ l := by
  induction l with
  | nil => intro acc x; simp [puts]
  | cons y ys ih =>
    intro acc x
    have := ih (put acc y) x
    simp only [puts, List.foldl_cons] at this ⊢
    rw [this, put_mem, List.mem_cons]
    constructor
    · rintro ((h | h) | h)
      · exact .inr (.inl h)
      · exact .inl h
      · exact .inr (.inr h)
    · rintro (h | h | h)
      · exact .inl (.inr h)
      · exact .inl (.inl h)
      · exact .inr h
theorem puts_sorted (l : List Int) : ∀ (acc : List Int), acc.Pairwise (· < ·) → (puts acc l).Pairwise (· < ·) := by
  induction l with
  | nil => intro acc h; simpa [puts] using h
  | cons y ys ih => intro acc h; simp only [puts, List.foldl_cons]; exact ih _ (put_sorted y acc h)
theorem puts_nodup (l : List Int) : (puts [] l).Nodup := (puts_sorted l [] List.Pairwise.nil).imp (fun h => by omega)
theorem rpeople_sorted (g : Gt) : g.rpeople.Pairwise (· < ·) := puts_sorted _ _ List.Pairwise.nil
theorem rpeople_mem (g : Gt) (x : Int) : x ∈ g.rpeople ↔ x ∈ g.ppl := by rw [Gt.rpeople, puts_mem]; simp
end Go.Proofs.Ytmnpbopkhpbhiaa
