/- slices.Compact of a sorted slice of the call's own. -/
import Derived.Test.YtmnpbopkhpbhiaaPlainSub
import Derived.Test.YtmnpbopkhpbhiaaFar
import Derived.Test.YtmnpbopkhpbhiaaOwnRows
set_option linter.unusedVariables false
set_option linter.unusedSimpArgs false
namespace Go.Proofs.Ytmnpbopkhpbhiaa
open Go.RowKit
theorem compactUpTo_sorted (d : Array Int) (hs : ∀ i j, i ≤ j → j < d.size → d[i]! ≤ d[j]!) : ∀ m, m ≤ d.size →
    (Lib.compactUpTo d m).Pairwise (· < ·) ∧ (∀ x, x ∈ Lib.compactUpTo d m ↔ ∃ j, j < m ∧ d[j]! = x)
  | 0, _ => by simp [Lib.compactUpTo]
  | m + 1, hm => by
    obtain ⟨h1, h2⟩ := compactUpTo_sorted d hs m (by omega)
    rw [Lib.compactUpTo_succ]
    by_cases hk : Lib.keeps d m = true
    · rw [if_pos hk]
      have hne : m = 0 ∨ d[m]! ≠ d[m - 1]! := by
        by_cases h0 : m = 0
        · exact .inl h0
        · right
          intro he
          rw [Lib.keeps_neg (by omega) he] at hk
          cases hk
      refine ⟨?_, fun x => ?_⟩
      · rw [List.pairwise_append]
        refine ⟨h1, by simp, fun a ha b hb => ?_⟩
        rw [List.mem_singleton] at hb
        subst hb
        obtain ⟨j, hj, rfl⟩ := (h2 a).1 ha
        have h3 := hs j (m - 1) (by omega) (by omega)
        have h4 := hs (m - 1) m (by omega) (by omega)
        rcases hne with h | h
        · omega
        · omega
      · rw [List.mem_append, h2, List.mem_singleton]
        constructor
        · rintro (⟨j, hj, rfl⟩ | rfl)
          · exact ⟨j, by omega, rfl⟩
          · exact ⟨m, by omega, rfl⟩
        · rintro ⟨j, hj, rfl⟩
          by_cases e : j = m
          · exact .inr (by rw [e])
          · exact .inl ⟨j, by omega, rfl⟩
    · rw [if_neg hk, List.append_nil]
      have he : 0 < m ∧ d[m]! = d[m - 1]! := by
        by_cases h0 : m = 0
        · subst h0
          exact absurd (Lib.keeps_lt_one d 0 (by omega)) hk
        · refine ⟨by omega, ?_⟩
          by_cases h : d[m]! = d[m - 1]!
          · exact h
          · exact absurd (Lib.keeps_pos h) hk
      refine ⟨h1, fun x => ?_⟩
      rw [h2]
      constructor
      · rintro ⟨j, hj, rfl⟩; exact ⟨j, by omega, rfl⟩
      · rintro ⟨j, hj, rfl⟩
        by_cases e : j = m
        · exact ⟨m - 1, by omega, by rw [e, he.2]⟩
        · exact ⟨j, by omega, rfl⟩
theorem compact_puts (l : List Int) : Lib.compact (sorted l) = puts [] l := by
  have hs : ∀ i j, i ≤ j → j < (sorted l).toArray.size → (sorted l).toArray[i]! ≤ (sorted l).toArray[j]! := by
    intro i j hij hj
    rw [List.size_toArray] at hj
    rw [getElem!_pos _ i (by simpa using (by omega : i < (sorted l).length)), getElem!_pos _ j (by simpa using hj)]
    simp only [List.getElem_toArray]
    rcases Nat.lt_or_eq_of_le hij with h | h
    · exact List.pairwise_iff_getElem.1 (sorted_pairwise l) i j (by omega) hj h
    · subst h; exact Int.le_refl _
  obtain ⟨h1, h2⟩ := compactUpTo_sorted (sorted l).toArray hs (sorted l).length (by simp)
  refine sorted_ext h1 (puts_sorted l [] List.Pairwise.nil) fun x => ?_
  rw [Lib.compact, h2, puts_mem]
  constructor
  · rintro ⟨j, hj, rfl⟩
    right
    rw [getElem!_pos _ j (by simpa using hj)]
    simp only [List.getElem_toArray]
    exact (sorted_perm l).mem_iff.1 (List.getElem_mem _)
  · rintro (h | h)
    · cases h
    · obtain ⟨j, hj, rfl⟩ := List.getElem_of_mem ((sorted_perm l).mem_iff.2 h)
      exact ⟨j, hj, by rw [getElem!_pos _ j (by simpa using hj)]; simp⟩
theorem compact_length_le {l : List Int} : (Lib.compact l).length ≤ l.length := by
  have : ∀ (d : Array Int) m, (Lib.compactUpTo d m).length ≤ m := by
    intro d m
    induction m with
    | zero => simp [Lib.compactUpTo]
    | succ m ih => rw [Lib.compactUpTo_succ, List.length_append]; split <;> simp <;> omega
  exact this _ _
theorem compact_spec (w : World) (base : Nat) (v : Value) (xs : List Int) (hown : Own w base 3 v (intVs xs)) (hl : xs.length ≤ 17592186044416) :
    Calls Try.prog 114 #[v] w fun e w' => ∃ v', e = .returned v' ∧ Ints w' v' (Lib.compact xs) ∧ w.grownBy w' v.ownBlock := by
  have hcells := Own.cells hown
  rcases hown.2 with ⟨hv, hn⟩ | ⟨g, cap, cur, hv, hbase, hb, h1, h2, h3, h4⟩
  · rw [intVs_len] at hn
    obtain rfl := List.eq_nil_of_length_eq_zero hn
    subst hv
    refine (Try.slices_Compact_int_empty none 0 w).mono ?_
    rintro e w' ⟨rfl, rfl⟩
    refine ⟨_, rfl, ?_, World.grownBy.refl _ _⟩
    rw [show Lib.compact ([] : List Int) = [] from rfl]
    exact Ints.nil' _ _
  · rw [intVs_len] at hv h1 h4
    subst hv
    have hcell : ∀ j, j < xs.length → w.cell? ⟨g, 0 + j, none⟩ = some (.int .i64 (xs.getD j 0)) := by
      intro j hj
      obtain ⟨a', c', e, _, hcc⟩ := hcells
      injection e with e1 e2 e3
      obtain ⟨ad, e4, hcj⟩ := hcc j (by rw [intVs_len]; exact hj)
      rw [← e1] at e4
      injection e4 with e4
      subst e4
      rw [add_plain] at hcj
      rw [Nat.zero_add, hcj]
      simp [intVs, List.getD_eq_getElem?_getD, List.getElem?_eq_getElem hj]
    have hf : ∀ j, j < xs.length → w.frozen? ⟨g, 0 + j, none⟩ = false := fun j hj => by
      have hown' := hown
      unfold Own at hown'
      rw [intVs_len] at hown'
      have := hown'.frozenAt (g := g) (0 + j)
      simpa using this
    refine (Try.slices_Compact_int_cells g 0 xs.length cap xs w (Nat.le_refl _) (by omega) h1 hcell hf).mono ?_
    rintro e w' ⟨rfl, q, rfl⟩
    rw [List.take_length]
    have hcl := @compact_length_le xs
    refine ⟨_, rfl, ⟨_, cap, rfl, by omega, by omega, fun i hi => ⟨_, _, rfl, ?_, rfl⟩⟩, ?_⟩
    · rw [add_plain]
      have hin := World.cell?_setCells_in g ((Lib.compact xs ++ List.replicate (xs.length - (Lib.compact xs).length) 0).map (Value.int .i64)) 0 (w.drewN q) (fun j hj => by
        simp only [List.length_map, List.length_append, List.length_replicate] at hj
        have := hcell j (by omega)
        show (w.cell? _).isSome = true
        rw [this]; rfl) i (by simp; omega)
      rw [Nat.zero_add] at hin
      rw [hin, List.getElem_map, List.getElem_append_left hi]
    · exact World.grownBy.trans ((Same.refl w).drewN q |>.grownBy _) (setCells_grown g _ 0 _)
end Go.Proofs.Ytmnpbopkhpbhiaa
