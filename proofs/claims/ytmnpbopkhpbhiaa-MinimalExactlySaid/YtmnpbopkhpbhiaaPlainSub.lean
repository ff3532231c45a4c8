/- Plain laws: which sets there are, in which order; for whom a formula holds. -/
import Derived.Test.YtmnpbopkhpbhiaaRefAll
import Derived.Test.YtmnpbopkhpbhiaaRefSmall
import Derived.Test.YtmnpbopkhpbhiaaPlainPuts
import Derived.Test.YtmnpbopkhpbhiaaRecs
set_option linter.unusedVariables false
set_option linter.unusedSimpArgs false
namespace Go.Proofs.Ytmnpbopkhpbhiaa
open Go.RowKit
theorem sorted_of (l : List Int) (h : l.Pairwise (· < ·)) : sorted l = l := by
  unfold sorted
  exact List.mergeSort_of_pairwise (h.imp fun h => by simpa using Int.le_of_lt h)
theorem rerr_ppl {g : Gt} (h : g.rerr = 0) : g.rpeople.length ≤ 12 := by
  unfold Gt.rerr at h
  split at h
  · exact absurd h (by assumption)
  · split at h <;> omega
theorem allTo_len (xs : List Int) : ∀ (k : Nat) (y : List Int), y ∈ allTo xs k → y.length ≤ k
  | 0, y, h => by simp [allTo] at h
  | k + 1, y, h => by
    rw [allTo, List.mem_append] at h
    rcases h with h | h
    · have := allTo_len xs k y h; omega
    · have := chooseL_len xs k y h; omega
theorem allR_len {xs : List Int} (h : xs.length ≤ 12) {y : List Int} (hy : y ∈ allR xs) : y.length ≤ 13 := by
  have := allTo_len xs (xs.length + 1) y hy
  omega
theorem allR_count {xs : List Int} (h : xs.length ≤ 12) : (allR xs).length ≤ 60000 := by
  have := allTo_count xs h (xs.length + 1)
  unfold allR
  omega
/-! ### The sets -/
theorem chooseL_mem : ∀ (l : List Int) (m : Nat) (x : List Int), x ∈ chooseL m l ↔ x.Sublist l ∧ x.length = m
  | l, 0, x => by
    have : chooseL 0 l = [[]] := by cases l <;> simp [chooseL]
    rw [this, List.mem_singleton]
    constructor
    · rintro rfl; exact ⟨List.nil_sublist _, rfl⟩
    · rintro ⟨_, h⟩; exact List.eq_nil_of_length_eq_zero h
  | [], m + 1, x => by
    simp only [chooseL, List.not_mem_nil, false_iff, not_and]
    intro h
    rw [List.sublist_nil.1 h]; simp
  | y :: ys, m + 1, x => by
    simp only [chooseL, List.mem_append, List.mem_map, chooseL_mem ys m, chooseL_mem ys (m + 1), List.sublist_cons_iff]
    constructor
    · rintro (⟨z, ⟨hz, hl⟩, rfl⟩ | ⟨h, hl⟩)
      · exact ⟨.inr ⟨z, rfl, hz⟩, by simp [hl]⟩
      · exact ⟨.inl h, hl⟩
    · rintro ⟨h | ⟨r, rfl, h⟩, hl⟩
      · exact .inr ⟨h, hl⟩
      · exact .inl ⟨r, ⟨h, by simpa using hl⟩, rfl⟩
theorem allTo_mem (l : List Int) (x : List Int) : ∀ k, x ∈ allTo l k ↔ x.Sublist l ∧ x.length < k
  | 0 => by simp [allTo]
  | k + 1 => by
    rw [allTo, List.mem_append, allTo_mem l x k, chooseL_mem]
    constructor
    · rintro (⟨h, h'⟩ | ⟨h, h'⟩)
      · exact ⟨h, by omega⟩
      · exact ⟨h, by omega⟩
    · rintro ⟨h, h'⟩
      by_cases e : x.length = k
      · exact .inr ⟨h, e⟩
      · exact .inl ⟨h, by omega⟩
theorem allR_mem (l x : List Int) : x ∈ allR l ↔ x.Sublist l := by
  rw [allR, allTo_mem]
  exact ⟨fun h => h.1, fun h => ⟨h, by have := h.length_le; omega⟩⟩
theorem lexB_irrefl : ∀ a : List Int, lexB a a = false
  | [] => rfl
  | x :: xs => by simp [lexB, lexB_irrefl xs]
theorem lexB_asymm : ∀ a b : List Int, lexB a b = true → lexB b a = false
  | [], _, h => by simp [lexB] at h
  | _ :: _, [], h => by simp [lexB] at h
  | x :: xs, y :: ys, h => by
    simp only [lexB] at h ⊢
    by_cases e : x = y
    · rw [if_pos e] at h
      rw [if_pos e.symm]
      exact lexB_asymm xs ys h
    · rw [if_neg e] at h
      rw [if_neg fun e' => e e'.symm]
      simp only [decide_eq_true_eq] at h
      simp; omega
theorem beforeB_irrefl (a : List Int) : beforeB a a = false := by rw [beforeB, if_pos rfl, lexB_irrefl]
theorem beforeB_asymm (a b : List Int) (h : beforeB a b = true) : beforeB b a = false := by
  unfold beforeB at h ⊢
  by_cases e : a.length = b.length
  · rw [if_pos e] at h
    rw [if_pos e.symm]
    exact lexB_asymm a b h
  · rw [if_neg e] at h
    rw [if_neg fun e' => e e'.symm]
    simp only [decide_eq_true_eq] at h
    simp; omega
theorem beforeB_le {a b : List Int} (h : beforeB a b = true) : a.length ≤ b.length := by
  unfold beforeB at h
  by_cases e : a.length = b.length
  · omega
  · rw [if_neg e] at h
    simp only [decide_eq_true_eq] at h
    omega
theorem chooseL_order : ∀ (l : List Int) (m : Nat), l.Pairwise (· < ·) → (chooseL m l).Pairwise fun a b => lexB a b = true
  | l, 0, _ => by
    have : chooseL 0 l = [[]] := by cases l <;> simp [chooseL]
    rw [this]; simp
  | [], m + 1, _ => by simp [chooseL]
  | y :: ys, m + 1, h => by
    simp only [List.pairwise_cons] at h
    rw [chooseL, List.pairwise_append]
    refine ⟨?_, chooseL_order ys (m + 1) h.2, ?_⟩
    · rw [List.pairwise_map]
      exact (chooseL_order ys m h.2).imp fun {a b} hab => by simpa [lexB] using hab
    · intro a ha b hb
      obtain ⟨a', ha', rfl⟩ := List.mem_map.1 ha
      obtain ⟨hs, hl⟩ := (chooseL_mem ys (m + 1) b).1 hb
      match b, hl, hs with
      | z :: b', _, hs =>
        have hz : z ∈ ys := hs.subset (by simp)
        have hlt := h.1 z hz
        simp only [lexB]
        rw [if_neg (by omega)]
        simpa using hlt
theorem allTo_order (l : List Int) (h : l.Pairwise (· < ·)) : ∀ k, (allTo l k).Pairwise fun a b => beforeB a b = true
  | 0 => by simp [allTo]
  | k + 1 => by
    rw [allTo, List.pairwise_append]
    refine ⟨allTo_order l h k, ?_, ?_⟩
    · refine (List.Pairwise.and_mem.1 (chooseL_order l k h)).imp ?_
      rintro a b ⟨ha, hb, hab⟩
      rw [beforeB, if_pos (by rw [((chooseL_mem l k a).1 ha).2, ((chooseL_mem l k b).1 hb).2])]
      exact hab
    · intro a ha b hb
      have h1 := ((allTo_mem l a k).1 ha).2
      have h2 := ((chooseL_mem l k b).1 hb).2
      rw [beforeB, if_neg (by omega)]
      simp; omega
theorem allR_order {l : List Int} (h : l.Pairwise (· < ·)) : (allR l).Pairwise fun a b => beforeB a b = true := allTo_order l h _
/-! ### For whom a formula holds -/
mutual
theorem holds_mono (a b : List Int) : ∀ g : Gt, (∀ p ∈ g.ppl, p ∈ a → p ∈ b) → g.holds a = true → g.holds b = true
  | .mk p n l => by
    intro h h1
    rw [Gt.holds] at h1 ⊢
    rw [Gt.ppl] at h
    by_cases hp : 0 ≤ p
    · rw [if_pos hp] at h h1 ⊢
      simp only [decide_eq_true_eq] at h1 ⊢
      exact h p (by simp) h1
    · rw [if_neg hp] at h h1 ⊢
      simp only [decide_eq_true_eq] at h1 ⊢
      have := holdsL_mono a b l h
      omega
theorem holdsL_mono (a b : List Int) : ∀ l : List Gt, (∀ p ∈ pplL l, p ∈ a → p ∈ b) → holdsL a l ≤ holdsL b l
  | [] => by intro _; simp [holdsL]
  | g :: gs => by
    intro h
    rw [pplL] at h
    have h1 := holds_mono a b g fun p hp => h p (List.mem_append.2 (.inl hp))
    have h2 := holdsL_mono a b gs fun p hp => h p (List.mem_append.2 (.inr hp))
    rw [holdsL, holdsL]
    by_cases e : g.holds a = true
    · rw [if_pos e, if_pos (h1 e)]; omega
    · rw [if_neg e]; split <;> omega
end
theorem holds_congr {g : Gt} {a b : List Int} (h : ∀ p ∈ g.ppl, p ∈ a ↔ p ∈ b) : g.holds a = g.holds b := by
  rw [Bool.eq_iff_iff]
  exact ⟨holds_mono a b g fun p hp => (h p hp).1, holds_mono b a g fun p hp => (h p hp).2⟩
mutual
theorem holds_nobody : ∀ g : Gt, g.right = true → g.holds [] = false
  | .mk p n l => by
    intro h
    rw [Gt.right] at h
    rw [Gt.holds]
    by_cases hp : 0 ≤ p
    · rw [if_pos hp]; simp
    · rw [if_neg hp] at h ⊢
      simp only [Bool.and_eq_true, decide_eq_true_eq] at h
      rw [holdsL_nobody l h.2.2.2]
      simp; omega
theorem holdsL_nobody : ∀ l : List Gt, rightL l = true → holdsL [] l = 0
  | [] => by intro _; simp [holdsL]
  | g :: gs => by
    intro h
    simp only [rightL, Bool.and_eq_true] at h
    rw [holdsL, holds_nobody g h.1, holdsL_nobody gs h.2]; simp
end
mutual
theorem ppl_range : ∀ g : Gt, g.right = true → ∀ p ∈ g.ppl, 0 ≤ p ∧ p < 64
  | .mk p n l => by
    intro h q hq
    rw [Gt.right] at h
    rw [Gt.ppl] at hq
    by_cases hp : 0 ≤ p
    · rw [if_pos hp] at h hq
      simp only [Bool.and_eq_true, decide_eq_true_eq] at h
      rw [List.mem_singleton.1 hq]
      exact ⟨hp, h.1⟩
    · rw [if_neg hp] at h hq
      simp only [Bool.and_eq_true, decide_eq_true_eq] at h
      exact pplL_range l h.2.2.2 q hq
theorem pplL_range : ∀ l : List Gt, rightL l = true → ∀ p ∈ pplL l, 0 ≤ p ∧ p < 64
  | [] => by intro _ q hq; simp [pplL] at hq
  | g :: gs => by
    intro h q hq
    simp only [rightL, Bool.and_eq_true] at h
    rw [pplL, List.mem_append] at hq
    rcases hq with hq | hq
    · exact ppl_range g h.1 q hq
    · exact pplL_range gs h.2 q hq
end
theorem peopleFrom_iff : ∀ (l : List Int) (last : Int), peopleFrom last l = true ↔ l.Pairwise (· < ·) ∧ ∀ x ∈ l, last < x ∧ x < 64
  | [], last => by simp [peopleFrom]
  | y :: ys, last => by
    simp only [peopleFrom, Bool.and_eq_true, decide_eq_true_eq, peopleFrom_iff ys y, List.pairwise_cons, List.mem_cons]
    constructor
    · rintro ⟨h1, h2, h3, h4⟩
      refine ⟨⟨fun z hz => (h4 z hz).1, h3⟩, ?_⟩
      rintro x (rfl | hx)
      · exact ⟨h1, h2⟩
      · have := h4 x hx; omega
    · rintro ⟨⟨h1, h2⟩, h3⟩
      exact ⟨(h3 y (.inl rfl)).1, (h3 y (.inl rfl)).2, h2, fun x hx => ⟨h1 x hx, (h3 x (.inr hx)).2⟩⟩
theorem peopleFrom_sub {a b : List Int} (h : peopleFrom (-1) b = true) (hs : a.Sublist b) : peopleFrom (-1) a = true := by
  rw [peopleFrom_iff] at h ⊢
  exact ⟨h.1.sublist hs, fun x hx => h.2 x (hs.subset hx)⟩
theorem minus_mem (l out : List Int) (x : Int) : x ∈ minus l out ↔ x ∈ l ∧ x ∉ out := by simp [minus, List.mem_filter]
theorem both_mem (l out : List Int) (x : Int) : x ∈ both l out ↔ x ∈ l ∧ x ∈ out := by simp [both, List.mem_filter]
theorem minus_sub (l out : List Int) : (minus l out).Sublist l := List.filter_sublist
theorem both_sub (l out : List Int) : (both l out).Sublist l := List.filter_sublist
theorem minus_nil {l out : List Int} (h : ∀ x ∈ l, x ∈ out) : minus l out = [] := List.filter_eq_nil_iff.2 fun x hx => by simp [h x hx]
theorem both_nil {l out : List Int} (h : ∀ x ∈ l, x ∉ out) : both l out = [] := List.filter_eq_nil_iff.2 fun x hx => by simp [h x hx]
theorem rpeople_ok {g : Gt} (h : g.right = true) : peopleFrom (-1) g.rpeople = true := by
  rw [peopleFrom_iff]
  refine ⟨rpeople_sorted g, fun x hx => ?_⟩
  have := ppl_range g h x ((rpeople_mem g x).1 hx)
  omega
theorem rHolds_ok {g : Gt} (hc : g.rcheck = 0) {who : List Int} (h : peopleFrom (-1) who = true) : g.rHolds who = (g.holds who, 0) := by
  unfold Gt.rHolds
  rw [if_neg (by simp [hc]), if_pos h]
/-- Two increasing lists with the same elements. -/
theorem sorted_ext {a b : List Int} (ha : a.Pairwise (· < ·)) (hb : b.Pairwise (· < ·)) (h : ∀ x, x ∈ a ↔ x ∈ b) : a = b := by
  have hp : a.Perm b := (List.perm_ext_iff_of_nodup (ha.imp fun h => by omega) (hb.imp fun h => by omega)).2 h
  rw [← sorted_of a ha, ← sorted_of b hb, sorted_eq_of_perm hp]
/-- An increasing list whose elements are among another one's is a part of it. -/
theorem sorted_sub {a b : List Int} (ha : a.Pairwise (· < ·)) (hb : b.Pairwise (· < ·)) (h : ∀ x ∈ a, x ∈ b) : a.Sublist b := by
  have : a = b.filter fun x => decide (x ∈ a) := sorted_ext ha (hb.sublist List.filter_sublist) fun x => by
    simp only [List.mem_filter, decide_eq_true_eq]
    exact ⟨fun hx => ⟨h x hx, hx⟩, fun hx => hx.2⟩
  rw [this]; exact List.filter_sublist
end Go.Proofs.Ytmnpbopkhpbhiaa
