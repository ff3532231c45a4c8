/- Plain laws: both checks of a formula agree; how many leaves, how many people. -/
import Derived.Test.YtmnpbopkhpbhiaaRefCheck
import Derived.Test.YtmnpbopkhpbhiaaRefGather
import Derived.Test.YtmnpbopkhpbhiaaHoldsFn
set_option linter.unusedVariables false
set_option linter.unusedSimpArgs false
namespace Go.Proofs.Ytmnpbopkhpbhiaa
open Go.RowKit
mutual
/-- How many leaves there are. -/
def Gt.lvs : Gt → Int
  | .mk _ _ l => if l.length = 0 then 1 else lvsL l
def lvsL : List Gt → Int
  | [] => 0
  | g :: gs => g.lvs + lvsL gs
end
mutual
theorem lvs_pos : ∀ g : Gt, 1 ≤ g.lvs
  | .mk p n l => by
    rw [Gt.lvs]
    split
    · omega
    · rename_i h
      exact lvsL_pos l (by simpa using h)
theorem lvsL_pos : ∀ l : List Gt, l ≠ [] → 1 ≤ lvsL l
  | [], h => absurd rfl h
  | g :: gs, _ => by
    have := lvs_pos g
    have := lvsL_nn gs
    rw [lvsL]; omega
theorem lvsL_nn : ∀ l : List Gt, 0 ≤ lvsL l
  | [] => by rw [lvsL]; omega
  | g :: gs => by
    have := lvs_pos g
    have := lvsL_nn gs
    rw [lvsL]; omega
end
theorem lvL_ge : ∀ (l : List Gt) (lim n : Int), n ≤ lvL l lim n
  | [], lim, n => by rw [lvL]; omega
  | g :: gs, lim, n => by
    rw [lvL]
    split
    · have := lvL_ge gs lim (n + g.lv (lim - n))
      have := (lv_bound g (lim - n) (by omega)).1
      omega
    · omega
mutual
theorem lv_eq : ∀ (g : Gt) (lim : Int), 0 ≤ lim → (g.lv lim ≤ lim → g.lv lim = g.lvs) ∧ (g.lvs ≤ lim → g.lv lim = g.lvs)
  | .mk p n l, lim, h0 => by
    rw [Gt.lv, Gt.lvs]
    split
    · exact ⟨fun _ => rfl, fun _ => rfl⟩
    · have := lvL_eq l lim 0 (by omega) h0
      exact ⟨fun h => by have := this.1 h; omega, fun h => by have := this.2 (by omega); omega⟩
theorem lvL_eq : ∀ (l : List Gt) (lim n : Int), 0 ≤ n → n ≤ lim → (lvL l lim n ≤ lim → lvL l lim n = n + lvsL l) ∧ (n + lvsL l ≤ lim → lvL l lim n = n + lvsL l)
  | [], lim, n, h0, h1 => by rw [lvL, lvsL]; exact ⟨fun _ => by omega, fun _ => by omega⟩
  | g :: gs, lim, n, h0, h1 => by
    rw [lvL, lvsL, if_pos h1]
    have hg := lv_eq g (lim - n) (by omega)
    have hge := lvL_ge gs lim (n + g.lv (lim - n))
    have hb := lv_bound g (lim - n) (by omega)
    have hnn := lvsL_nn gs
    refine ⟨fun h => ?_, fun h => ?_⟩
    · have he := hg.1 (by omega)
      have ih := (lvL_eq gs lim (n + g.lv (lim - n)) (by omega) (by omega)).1 h
      omega
    · have he := hg.2 (by omega)
      have ih := (lvL_eq gs lim (n + g.lv (lim - n)) (by omega) (by omega)).2 (by omega)
      omega
end
theorem lv_gt (g : Gt) (lim : Int) (h : 0 ≤ lim) : lim < g.lv lim ↔ lim < g.lvs := by
  have := lv_eq g lim h
  constructor
  · intro h1
    rcases Int.lt_or_le lim g.lvs with h2 | h2
    · exact h2
    · have := this.2 h2; omega
  · intro h1
    rcases Int.lt_or_le lim (g.lv lim) with h2 | h2
    · exact h2
    · have := this.1 h2; omega
mutual
theorem walk_eq : ∀ (g : Gt) (d : Nat) (c : Int), 0 ≤ c → 1 ≤ d → d ≤ 17 → ((g.walk d c).1 = true ↔ g.deep (17 - d) = true ∨ c < g.lvs) ∧ ((g.walk d c).1 = false → (g.walk d c).2 = c - g.lvs)
  | .mk p n l, d, c, hc, h1, h2 => by
    rw [Gt.walk, Gt.lvs]
    by_cases hd : d = 17
    · subst hd
      rw [if_pos (by omega)]
      simp [Gt.deep]
    · rw [if_neg (by omega)]
      obtain ⟨m, hm⟩ : ∃ m, 17 - d = m + 1 := ⟨16 - d, by omega⟩
      rw [hm, Gt.deep]
      by_cases hl : l = []
      · subst hl
        simp [deepL]
        omega
      · have he : l.isEmpty = false := by cases l <;> simp_all
        have hln : ¬ l.length = 0 := by simpa using hl
        rw [he, if_neg (by simp), if_neg hln]
        have := walkL_eq l (d + 1) c hc (by omega) (by omega)
        rw [show 17 - (d + 1) = m from by omega] at this
        exact_mod_cast this
theorem walkL_eq : ∀ (l : List Gt) (d : Nat) (c : Int), 0 ≤ c → 1 ≤ d → d ≤ 17 → ((walkL l d c).1 = true ↔ deepL l (17 - d) = true ∨ c < lvsL l) ∧ ((walkL l d c).1 = false → (walkL l d c).2 = c - lvsL l)
  | [], d, c, hc, h1, h2 => by
    rw [walkL, deepL, lvsL]
    simp
    omega
  | g :: gs, d, c, hc, h1, h2 => by
    have hg := walk_eq g d c hc h1 h2
    have hnn := lvsL_nn gs
    have hp := lvs_pos g
    rw [walkL, deepL, lvsL]
    cases hw : (g.walk d c).1 with
    | true =>
      rw [hw] at hg
      rw [if_pos rfl]
      refine ⟨⟨fun _ => ?_, fun _ => hw⟩, fun h => by rw [hw] at h; cases h⟩
      rcases hg.1.1 rfl with h | h
      · left; simp [h]
      · right; omega
    | false =>
      have hr := hg.2 hw
      rw [hw] at hg
      have hdn : g.deep (17 - d) = false := by
        cases hx : g.deep (17 - d) with
        | false => rfl
        | true => exact absurd (hg.1.2 (.inl hx)) (by simp)
      have hcn : ¬ c < g.lvs := fun hx => absurd (hg.1.2 (.inr hx)) (by simp)
      rw [if_neg (by simp), hr, hdn]
      have ih := walkL_eq gs d (c - g.lvs) (by omega) h1 h2
      refine ⟨?_, fun h => by have := ih.2 h; omega⟩
      rw [ih.1, Bool.false_or]
      constructor
      · rintro (h | h)
        · exact .inl h
        · right; omega
      · rintro (h | h)
        · exact .inl h
        · right; omega
end
/-- Both checks of a formula agree. -/
theorem check_eq (g : Gt) : g.rcheck = g.check := by
  unfold Gt.rcheck Gt.check
  have h := (walk_eq g 1 256 (by omega) (by omega) (by omega)).1
  rw [show (17 - 1 : Nat) = 16 from rfl, show ((1 : Nat) : Int) = 1 from rfl] at h
  have h2 := lv_gt g 256 (by omega)
  by_cases hw : (g.walk 1 256).1 = true
  · rw [if_pos hw, if_pos (by rw [h2]; exact h.1 hw)]
  · rw [if_neg hw, if_neg (by rw [h2]; exact fun x => hw (h.2 x))]
mutual
theorem ppl_lvs : ∀ g : Gt, (g.ppl.length : Int) ≤ g.lvs
  | .mk p n l => by
    rw [Gt.ppl]
    split
    · have := lvs_pos (.mk p n l)
      simpa using this
    · rw [Gt.lvs]
      have := pplL_lvs l
      split
      · rename_i h
        obtain rfl : l = [] := by simpa using h
        simp [pplL]
      · exact this
theorem pplL_lvs : ∀ l : List Gt, ((pplL l).length : Int) ≤ lvsL l
  | [] => by simp [pplL, lvsL]
  | g :: gs => by
    have := ppl_lvs g
    have := pplL_lvs gs
    rw [pplL, lvsL, List.length_append]
    omega
end
theorem check_lvs {g : Gt} (h : g.rcheck = 0) : g.lvs ≤ 256 := by
  unfold Gt.rcheck at h
  have h2 := lv_gt g 256 (by omega)
  split at h
  · omega
  · rename_i h3
    rw [h2] at h3
    rcases Int.lt_or_le 256 g.lvs with h4 | h4
    · exact absurd (.inr h4) h3
    · exact h4
theorem ppl_check {g : Gt} (h : g.rcheck = 0) : g.ppl.length ≤ 256 := by
  have := check_lvs h
  have := ppl_lvs g
  omega
theorem rcheck_right {g : Gt} (h : g.rcheck = 0) : g.right = true := by rw [check_eq] at h; exact check_right h
end Go.Proofs.Ytmnpbopkhpbhiaa
