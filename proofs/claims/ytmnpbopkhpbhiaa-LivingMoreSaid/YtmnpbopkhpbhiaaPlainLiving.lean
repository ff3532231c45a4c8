/- Plain laws of layer 51: the program's answers are the reference's. -/
import Derived.Test.YtmnpbopkhpbhiaaRefMargin
import Derived.Test.YtmnpbopkhpbhiaaRefDead
import Derived.Test.YtmnpbopkhpbhiaaMargin
set_option linter.unusedVariables false
set_option linter.unusedSimpArgs false
namespace Go.Proofs.Ytmnpbopkhpbhiaa
open Go.RowKit
/-! ### People -/
mutual
theorem leafs_ppl : ∀ g : Gt, g.right = true → g.leafs = g.ppl
  | .mk p n l => by
    intro h
    rw [Gt.right] at h
    rw [Gt.leafs, Gt.ppl]
    by_cases hp : 0 ≤ p
    · rw [if_pos hp] at h
      simp only [Bool.and_eq_true, List.isEmpty_iff] at h
      rw [if_pos hp, if_pos hp, h.2.2]
      simp [leafsL]
    · rw [if_neg hp] at h
      simp only [Bool.and_eq_true] at h
      rw [if_neg hp, if_neg hp, List.nil_append]
      exact leafsL_pplL l h.2.2.2
theorem leafsL_pplL : ∀ l : List Gt, rightL l = true → leafsL l = pplL l
  | [] => by simp [leafsL, pplL]
  | g :: gs => by
    intro h
    simp only [rightL, Bool.and_eq_true] at h
    rw [leafsL, pplL, leafs_ppl g h.1, leafsL_pplL gs h.2]
end
theorem put_mem (n : Int) : ∀ (l : List Int) (x : Int), x ∈ put l n ↔ x = n ∨ x ∈ l
  | [], x => by simp [put]
  | y :: ys, x => by
    simp only [put]
    split
    · simp only [List.mem_cons, put_mem n ys x]
      constructor
      · rintro (h | h | h)
        · exact .inr (.inl h)
        · exact .inl h
        · exact .inr (.inr h)
      · rintro (h | h | h)
        · exact .inr (.inl h)
        · exact .inl h
        · exact .inr (.inr h)
    · split
      · rename_i h
        subst h
        simp
      · simp
theorem put_sorted (n : Int) : ∀ (l : List Int), l.Pairwise (· < ·) → (put l n).Pairwise (· < ·)
  | [], _ => by simp [put]
  | y :: ys, h => by
    simp only [List.pairwise_cons] at h
    simp only [put]
    split
    · rename_i hlt
      refine List.pairwise_cons.2 ⟨fun z hz => ?_, put_sorted n ys h.2⟩
      rcases (put_mem n ys z).1 hz with rfl | hz
      · exact hlt
      · exact h.1 z hz
    · split
      · exact List.pairwise_cons.2 h
      · refine List.pairwise_cons.2 ⟨fun z hz => ?_, List.pairwise_cons.2 h⟩
        rcases List.mem_cons.1 hz with rfl | hz
        · omega
        · have := h.1 z hz; omega
theorem puts_mem (l : List Int) : ∀ (acc : List Int) (x : Int), x ∈ puts acc l ↔ x ∈ acc ∨ x ∈ l := by
  induction l with
  | nil => intro acc x; simp [puts]
  | cons y ys ih =>
    intro acc x
    have := ih (put acc y) x
    simp only [puts, List.foldl_cons] at this ⊢
    rw [this, put_mem, List.mem_cons]
    constructor
    · rintro ((h | h) | h)
      · exact .inr (.inl h)
      · exact .inl h
      · exact .inr (.inr h)
    · rintro (h | h | h)
      · exact .inl (.inr h)
      · exact .inl (.inl h)
      · exact .inr h
theorem puts_sorted (l : List Int) : ∀ (acc : List Int), acc.Pairwise (· < ·) → (puts acc l).Pairwise (· < ·) := by
  induction l with
  | nil => intro acc h; simpa [puts] using h
  | cons y ys ih => intro acc h; simp only [puts, List.foldl_cons]; exact ih _ (put_sorted y acc h)
theorem addKeys_mem (l : List Int) : ∀ (ks : List Int) (x : Int), x ∈ addKeys ks l ↔ x ∈ ks ∨ x ∈ l := by
  induction l with
  | nil => intro ks x; simp [addKeys]
  | cons y ys ih =>
    intro ks x
    have := ih (addKey ks y) x
    simp only [addKeys, List.foldl_cons] at this ⊢
    rw [this, List.mem_cons, addKey]
    split
    · rename_i h
      constructor
      · rintro (h' | h')
        · exact .inl h'
        · exact .inr (.inr h')
      · rintro (h' | h' | h')
        · exact .inl h'
        · subst h'; exact .inl h
        · exact .inr h'
    · simp only [List.mem_append, List.mem_singleton]
      constructor
      · rintro ((h' | h') | h')
        · exact .inl h'
        · exact .inr (.inl h')
        · exact .inr (.inr h')
      · rintro (h' | h' | h')
        · exact .inl (.inl h')
        · exact .inl (.inr h')
        · exact .inr h'
theorem addKeys_nodup (l : List Int) : ∀ (ks : List Int), ks.Nodup → (addKeys ks l).Nodup := by
  induction l with
  | nil => intro ks h; simpa [addKeys] using h
  | cons y ys ih =>
    intro ks h
    simp only [addKeys, List.foldl_cons]
    refine ih _ ?_
    rw [addKey]
    split
    · exact h
    · rename_i hy
      rw [List.nodup_append]
      exact ⟨h, by simp, fun a ha b hb => by rw [List.mem_singleton] at hb; subst hb; intro e; subst e; exact hy ha⟩
theorem puts_nodup (l : List Int) : (puts [] l).Nodup := (puts_sorted l [] List.Pairwise.nil).imp (fun h => by omega)
theorem keys_perm (l : List Int) : (addKeys [] l).Perm (puts [] l) :=
  (List.perm_ext_iff_of_nodup (addKeys_nodup l [] List.nodup_nil) (puts_nodup l)).2 fun x => by rw [addKeys_mem, puts_mem]
theorem sorted_of (l : List Int) (h : l.Pairwise (· < ·)) : sorted l = l := by
  unfold sorted
  exact List.mergeSort_of_pairwise (h.imp fun h => by simpa using Int.le_of_lt h)
theorem sorted_keys (l : List Int) : sorted (addKeys [] l) = puts [] l := by
  rw [sorted_eq_of_perm (keys_perm l), sorted_of _ (puts_sorted l [] List.Pairwise.nil)]
theorem people_eq {g : Gt} (h : g.right = true) : g.people = g.rpeople := by
  rw [Gt.people, Gt.rpeople, leafs_ppl g h, sorted_keys]
theorem rpeople_sorted (g : Gt) : g.rpeople.Pairwise (· < ·) := puts_sorted _ _ List.Pairwise.nil
theorem rpeople_mem (g : Gt) (x : Int) : x ∈ g.rpeople ↔ x ∈ g.ppl := by rw [Gt.rpeople, puts_mem]; simp
/-! ### Errors -/
theorem lcheck_eq (g : Gt) (alive : List Int) : g.lcheck alive = g.rerr51 alive := by
  unfold Gt.lcheck Gt.rerr51 Gt.rerr
  rw [check_eq]
  by_cases hc : g.check = 0
  · have hl : (addKeys [] g.leafs).length = g.rpeople.length := by
      rw [leafs_ppl g (check_right hc), (keys_perm g.ppl).length_eq]; rfl
    simp only [hc, hl]
    by_cases h12 : 12 < g.rpeople.length <;> simp [h12]
  · simp [hc]
theorem can_eq (g : Gt) (who : List Int) : g.can who = (g.rHolds who).1 := by
  rw [rHolds_eq]
  unfold Gt.can Gt.Holds
  by_cases hc : g.check = 0
  · by_cases hp : peopleFrom (-1) who = true <;> simp [hc, hp]
  · simp [hc]
/-! ### The sets, in order -/
theorem popc_top : ∀ m, m < 12 → ∀ s, s < 2048 → s < 2 ^ m → popc 12 (2 ^ m + s) = 1 + popc 12 s := by decide +kernel
theorem lvD_flat (ps : List Int) (size : Nat) : ∀ d, lvD ps size d = (List.range d).flatMap fun i => if popc 12 (2 ^ ps.length - 1 - i) = size then [selD ps (2 ^ ps.length - 1 - i) ps.length] else []
  | 0 => by simp [lvD]
  | d + 1 => by rw [lvD, lvD_flat ps size d, List.range_succ, List.flatMap_append]; simp
theorem bit_low (s n k : Nat) (h : k < n) : s % 2 ^ n / 2 ^ k % 2 = s / 2 ^ k % 2 := by
  have h1 := Nat.testBit_mod_two_pow s n k
  rw [Nat.testBit_eq_decide_div_mod_eq, Nat.testBit_eq_decide_div_mod_eq] at h1
  simp only [h, decide_true, Bool.true_and, decide_eq_decide] at h1
  omega
theorem selD_cons (p : Int) (ps : List Int) (s : Nat) : ∀ j, j ≤ ps.length → selD (p :: ps) s (j + 1) = (if s / 2 ^ ps.length % 2 = 1 then [p] else []) ++ selD ps (s % 2 ^ ps.length) j
  | 0, _ => by simp [selD]
  | j + 1, h => by
    rw [selD, selD_cons p ps s j (by omega), selD, List.append_assoc]
    congr 2
    simp only [List.length_cons, List.getD_cons_succ]
    rw [bit_low s ps.length (ps.length - 1 - j) (by omega), show ps.length + 1 - 1 - (j + 1) = ps.length - 1 - j from by omega]
theorem flat_congr {α β : Type} {f g : α → List β} : ∀ (l : List α), (∀ a ∈ l, f a = g a) → l.flatMap f = l.flatMap g
  | [], _ => rfl
  | a :: l, h => by
    rw [List.flatMap_cons, List.flatMap_cons, h a (List.mem_cons_self ..), flat_congr l fun b hb => h b (List.mem_cons_of_mem _ hb)]
theorem lvD_choose (ps : List Int) : ps.length ≤ 12 → ∀ size, lvD ps size (2 ^ ps.length) = chooseL size ps := by
  induction ps with
  | nil =>
    intro _ size
    rw [lvD_flat]
    cases size with
    | zero => simp [chooseL, List.range_succ, selD]; decide
    | succ n => simp [chooseL, List.range_succ, popc]
  | cons p ps ih =>
    intro hl size
    simp only [List.length_cons] at hl
    rw [lvD_flat]
    have ih1 := ih (by omega)
    have hpow : 2 ^ (p :: ps).length = 2 ^ ps.length + 2 ^ ps.length := by rw [List.length_cons, Nat.pow_succ]; omega
    have hpos : 0 < 2 ^ ps.length := Nat.two_pow_pos _
    have hbig : 2 ^ ps.length ≤ 2048 := (Nat.pow_le_pow_right (by omega) (by omega : ps.length ≤ 11) : 2 ^ ps.length ≤ 2 ^ 11)
    have hsel : ∀ s, s < 2 ^ ps.length → selD (p :: ps) s (p :: ps).length = selD ps s ps.length := fun s hs => by
      rw [List.length_cons, selD_cons p ps s _ (Nat.le_refl _), Nat.mod_eq_of_lt hs, Nat.div_eq_of_lt hs]; simp
    have hsel2 : ∀ s, s < 2 ^ ps.length → selD (p :: ps) (2 ^ ps.length + s) (p :: ps).length = p :: selD ps s ps.length := fun s hs => by
      rw [List.length_cons, selD_cons p ps _ _ (Nat.le_refl _), Nat.add_mod_left, Nat.mod_eq_of_lt hs, Nat.add_div_left _ hpos, Nat.div_eq_of_lt hs]; simp
    have hf : ∀ d, lvD ps d (2 ^ ps.length) = (List.range (2 ^ ps.length)).flatMap fun i => if popc 12 (2 ^ ps.length - 1 - i) = d then [selD ps (2 ^ ps.length - 1 - i) ps.length] else [] := fun d => lvD_flat ps d _
    have hpt : ∀ s, s < 2 ^ ps.length → popc 12 (2 ^ ps.length + s) = 1 + popc 12 s := fun s hs => popc_top _ (by omega) _ (by omega) hs
    rw [hpow]
    generalize popc 12 = pc at *
    generalize selD (p :: ps) = S1 at *
    generalize selD ps = S0 at *
    generalize (p :: ps).length = L1 at *
    generalize hL0 : ps.length = L0 at *
    generalize 2 ^ L0 = N at *
    rw [List.range_add, List.flatMap_append]
    have h2 : ((List.range N).map (N + ·)).flatMap (fun i => if pc (N + N - 1 - i) = size then [S1 (N + N - 1 - i) L1] else []) = chooseL size ps := by
      rw [← ih1 size, hf, List.flatMap_map]
      refine flat_congr _ fun i hi => ?_
      rw [List.mem_range] at hi
      rw [show N + N - 1 - (N + i) = N - 1 - i from by omega, hsel _ (by omega)]
    have h1 : (List.range N).flatMap (fun i => if pc (N + N - 1 - i) = size then [S1 (N + N - 1 - i) L1] else []) = match size with | 0 => [] | m + 1 => (chooseL m ps).map (p :: ·) := by
      cases size with
      | zero =>
        rw [List.flatMap_eq_nil_iff]
        intro i hi
        rw [List.mem_range] at hi
        rw [show N + N - 1 - i = N + (N - 1 - i) from by omega, hpt _ (by omega), if_neg (by omega)]
      | succ m =>
        show _ = (chooseL m ps).map (p :: ·)
        rw [← ih1 m, hf, List.map_flatMap]
        refine flat_congr _ fun i hi => ?_
        rw [List.mem_range] at hi
        rw [show N + N - 1 - i = N + (N - 1 - i) from by omega, hpt _ (by omega), hsel2 _ (by omega)]
        by_cases h : pc (N - 1 - i) = m
        · rw [if_pos (by omega), if_pos h]; rfl
        · rw [if_neg (by omega), if_neg h]; rfl
    rw [h1, h2]
    cases size with
    | zero => simp [chooseL]
    | succ m => rw [chooseL]
theorem szD_all (ps : List Int) (h : ps.length ≤ 12) : ∀ k, szD ps k = allTo ps k
  | 0 => rfl
  | k + 1 => by rw [szD, allTo, szD_all ps h k, lvD_choose ps h k]
theorem allSubs_eq (ps : List Int) (h : ps.length ≤ 12) : allSubs ps = allR ps := szD_all ps h _
/-! ### The answers -/
theorem own_eq (g : Gt) (alive : List Int) : g.own alive = both g.people alive := by
  unfold Gt.own minus both
  refine List.filter_congr fun x hx => ?_
  simp only [List.mem_filter, Bool.not_eq_true', decide_eq_false_iff_not, hx, true_and]
  by_cases h : x ∈ alive <;> simp [h]
theorem Living_eq (g : Gt) (alive : List Int) : g.Living alive = g.rLiving alive := by
  unfold Gt.Living Gt.rLiving
  rw [lcheck_eq]
  by_cases hc : g.rerr51 alive = 0
  · have hr : g.right = true := rcheck_right (rerr_check (rerr51_rerr hc))
    have h12 := rerr_ppl (rerr51_rerr hc)
    rw [if_neg (by simp [hc]), if_neg (by simp [hc]), own_eq, people_eq hr, allSubs_eq _ (Nat.le_trans (both_length _ _) h12), foundR]
    simp only [show g.can = fun x => (g.rHolds x).1 from funext fun x => can_eq g x]
  · rw [if_pos hc, if_pos hc]
theorem Margin_eq (g : Gt) (alive : List Int) : g.Margin alive = g.rMargin alive := by
  unfold Gt.Margin Gt.rMargin
  rw [lcheck_eq]
  by_cases hc : g.rerr51 alive = 0
  · have hr : g.right = true := rcheck_right (rerr_check (rerr51_rerr hc))
    have h12 := rerr_ppl (rerr51_rerr hc)
    simp only [hc, ne_eq, not_true_eq_false, if_false, can_eq]
    rw [own_eq, people_eq hr, allSubs_eq _ (Nat.le_trans (both_length _ _) h12), foundR]
    by_cases h : (g.rHolds alive).1 = true <;> simp [h]
  · rw [if_pos hc, if_pos hc]
theorem Dead_eq (g : Gt) (alive : List Int) : g.Dead alive = g.rDead alive := by
  unfold Gt.Dead Gt.rDead
  rw [lcheck_eq]
  by_cases hc : g.rerr51 alive = 0
  · have hr : g.right = true := rcheck_right (rerr_check (rerr51_rerr hc))
    have h12 := rerr_ppl (rerr51_rerr hc)
    simp only [hc, ne_eq, not_true_eq_false, if_false, can_eq]
    rw [Gt.gone, people_eq hr, allSubs_eq _ (Nat.le_trans (minus_length _ _) h12), foundR]
  · rw [if_pos hc, if_pos hc]
end Go.Proofs.Ytmnpbopkhpbhiaa
