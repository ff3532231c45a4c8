/- Plain laws of layer 24: which sets are smallest, in which order. minimal: one person struck from a set, in bits. -/
import Derived.Test.YtmnpbopkhpbhiaaMinBlocks
import Derived.Laws.BitsAllLaws
set_option linter.unusedVariables false
set_option linter.unusedSimpArgs false
namespace Go.Proofs.Ytmnpbopkhpbhiaa
section
open Go.RowKit
/-- F holds of s, and of s without any one of its first i people no more. -/
def least (F : Nat → Bool) (s : Nat) : Nat → Bool
  | 0 => F s
  | i + 1 => least F s i && (decide (s / 2 ^ i % 2 = 0) || !F (s - 2 ^ i))
/-- The smallest sets below k. -/
def smallF (F : Nat → Bool) (n : Nat) : Nat → List Nat
  | 0 => []
  | k + 1 => smallF F n k ++ (if least F k n then [k] else [])
theorem smallF_prefix (F : Nat → Bool) (n : Nat) : ∀ (k m : Nat), k ≤ m → smallF F n k <+: smallF F n m
  | k, 0, h => by obtain rfl : k = 0 := by omega
                  exact List.prefix_rfl
  | k, m + 1, h => by
    rcases Nat.lt_or_ge k (m + 1) with h1 | h1
    · exact (smallF_prefix F n k m (by omega)).trans (List.prefix_append _ _)
    · obtain rfl : k = m + 1 := by omega
      exact List.prefix_rfl
theorem least_iff (F : Nat → Bool) (s : Nat) : ∀ n, least F s n = true ↔ F s = true ∧ ∀ i, i < n → s / 2 ^ i % 2 = 1 → F (s - 2 ^ i) = false
  | 0 => by simp [least]
  | n + 1 => by
    rw [least, Bool.and_eq_true, least_iff F s n, Bool.or_eq_true, decide_eq_true_eq, Bool.not_eq_true']
    constructor
    · rintro ⟨⟨h1, h2⟩, h3⟩
      refine ⟨h1, fun i hi hb => ?_⟩
      rcases Nat.lt_or_ge i n with h | h
      · exact h2 i h hb
      · obtain rfl : i = n := by omega
        rcases h3 with h3 | h3
        · rw [h3] at hb; cases hb
        · exact h3
    · rintro ⟨h1, h2⟩
      refine ⟨⟨h1, fun i hi => h2 i (by omega)⟩, ?_⟩
      by_cases hb : s / 2 ^ n % 2 = 1
      · exact .inr (h2 n (by omega) hb)
      · exact .inl ((Nat.mod_two_eq_zero_or_one _).resolve_right hb)
theorem least_congr {F G : Nat → Bool} {s : Nat} (h : ∀ t, t ≤ s → F t = G t) (n : Nat) : least F s n = least G s n := by
  rw [Bool.eq_iff_iff, least_iff, least_iff, h s (Nat.le_refl _)]
  refine and_congr_right fun _ => forall_congr' fun i => forall_congr' fun _ => forall_congr' fun _ => ?_
  rw [h _ (Nat.sub_le _ _)]
theorem smallF_mem (F : Nat → Bool) (n s : Nat) : ∀ k, s ∈ smallF F n k ↔ s < k ∧ least F s n = true
  | 0 => by simp [smallF]
  | k + 1 => by
    rw [smallF, List.mem_append, smallF_mem F n s k]
    by_cases h : least F k n = true
    · rw [if_pos h, List.mem_singleton]
      constructor
      · rintro (⟨h1, h2⟩ | rfl)
        · exact ⟨by omega, h2⟩
        · exact ⟨by omega, h⟩
      · rintro ⟨h1, h2⟩
        by_cases e : s = k
        · exact .inr e
        · exact .inl ⟨by omega, h2⟩
    · rw [if_neg h]
      constructor
      · rintro (⟨h1, h2⟩ | h1)
        · exact ⟨by omega, h2⟩
        · cases h1
      · rintro ⟨h1, h2⟩
        refine .inl ⟨?_, h2⟩
        rcases Nat.lt_or_ge s k with h3 | h3
        · exact h3
        · obtain rfl : s = k := by omega
          exact absurd h2 h
theorem smallF_order (F : Nat → Bool) (n : Nat) : ∀ k, (smallF F n k).Pairwise (· < ·)
  | 0 => by simp [smallF]
  | k + 1 => by
    rw [smallF, List.pairwise_append]
    refine ⟨smallF_order F n k, by split <;> simp, fun a ha b hb => ?_⟩
    have := ((smallF_mem F n a k).1 ha).1
    split at hb
    · rw [List.mem_singleton.1 hb]; exact this
    · cases hb
theorem smallF_len (F : Nat → Bool) (n : Nat) : ∀ k, (smallF F n k).length ≤ k
  | 0 => by simp [smallF]
  | k + 1 => by
    have := smallF_len F n k
    rw [smallF, List.length_append]
    split <;> simp <;> omega
theorem smallF_congr {F G : Nat → Bool} (n : Nat) : ∀ k, (∀ t, t < k → F t = G t) → smallF F n k = smallF G n k
  | 0, _ => rfl
  | k + 1, h => by
    rw [smallF, smallF, smallF_congr n k fun t ht => h t (by omega), least_congr (fun t ht => h t (by omega))]
/-! ### Sets as bits, and as lists -/
theorem selI_inj : ∀ (ps : List Int), ps.Nodup → ∀ (s t : Nat), s < 2 ^ ps.length → t < 2 ^ ps.length → selI ps s = selI ps t → s = t
  | [], _, s, t, hs, ht, _ => by simp at hs ht; omega
  | p :: ps, hn, s, t, hs, ht, h => by
    rw [List.nodup_cons] at hn
    rw [List.length_cons, Nat.pow_succ] at hs ht
    have hnot : ∀ u, p ∉ selI ps u := fun u hu => hn.1 ((selI_sub ps u).subset hu)
    rw [selI, selI] at h
    have ih := selI_inj ps hn.2 (s / 2) (t / 2) (by omega) (by omega)
    by_cases hs1 : s % 2 = 1 <;> by_cases ht1 : t % 2 = 1
    · rw [if_pos hs1, if_pos ht1] at h
      have := ih (by simpa using h); omega
    · rw [if_pos hs1, if_neg ht1, List.nil_append] at h
      exact absurd (by rw [← h]; simp : p ∈ selI ps (t / 2)) (hnot _)
    · rw [if_neg hs1, if_pos ht1, List.nil_append] at h
      exact absurd (by rw [h]; simp : p ∈ selI ps (s / 2)) (hnot _)
    · rw [if_neg hs1, if_neg ht1] at h
      have := ih (by simpa using h); omega
theorem selI_surj : ∀ (ps x : List Int), x.Sublist ps → ∃ s, s < 2 ^ ps.length ∧ selI ps s = x
  | [], x, h => ⟨0, by simp, by rw [List.sublist_nil.1 h]; rfl⟩
  | p :: ps, x, h => by
    rcases List.sublist_cons_iff.1 h with h | ⟨r, rfl, h2⟩
    · obtain ⟨s, hs, rfl⟩ := selI_surj ps x h
      refine ⟨2 * s, by rw [List.length_cons, Nat.pow_succ]; omega, ?_⟩
      rw [selI, if_neg (by omega), show 2 * s / 2 = s from by omega, List.nil_append]
    · obtain ⟨s, hs, rfl⟩ := selI_surj ps r h2
      refine ⟨2 * s + 1, by rw [List.length_cons, Nat.pow_succ]; omega, ?_⟩
      rw [selI, if_pos (by omega), show (2 * s + 1) / 2 = s from by omega]; rfl
theorem selI_clear : ∀ (ps : List Int), ps.Nodup → ∀ (s i : Nat) (hi : i < ps.length), s / 2 ^ i % 2 = 1 → selI ps (s - 2 ^ i) = minus (selI ps s) [ps[i]]
  | [], _, _, i, hi, _ => by simp at hi
  | p :: ps, hn, s, 0, _, hb => by
    rw [List.nodup_cons] at hn
    rw [Nat.pow_zero, Nat.div_one] at hb
    rw [Nat.pow_zero, selI, selI, if_neg (by omega), if_pos hb, show (s - 1) / 2 = s / 2 from by omega]
    unfold minus
    have hself : (selI ps (s / 2)).filter (fun x => !decide (x ∈ [p])) = selI ps (s / 2) := List.filter_eq_self.2 fun a ha => by
      have : a ∈ ps := (selI_sub ps _).subset ha
      simp only [List.mem_singleton, Bool.not_eq_true', decide_eq_false_iff_not]
      rintro rfl; exact hn.1 this
    rw [List.getElem_cons_zero, List.filter_append, hself]
    simp
  | p :: ps, hn, s, i + 1, hi, hb => by
    rw [List.nodup_cons] at hn
    have hi' : i < ps.length := by simpa using hi
    rw [Nat.pow_succ, Nat.mul_comm, ← Nat.div_div_eq_div_mul] at hb
    have ih := selI_clear ps hn.2 (s / 2) i hi' hb
    have hle : 2 ^ i ≤ s / 2 := by
      rcases Nat.lt_or_ge (s / 2) (2 ^ i) with h | h
      · rw [Nat.div_eq_of_lt h] at hb; cases hb
      · exact h
    have hne : p ≠ ps[i] := by rintro rfl; exact hn.1 (List.getElem_mem _)
    rw [selI, selI, Nat.pow_succ]
    generalize 2 ^ i = m at *
    rw [show (s - m * 2) / 2 = s / 2 - m from by omega, show (s - m * 2) % 2 = s % 2 from by omega, ih]
    unfold minus
    rw [List.filter_append]
    split <;> simp [hne]
theorem selI_but (ps : List Int) (hn : ps.Pairwise (· < ·)) (s : Nat) (hs : s < 2 ^ ps.length) : selI ps (2 ^ ps.length - 1 - s) = minus ps (selI ps s) := by
  have hd : ps.Nodup := hn.imp fun h => by omega
  refine sorted_ext (hn.sublist (selI_sub _ _)) (hn.sublist (minus_sub _ _)) fun x => ?_
  rw [minus_mem]
  by_cases hx : x ∈ ps
  · rw [selI_mem ps hd _ x hx, selI_mem ps hd s x hx]
    have h1 := Nat.testBit_two_pow_sub_succ hs (ps.idxOf x)
    rw [Nat.testBit_eq_decide_div_mod_eq, Nat.testBit_eq_decide_div_mod_eq, show 2 ^ ps.length - (s + 1) = 2 ^ ps.length - 1 - s from by omega] at h1
    have h2 := List.idxOf_lt_length_of_mem hx
    by_cases hb : s / 2 ^ ps.idxOf x % 2 = 1 <;> simp [hb, hx, h2] at h1 ⊢ <;> omega
  · exact ⟨fun h => absurd ((selI_sub ps _).subset h) hx, fun h => absurd h.1 hx⟩
theorem selI_all (ps : List Int) (hn : ps.Pairwise (· < ·)) : selI ps (2 ^ ps.length - 1) = ps := by
  have hz : selI ps 0 = [] := by
    have : ∀ l : List Int, selI l 0 = [] := by
      intro l
      induction l with
      | nil => rfl
      | cons a l ih => rw [selI, if_neg (by omega), List.nil_append]; exact ih
    exact this ps
  have := selI_but ps hn 0 (Nat.two_pow_pos _)
  rw [Nat.sub_zero, hz] at this
  rw [this]; exact List.filter_eq_self.2 fun a _ => by simp
/-! ### The smallest sets, as lists -/
/-- H holds of x, and of x without any one of its people no more. -/
def minB (H : List Int → Bool) (x : List Int) : Bool := H x && x.all fun p => !H (minus x [p])
/-- The smallest sets in order. -/
def setsP (ps : List Int) (H : List Int → Bool) : List (List Int) := (allR ps).filter (minB H)
theorem minB_iff (H : List Int → Bool) (x : List Int) : minB H x = true ↔ H x = true ∧ ∀ p ∈ x, H (minus x [p]) = false := by
  simp [minB]
theorem least_minB (ps : List Int) (hn : ps.Nodup) (H : List Int → Bool) (s : Nat) (hs : s < 2 ^ ps.length) : least (fun s => H (selI ps s)) s ps.length = minB H (selI ps s) := by
  rw [Bool.eq_iff_iff, least_iff, minB_iff]
  refine and_congr_right fun _ => ⟨fun h p hp => ?_, fun h i hi hb => ?_⟩
  · have hps : p ∈ ps := (selI_sub ps s).subset hp
    have hi := List.idxOf_lt_length_of_mem hps
    have hb := (selI_mem ps hn s p hps).1 hp
    have h1 := h _ hi hb
    rw [selI_clear ps hn s _ hi hb, List.getElem_idxOf hi] at h1
    exact h1
  · rw [selI_clear ps hn s i hi hb]
    refine h _ ((selI_mem ps hn s _ (List.getElem_mem hi)).2 ?_)
    rw [hn.idxOf_getElem i hi]; exact hb
theorem setsP_mem (ps : List Int) (H : List Int → Bool) (x : List Int) : x ∈ setsP ps H ↔ x.Sublist ps ∧ minB H x = true := by
  rw [setsP, List.mem_filter, allR_mem]
theorem setsP_order {ps : List Int} (hn : ps.Pairwise (· < ·)) (H : List Int → Bool) : (setsP ps H).Pairwise fun a b => beforeB a b = true := (allR_order hn).sublist List.filter_sublist
theorem beforeB_nodup {L : List (List Int)} (h : L.Pairwise fun a b => beforeB a b = true) : L.Nodup :=
  h.imp fun {a b} hab => by rintro rfl; rw [beforeB_irrefl] at hab; cases hab
theorem small_sets (ps : List Int) (hn : ps.Pairwise (· < ·)) (H : List Int → Bool) : ((smallF (fun s => H (selI ps s)) ps.length (2 ^ ps.length)).map (selI ps)).Perm (setsP ps H) := by
  have hd : ps.Nodup := hn.imp fun h => by omega
  refine (List.perm_ext_iff_of_nodup ?_ (beforeB_nodup (setsP_order hn H))).2 fun x => ?_
  · unfold List.Nodup
    rw [List.pairwise_map]
    refine (List.Pairwise.and_mem.1 (smallF_order _ _ _)).imp ?_
    rintro a b ⟨ha, hb, hab⟩ e
    have := selI_inj ps hd a b ((smallF_mem _ _ _ _).1 ha).1 ((smallF_mem _ _ _ _).1 hb).1 e
    omega
  · rw [List.mem_map, setsP_mem]
    constructor
    · rintro ⟨s, hs, rfl⟩
      obtain ⟨h1, h2⟩ := (smallF_mem _ _ _ _).1 hs
      exact ⟨selI_sub _ _, by rw [← least_minB ps hd H s h1]; exact h2⟩
    · rintro ⟨h1, h2⟩
      obtain ⟨s, hs, rfl⟩ := selI_surj ps x h1
      exact ⟨s, (smallF_mem _ _ _ _).2 ⟨hs, by rw [least_minB ps hd H s hs]; exact h2⟩, rfl⟩
theorem lexB_total : ∀ a b : List Int, a.length = b.length → lexB a b = false → lexB b a = false → a = b
  | [], [], _, _, _ => rfl
  | [], _ :: _, h, _, _ => by simp at h
  | _ :: _, [], h, _, _ => by simp at h
  | x :: xs, y :: ys, h, h1, h2 => by
    simp only [lexB] at h1 h2
    by_cases e : x = y
    · subst e
      rw [if_pos rfl] at h1 h2
      rw [lexB_total xs ys (by simpa using h) h1 h2]
    · rw [if_neg e] at h1
      rw [if_neg fun e' => e e'.symm] at h2
      simp only [decide_eq_false_iff_not] at h1 h2
      omega
theorem beforeB_total {a b : List Int} (h1 : beforeB a b = false) (h2 : beforeB b a = false) : a = b := by
  unfold beforeB at h1 h2
  by_cases e : a.length = b.length
  · rw [if_pos e] at h1
    rw [if_pos e.symm] at h2
    exact lexB_total a b e h1 h2
  · rw [if_neg e] at h1
    rw [if_neg fun e' => e e'.symm] at h2
    simp only [decide_eq_false_iff_not] at h1 h2
    omega
/-- A permutation that is in order is the list itself. -/
theorem before_unique {L M : List (List Int)} (hp : L.Perm M) (hL : L.Pairwise fun a b => beforeB b a = false) (hM : M.Pairwise fun a b => beforeB a b = true) : L = M :=
  List.Perm.eq_of_pairwise (le := fun a b => beforeB b a = false) (fun a b _ _ h1 h2 => beforeB_total h2 h1) hL (hM.imp fun h => beforeB_asymm _ _ h) hp
/-- Two lists in order with the same elements. -/
theorem before_ext {L M : List (List Int)} (hL : L.Pairwise fun a b => beforeB a b = true) (hM : M.Pairwise fun a b => beforeB a b = true) (h : ∀ x, x ∈ L ↔ x ∈ M) : L = M :=
  before_unique ((List.perm_ext_iff_of_nodup (beforeB_nodup hL) (beforeB_nodup hM)).2 h) (hL.imp fun h => beforeB_asymm _ _ h) hM
/-! ### Monotone conditions -/
def Mono (ps : List Int) (H : List Int → Bool) : Prop := ∀ x y : List Int, x.Sublist ps → y.Sublist ps → (∀ p ∈ x, p ∈ y) → H x = true → H y = true
theorem sub_ext {ps x y : List Int} (hn : ps.Pairwise (· < ·)) (hx : x.Sublist ps) (hy : y.Sublist ps) (h : ∀ p, p ∈ x ↔ p ∈ y) : x = y := sorted_ext (hn.sublist hx) (hn.sublist hy) h
theorem minus_lt {x : List Int} {p : Int} (h : p ∈ x) : (minus x [p]).length < x.length := by
  unfold minus
  exact List.length_filter_lt_length_iff_exists.2 ⟨p, h, by simp⟩
/-- Below what holds there is a smallest set that holds. -/
theorem min_below {ps : List Int} (hn : ps.Pairwise (· < ·)) {H : List Int → Bool} : ∀ (n : Nat) (x : List Int), x.length ≤ n → x.Sublist ps → H x = true → ∃ y ∈ setsP ps H, ∀ p ∈ y, p ∈ x := by
  intro n
  induction n with
  | zero =>
    intro x hl hs hx
    obtain rfl : x = [] := List.eq_nil_of_length_eq_zero (by omega)
    exact ⟨[], (setsP_mem _ _ _).2 ⟨hs, (minB_iff _ _).2 ⟨hx, by simp⟩⟩, by simp⟩
  | succ n ih =>
    intro x hl hs hx
    by_cases hm : minB H x = true
    · exact ⟨x, (setsP_mem _ _ _).2 ⟨hs, hm⟩, fun p h => h⟩
    · have : ∃ p ∈ x, H (minus x [p]) = true := by
        apply Classical.byContradiction
        intro hno
        exact hm ((minB_iff _ _).2 ⟨hx, fun p hp => by
          cases hh : H (minus x [p]) with
          | false => rfl
          | true => exact absurd ⟨p, hp, hh⟩ hno⟩)
      obtain ⟨p, hp, hh⟩ := this
      have hlt := minus_lt hp
      obtain ⟨y, hy, hyx⟩ := ih (minus x [p]) (by omega) ((minus_sub _ _).trans hs) hh
      exact ⟨y, hy, fun q hq => ((minus_mem _ _ _).1 (hyx q hq)).1⟩
/-- No smallest set is a part of another one. -/
theorem min_anti {ps : List Int} (hn : ps.Pairwise (· < ·)) {H : List Int → Bool} (hm : Mono ps H) {x y : List Int} (hx : x.Sublist ps) (hHx : H x = true) (hy : y ∈ setsP ps H) (h : ∀ p ∈ x, p ∈ y) : x = y := by
  obtain ⟨hys, hym⟩ := (setsP_mem _ _ _).1 hy
  refine sub_ext hn hx hys fun p => ⟨h p, fun hp => ?_⟩
  apply Classical.byContradiction
  intro hpx
  have h1 := ((minB_iff _ _).1 hym).2 p hp
  have h2 := hm x (minus y [p]) hx ((minus_sub _ _).trans hys) (fun q hq => (minus_mem _ _ _).2 ⟨h q hq, by rw [List.mem_singleton]; rintro rfl; exact hpx hq⟩) hHx
  rw [h1] at h2; cases h2
/-- H holds exactly where a smallest set is a part. -/
theorem some_iff {ps : List Int} (hn : ps.Pairwise (· < ·)) {H : List Int → Bool} (hm : Mono ps H) {x : List Int} (hx : x.Sublist ps) : H x = true ↔ ∃ y ∈ setsP ps H, ∀ p ∈ y, p ∈ x :=
  ⟨fun h => min_below hn x.length x (Nat.le_refl _) hx h, fun ⟨y, hy, h⟩ => hm y x ((setsP_mem _ _ _).1 hy).1 hx h ((minB_iff _ _).1 ((setsP_mem _ _ _).1 hy).2).1⟩
/-! ### The reference's way -/
def inB (a b : List Int) : Bool := decide (∀ p ∈ a, p ∈ b)
def smallR (H : List Int → Bool) (out : List (List Int)) : List (List Int) → List (List Int)
  | [] => out
  | x :: xs => smallR H (if H x && out.all fun y => !inB y x then out ++ [x] else out) xs
theorem smallR_eq {ps : List Int} (hn : ps.Pairwise (· < ·)) {H : List Int → Bool} (hm : Mono ps H) : ∀ (post pre : List (List Int)), pre ++ post = allR ps → smallR H (pre.filter (minB H)) post = setsP ps H
  | [], pre, h => by rw [List.append_nil] at h; rw [smallR, h]; rfl
  | x :: post, pre, h => by
    have hord := allR_order hn
    have hxs : x.Sublist ps := (allR_mem ps x).1 (by rw [← h]; simp)
    have hpre : ∀ y, y.Sublist ps → y ≠ x → y.length ≤ x.length → (y.length = x.length → (∀ p ∈ y, p ∈ x)) → y ∈ pre := by
      intro y hy hne hl he
      have : y ∈ pre ++ x :: post := by rw [h]; exact (allR_mem ps y).2 hy
      rcases List.mem_append.1 this with h1 | h1
      · exact h1
      · rcases List.mem_cons.1 h1 with h1 | h1
        · exact absurd h1 hne
        · rw [← h, List.pairwise_append] at hord
          have hb := (List.pairwise_cons.1 hord.2.1).1 y h1
          have hle := beforeB_le hb
          have hlen : y.length = x.length := by omega
          have hin := he hlen
          have hsub := sorted_sub (hn.sublist hy) (hn.sublist hxs) hin
          exact absurd (hsub.eq_of_length hlen) hne
    have key : (H x && (pre.filter (minB H)).all fun y => !inB y x) = minB H x := by
      rw [Bool.eq_iff_iff, Bool.and_eq_true, List.all_eq_true]
      constructor
      · rintro ⟨hx, hall⟩
        obtain ⟨y, hy, hyx⟩ := min_below hn x.length x (Nat.le_refl _) hxs hx
        obtain ⟨hys, hym⟩ := (setsP_mem _ _ _).1 hy
        by_cases e : y = x
        · rw [← e]; exact hym
        · have hsub := sorted_sub (hn.sublist hys) (hn.sublist hxs) hyx
          have hyp := hpre y hys e hsub.length_le fun _ => hyx
          have := hall y (List.mem_filter.2 ⟨hyp, hym⟩)
          simp only [inB, Bool.not_eq_true', decide_eq_false_iff_not] at this
          exact absurd hyx this
      · intro hx
        refine ⟨((minB_iff _ _).1 hx).1, fun y hy => ?_⟩
        obtain ⟨hyp, hym⟩ := List.mem_filter.1 hy
        simp only [inB, Bool.not_eq_true', decide_eq_false_iff_not]
        intro hyx
        have hys : y.Sublist ps := (allR_mem ps y).1 (by rw [← h]; simp [hyp])
        have e := min_anti hn hm hys ((minB_iff _ _).1 hym).1 ((setsP_mem _ _ _).2 ⟨hxs, hx⟩) hyx
        subst e
        have hnd := beforeB_nodup hord
        rw [← h, List.nodup_append] at hnd
        exact hnd.2.2 y hyp y (by simp) rfl
    rw [smallR, key]
    have hst : (if minB H x = true then pre.filter (minB H) ++ [x] else pre.filter (minB H)) = (pre ++ [x]).filter (minB H) := by
      rw [List.filter_append]
      by_cases e : minB H x = true <;> simp [e]
    rw [hst]
    exact smallR_eq hn hm post (pre ++ [x]) (by rw [List.append_assoc]; exact h)
theorem smallR_sets {ps : List Int} (hn : ps.Pairwise (· < ·)) {H : List Int → Bool} (hm : Mono ps H) : smallR H [] (allR ps) = setsP ps H := smallR_eq hn hm (allR ps) [] rfl
/-! ### A formula's -/
def Gt.hB (g : Gt) (x : List Int) : Bool := !g.holds (minus g.rpeople x)
theorem holds_Mono (g : Gt) (ps : List Int) : Mono ps g.holds := fun x y _ _ h hx => holds_mono x y g (fun p _ => h p) hx
theorem hB_Mono (g : Gt) (ps : List Int) : Mono ps g.hB := fun x y _ _ h hx => by
  unfold Gt.hB at *
  cases e : g.holds (minus g.rpeople y) with
  | false => rfl
  | true =>
    rw [holds_mono _ _ g (fun p _ hp => ?_) e] at hx
    · exact hx
    · rw [minus_mem] at hp ⊢
      exact ⟨hp.1, fun h' => hp.2 (h p h')⟩
/-- The smallest sets that are permitted; that block. -/
def Gt.setsS (g : Gt) : List (List Int) := setsP g.rpeople g.holds
def Gt.setsB (g : Gt) : List (List Int) := setsP g.rpeople g.hB
theorem setsS_perm (g : Gt) : ((smallF g.qF g.rpeople.length (2 ^ g.rpeople.length)).map (selI g.rpeople)).Perm g.setsS := small_sets g.rpeople (rpeople_sorted g) g.holds
theorem setsB_perm (g : Gt) : ((smallF (fun s => !g.qF (2 ^ g.rpeople.length - 1 - s)) g.rpeople.length (2 ^ g.rpeople.length)).map (selI g.rpeople)).Perm g.setsB := by
  rw [smallF_congr (G := fun s => g.hB (selI g.rpeople s)) _ _ fun t ht => ?_]
  · exact small_sets g.rpeople (rpeople_sorted g) g.hB
  · simp only [Gt.qF, Gt.hB]
    rw [selI_but _ (rpeople_sorted g) t ht]
end
section
open Go.RowKit
/-- Two numbers' parts above and below bit i. -/
theorem and_clear (s i : Nat) (hs : s < 4096) (hi : i < 12) (hb : s / 2 ^ i % 2 = 1) : s &&& (18446744073709551615 - 2 ^ i) = s - 2 ^ i := by
  have hset : s = (s - 2 ^ i) ||| 2 ^ i ∧ (s - 2 ^ i).testBit i = false := by
    have hle : 2 ^ i ≤ s := by
      rcases Nat.lt_or_ge s (2 ^ i) with h | h
      · rw [Nat.div_eq_of_lt h] at hb; cases hb
      · exact h
    have e0 : (s - 2 ^ i) / 2 ^ i % 2 = 0 := by
      have : (s - 2 ^ i) / 2 ^ i = s / 2 ^ i - 1 := by
        rw [← Nat.mul_one (2 ^ i), ← Nat.sub_mul_div]; simp
      rw [this]; omega
    have e1 : (s - 2 ^ i).testBit i = false := by rw [Nat.testBit_eq_decide_div_mod_eq, e0]; rfl
    refine ⟨?_, e1⟩
    refine Nat.eq_of_testBit_eq fun j => ?_
    rw [Nat.testBit_or, Nat.testBit_two_pow]
    rcases Nat.lt_trichotomy j i with h | h | h
    · rw [show decide (i = j) = false from by simp; omega, Bool.or_false]
      have := Nat.testBit_mod_two_pow s i j
      have h2 := Nat.testBit_mod_two_pow (s - 2 ^ i) i j
      rw [show (s - 2 ^ i) % 2 ^ i = s % 2 ^ i from (Nat.mod_eq_sub_mod hle).symm, this] at h2
      simpa [h] using h2
    · subst h; simp [Nat.testBit_eq_decide_div_mod_eq, hb]
    · rw [show decide (i = j) = false from by simp; omega, Bool.or_false]
      have hd : s / 2 ^ (i + 1) = (s - 2 ^ i) / 2 ^ (i + 1) := by
        rw [Nat.pow_succ, ← Nat.div_div_eq_div_mul, ← Nat.div_div_eq_div_mul]
        have : (s - 2 ^ i) / 2 ^ i = s / 2 ^ i - 1 := by
          rw [← Nat.mul_one (2 ^ i), ← Nat.sub_mul_div]; simp
        rw [this]
        generalize s / 2 ^ i = q at hb ⊢
        omega
      obtain ⟨k, rfl⟩ : ∃ k, j = i + 1 + k := ⟨j - (i + 1), by omega⟩
      rw [Nat.testBit_eq_decide_div_mod_eq, Nat.testBit_eq_decide_div_mod_eq, Nat.pow_add, ← Nat.div_div_eq_div_mul, ← Nat.div_div_eq_div_mul, hd]
  have hlt : s < 2 ^ 64 := by omega
  have hil : 2 ^ i < 2 ^ 64 := Nat.pow_lt_pow_right (by omega) (by omega)
  refine Nat.eq_of_testBit_eq fun j => ?_
  have hm : (18446744073709551615 - 2 ^ i).testBit j = (decide (j < 64) && !decide (i = j)) := by
    have := Nat.testBit_two_pow_sub_succ hil j
    rw [show (2 : Nat) ^ 64 - (2 ^ i + 1) = 18446744073709551615 - 2 ^ i from by omega, Nat.testBit_two_pow] at this
    exact this
  rw [Nat.testBit_and, hm]
  by_cases e : i = j
  · subst e; rw [hset.2]; simp
  · have : s.testBit j = (s - 2 ^ i).testBit j := by
      conv => lhs; rw [hset.1]
      rw [Nat.testBit_or, Nat.testBit_two_pow]; simp [e]
    rw [this]
    by_cases hj : j < 64
    · simp [e, hj]
    · have : (s - 2 ^ i).testBit j = false := Nat.testBit_lt_two_pow (Nat.lt_of_lt_of_le (Nat.lt_of_le_of_lt (Nat.sub_le _ _) hlt : s - 2 ^ i < 2 ^ 64) (Nat.pow_le_pow_right (by omega) (by omega)))
      simp [this]
theorem bit_clr (i : Nat) (hi : i < 12) (s : Nat) (hs : s < 4096) (hb : s / 2 ^ i % 2 = 1) : bits .andNot .u64 (s : Int) ((2 ^ i : Nat) : Int) = ((s - 2 ^ i : Nat) : Int) := by
  have hil : 2 ^ i < 2 ^ 64 := Nat.pow_lt_pow_right (by omega) (by omega)
  rw [u64_andNot_nat s (2 ^ i) (by omega) (by omega), and_clear s i hs hi hb]
end
end Go.Proofs.Ytmnpbopkhpbhiaa
