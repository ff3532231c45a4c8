/- Plain laws of layer 24: what the two lists have in common; which lists agree; the order of sets. -/
import Derived.Test.YtmnpbopkhpbhiaaPlainMin
import Derived.Laws.BitsLemmas
set_option linter.unusedVariables false
set_option linter.unusedSimpArgs false
namespace Go.Proofs.Ytmnpbopkhpbhiaa
open Go.RowKit
/-! ### Sets as bits -/
theorem sel_bit {ps : List Int} (hn : ps.Nodup) (s i : Nat) (hi : i < ps.length) : ps[i] ∈ selI ps s ↔ s.testBit i = true := by
  rw [selI_mem ps hn s _ (List.getElem_mem hi), hn.idxOf_getElem i hi, Nat.testBit_eq_decide_div_mod_eq, decide_eq_true_eq]
theorem high_bit {s n i : Nat} (hs : s < 2 ^ n) (hi : n ≤ i) : s.testBit i = false :=
  Nat.testBit_lt_two_pow (Nat.lt_of_lt_of_le hs (Nat.pow_le_pow_right (by omega) hi))
theorem has_iff {ps : List Int} (hn : ps.Nodup) (s t : Nat) (ht : t < 2 ^ ps.length) : s &&& t = t ↔ ∀ p ∈ selI ps t, p ∈ selI ps s := by
  constructor
  · intro h p hp
    obtain ⟨i, hi, rfl⟩ := List.getElem_of_mem ((selI_sub ps t).subset hp)
    rw [sel_bit hn _ _ hi] at hp ⊢
    rw [← h, Nat.testBit_and, Bool.and_eq_true] at hp
    exact hp.1
  · intro h
    refine Nat.eq_of_testBit_eq fun i => ?_
    rw [Nat.testBit_and]
    rcases Nat.lt_or_ge i ps.length with hi | hi
    · cases hb : t.testBit i with
      | false => simp
      | true =>
        have := h ps[i] ((sel_bit hn t i hi).2 hb)
        rw [sel_bit hn _ _ hi] at this
        simp [this]
    · rw [high_bit ht hi]; simp
theorem or_lt {s n i : Nat} (hs : s < 2 ^ n) (hi : i < n) : s ||| 2 ^ i < 2 ^ n := Nat.or_lt_two_pow hs (Nat.pow_lt_pow_right (by omega) hi)
theorem sel_snoc {ps : List Int} (hn : ps.Pairwise (· < ·)) (s : Nat) (x : List Int) (hx : selI ps s = x) (i : Nat) (hi : i < ps.length) (hgt : ∀ p ∈ x, p < ps[i]) : selI ps (s ||| 2 ^ i) = x ++ [ps[i]] := by
  have hd : ps.Nodup := hn.imp fun h => by omega
  refine sorted_ext (hn.sublist (selI_sub _ _)) ?_ fun p => ?_
  · rw [List.pairwise_append]
    refine ⟨by rw [← hx]; exact hn.sublist (selI_sub _ _), by simp, fun a ha b hb => ?_⟩
    rw [List.mem_singleton.1 hb]; exact hgt a ha
  · by_cases hp : p ∈ ps
    · obtain ⟨j, hj, rfl⟩ := List.getElem_of_mem hp
      rw [List.mem_append, ← hx, sel_bit hd _ _ hj, sel_bit hd _ _ hj, Nat.testBit_or, Nat.testBit_two_pow, Bool.or_eq_true, decide_eq_true_eq, List.mem_singleton]
      refine or_congr_right ⟨fun e => by subst e; rfl, fun e => ?_⟩
      have := hd.idxOf_getElem j hj
      rw [e, hd.idxOf_getElem i hi] at this
      exact this
    · refine ⟨fun h => absurd ((selI_sub _ _).subset h) hp, fun h => ?_⟩
      rcases List.mem_append.1 h with h | h
      · rw [← hx] at h; exact absurd ((selI_sub _ _).subset h) hp
      · rw [List.mem_singleton.1 h]at hp; exact absurd (List.getElem_mem hi) hp
theorem bits_and_u (a b : Nat) (ha : a < 4096) (hb : b < 4096) : bits .and .u64 (a : Int) (b : Int) = ((a &&& b : Nat) : Int) :=
  (bits_nat .u64 64 (by decide) (fun n h0 h1 => IntWalk.u64_in n (by omega)) a b (by omega) (by omega)).1
theorem bits_or_u (a b : Nat) (ha : a < 4096) (hb : b < 4096) : bits .or .u64 (a : Int) (b : Int) = ((a ||| b : Nat) : Int) :=
  (bits_nat .u64 64 (by decide) (fun n h0 h1 => IntWalk.u64_in n (by omega)) a b (by omega) (by omega)).2
/-! ### The order of sets -/
theorem lexB_trans : ∀ a b c : List Int, lexB a b = true → lexB b c = true → lexB a c = true
  | [], _, _, h, _ => by simp [lexB] at h
  | _ :: _, [], _, h, _ => by simp [lexB] at h
  | _ :: _, _ :: _, [], _, h => by simp [lexB] at h
  | x :: xs, y :: ys, z :: zs, h1, h2 => by
    simp only [lexB] at h1 h2 ⊢
    by_cases e : x = y
    · subst e
      rw [if_pos rfl] at h1
      by_cases e2 : x = z
      · rw [if_pos e2] at h2 ⊢
        exact lexB_trans xs ys zs h1 h2
      · rw [if_neg e2] at h2 ⊢
        exact h2
    · rw [if_neg e] at h1
      simp only [decide_eq_true_eq] at h1
      by_cases e2 : y = z
      · subst e2
        rw [if_neg e]; simpa using h1
      · rw [if_neg e2] at h2
        simp only [decide_eq_true_eq] at h2
        rw [if_neg (by omega)]
        simp; omega
theorem beforeB_trans {a b c : List Int} (h1 : beforeB a b = true) (h2 : beforeB b c = true) : beforeB a c = true := by
  have l1 := beforeB_le h1
  have l2 := beforeB_le h2
  unfold beforeB at *
  by_cases e1 : a.length = b.length
  · by_cases e2 : b.length = c.length
    · rw [if_pos e1] at h1
      rw [if_pos e2] at h2
      rw [if_pos (by omega)]
      exact lexB_trans a b c h1 h2
    · rw [if_neg (by omega)]; simp; omega
  · rw [if_neg (by omega)]; simp; omega
/-- What slices.Compare answers. -/
def lexC : List Int → List Int → Int
  | [], [] => 0
  | [], _ :: _ => -1
  | _ :: _, [] => 1
  | x :: xs, y :: ys => if x < y then -1 else if y < x then 1 else lexC xs ys
/-- What minimal.compare answers. -/
def cmpI (a b : List Int) : Int := if a.length ≠ b.length then (a.length : Int) - b.length else lexC a b
theorem lexC_lt : ∀ a b : List Int, a.length = b.length → (lexC a b < 0 ↔ lexB a b = true)
  | [], [], _ => by simp [lexC, lexB]
  | [], _ :: _, h => by simp at h
  | _ :: _, [], h => by simp at h
  | x :: xs, y :: ys, h => by
    have ih := lexC_lt xs ys (by simpa using h)
    simp only [lexC, lexB]
    by_cases h1 : x < y
    · rw [if_pos h1, if_neg (by omega)]; simp [h1]
    · rw [if_neg h1]
      by_cases h2 : y < x
      · rw [if_pos h2, if_neg (by omega)]; simp; omega
      · rw [if_neg h2, if_pos (by omega)]; exact ih
theorem cmpI_lt (a b : List Int) : cmpI a b < 0 ↔ beforeB a b = true := by
  unfold cmpI beforeB
  by_cases e : a.length = b.length
  · rw [if_neg (by omega), if_pos e]; exact lexC_lt a b e
  · rw [if_pos e, if_neg e]; simp; omega
theorem before_swo {α : Type} [Inhabited α] (f : α → List Int) : Sort.SWO (fun x y : α => decide (cmpI (f x) (f y) < 0)) where
  irrefl x := by simp only [cmpI_lt, beforeB_irrefl]; rfl
  trans x y z h1 h2 := by
    simp only [decide_eq_true_eq, cmpI_lt] at *
    exact beforeB_trans h1 h2
  ntrans x y z h1 h2 := by
    simp only [decide_eq_false_iff_not, cmpI_lt] at *
    intro h
    cases hb : beforeB (f y) (f x) with
    | true => exact h2 (beforeB_trans hb h)
    | false =>
      have e := beforeB_total (Bool.eq_false_iff.2 h1) hb
      rw [e] at h; exact h2 h
/-! ### The two lists -/
def Dual (ps : List Int) (H K : List Int → Bool) : Prop := ∀ x : List Int, x.Sublist ps → K x = !H (minus ps x)
theorem minus_minus {ps x : List Int} (hn : ps.Pairwise (· < ·)) (hx : x.Sublist ps) : minus ps (minus ps x) = x :=
  sub_ext hn (minus_sub _ _) hx fun p => by
    rw [minus_mem, minus_mem]
    exact ⟨fun h => Classical.byContradiction fun hp => h.2 ⟨h.1, hp⟩, fun h => ⟨hx.subset h, fun h' => h'.2 h⟩⟩
theorem Dual.symm {ps : List Int} (hn : ps.Pairwise (· < ·)) {H K : List Int → Bool} (h : Dual ps H K) : Dual ps K H := fun x hx => by
  rw [h _ (minus_sub _ _), minus_minus hn hx, Bool.not_not]
theorem hB_dual (g : Gt) : Dual g.rpeople g.holds g.hB := fun x _ => rfl
section
variable {ps : List Int} {H K : List Int → Bool}
theorem dual_meet (hn : ps.Pairwise (· < ·)) (hm : Mono ps H) (hd : Dual ps H K) {a b : List Int} (ha : a ∈ setsP ps H) (hb : b ∈ setsP ps K) : ∃ p ∈ a, p ∈ b := by
  apply Classical.byContradiction
  intro hno
  obtain ⟨has, ham⟩ := (setsP_mem _ _ _).1 ha
  obtain ⟨hbs, hbm⟩ := (setsP_mem _ _ _).1 hb
  have h1 := hm a (minus ps b) has (minus_sub _ _) (fun p hp => (minus_mem _ _ _).2 ⟨has.subset hp, fun h => hno ⟨p, hp, h⟩⟩) ((minB_iff _ _).1 ham).1
  have h2 := ((minB_iff _ _).1 hbm).1
  rw [hd b hbs, h1] at h2
  cases h2
theorem dual_met (hn : ps.Pairwise (· < ·)) (hm : Mono ps H) (hd : Dual ps H K) {a : List Int} {p : Int} (ha : a ∈ setsP ps H) (hp : p ∈ a) : ∃ b ∈ setsP ps K, p ∈ b := by
  obtain ⟨has, ham⟩ := (setsP_mem _ _ _).1 ha
  have hys : (minus a [p]).Sublist ps := (minus_sub _ _).trans has
  have hK : K (minus ps (minus a [p])) = true := by
    rw [hd _ (minus_sub _ _), minus_minus hn hys, ((minB_iff _ _).1 ham).2 p hp]; rfl
  obtain ⟨z, hz, hzs⟩ := min_below hn _ _ (Nat.le_refl _) (minus_sub _ _) hK
  obtain ⟨q, hqa, hqz⟩ := dual_meet hn hm hd ha hz
  have h1 := ((minus_mem _ _ _).1 (hzs q hqz)).2
  have e : q = p := Classical.byContradiction fun hne => h1 ((minus_mem _ _ _).2 ⟨hqa, by simpa using hne⟩)
  subst e
  exact ⟨z, hz, hqz⟩
/-! ### Lists that agree -/
theorem inB_iff (a b : List Int) : inB a b = true ↔ ∀ p ∈ a, p ∈ b := by simp [inB]
/-- Is a list strictly increasing? -/
def incB : List Int → Bool
  | [] => true
  | [_] => true
  | x :: y :: ys => decide (x < y) && incB (y :: ys)
theorem incB_iff : ∀ l : List Int, incB l = true ↔ l.Pairwise (· < ·)
  | [] => by simp [incB]
  | [x] => by simp [incB]
  | x :: y :: ys => by
    rw [incB, Bool.and_eq_true, decide_eq_true_eq, incB_iff (y :: ys), List.pairwise_cons (a := x)]
    refine and_congr_left fun h => ⟨fun hxy z hz => ?_, fun h => h y (by simp)⟩
    rcases List.mem_cons.1 hz with rfl | hz
    · exact hxy
    · have := (List.pairwise_cons.1 h).1 z hz; omega
/-- May x follow these rows? -/
def rowOk (ps : List Int) (pre : List (List Int)) (x : List Int) : Bool :=
  incB x && inB x ps && ((pre.getLast?.map fun y => beforeB y x).getD true) && pre.all fun y => !inB y x
/-- Are the rows, behind those, in order, and does H hold of each? -/
def okFrom (ps : List Int) (H : List Int → Bool) (pre : List (List Int)) : List (List Int) → Bool
  | [] => true
  | x :: xs => (rowOk ps pre x && H x) && okFrom ps H (pre ++ [x]) xs
theorem okFrom_and (H : List Int → Bool) : ∀ (l pre : List (List Int)), okFrom ps H pre l = (okFrom ps (fun _ => true) pre l && l.all H)
  | [], _ => rfl
  | x :: xs, pre => by
    rw [okFrom, okFrom, okFrom_and H xs, List.all_cons]
    cases rowOk ps pre x <;> cases H x <;> cases okFrom ps (fun _ => true) (pre ++ [x]) xs <;> rfl
def Good (ps : List Int) (H : List Int → Bool) (l : List (List Int)) : Prop := (∀ x ∈ l, x.Sublist ps ∧ H x = true) ∧ (l.Pairwise fun a b => beforeB a b = true) ∧ l.Pairwise fun a b => inB a b = false
theorem good_snoc (hn : ps.Pairwise (· < ·)) (pre : List (List Int)) (x : List Int) (hg : Good ps H pre) : (rowOk ps pre x && H x) = true ↔ Good ps H (pre ++ [x]) := by
  simp only [rowOk, Good, Bool.and_eq_true, List.mem_append, List.mem_singleton, List.pairwise_append, List.pairwise_singleton, true_and, List.all_eq_true, Bool.not_eq_true', incB_iff, inB_iff]
  obtain ⟨g1, g2, g3⟩ := hg
  constructor
  · rintro ⟨⟨⟨⟨h1, h2⟩, h3⟩, h4⟩, h5⟩
    refine ⟨?_, ⟨g2, ?_⟩, ⟨g3, ?_⟩⟩
    · rintro y (hy | rfl)
      · exact g1 y hy
      · exact ⟨sorted_sub h1 hn h2, h5⟩
    · rintro a ha b rfl
      rcases List.eq_nil_or_concat pre with rfl | ⟨l, z, rfl⟩
      · cases ha
      · rw [List.concat_eq_append] at *
        simp only [List.getLast?_append, List.getLast?_singleton, Option.some_or, Option.map_some, Option.getD_some] at h3
        rw [List.pairwise_append] at g2
        rcases List.mem_append.1 ha with ha | ha
        · exact beforeB_trans (g2.2.2 a ha z (by simp)) h3
        · rw [List.mem_singleton.1 ha]; exact h3
    · rintro a ha b rfl
      exact h4 a ha
  · rintro ⟨h1, ⟨-, h2⟩, ⟨-, h3⟩⟩
    obtain ⟨hs, hH⟩ := h1 x (.inr rfl)
    refine ⟨⟨⟨⟨hn.sublist hs, hs.subset⟩, ?_⟩, fun a ha => h3 a ha x rfl⟩, hH⟩
    rcases List.eq_nil_or_concat pre with rfl | ⟨l, z, rfl⟩
    · rfl
    · rw [List.concat_eq_append] at *
      simp only [List.getLast?_append, List.getLast?_singleton, Option.some_or, Option.map_some, Option.getD_some]
      exact h2 z (by simp) x rfl
theorem good_pre {a b : List (List Int)} (h : Good ps H (a ++ b)) : Good ps H a := by
  obtain ⟨h1, h2, h3⟩ := h
  rw [List.pairwise_append] at h2 h3
  exact ⟨fun x hx => h1 x (List.mem_append.2 (.inl hx)), h2.1, h3.1⟩
theorem okFrom_good (hn : ps.Pairwise (· < ·)) : ∀ (l pre : List (List Int)), Good ps H pre → (okFrom ps H pre l = true ↔ Good ps H (pre ++ l))
  | [], pre, hg => by rw [List.append_nil]; exact ⟨fun _ => hg, fun _ => rfl⟩
  | x :: xs, pre, hg => by
    rw [okFrom, Bool.and_eq_true, show pre ++ x :: xs = (pre ++ [x]) ++ xs from by simp]
    constructor
    · rintro ⟨h1, h2⟩
      have := (good_snoc hn pre x hg).1 h1
      exact (okFrom_good hn xs _ this).1 h2
    · intro h
      have := good_pre h
      exact ⟨(good_snoc hn pre x hg).2 this, (okFrom_good hn xs _ this).2 h⟩
theorem okFrom_iff (hn : ps.Pairwise (· < ·)) (l : List (List Int)) : okFrom ps H [] l = true ↔ Good ps H l :=
  okFrom_good hn l [] ⟨by simp, List.Pairwise.nil, List.Pairwise.nil⟩
/-- Is a row of l a part of x? -/
def someB (l : List (List Int)) (x : List Int) : Bool := l.any fun y => inB y x
def agreeB (ps : List Int) (H K : List Int → Bool) (l m : List (List Int)) : Bool :=
  okFrom ps H [] l && (okFrom ps K [] m && (allR ps).all fun s => someB l s || someB m (minus ps s))
theorem sets_good (hn : ps.Pairwise (· < ·)) (hm : Mono ps H) : Good ps H (setsP ps H) := by
  refine ⟨fun x hx => ?_, setsP_order hn H, ?_⟩
  · obtain ⟨h1, h2⟩ := (setsP_mem _ _ _).1 hx
    exact ⟨h1, ((minB_iff _ _).1 h2).1⟩
  · refine (List.Pairwise.and_mem.1 (beforeB_nodup (setsP_order hn H))).imp ?_
    rintro a b ⟨ha, hb, hab⟩
    cases e : inB a b with
    | false => rfl
    | true =>
      obtain ⟨h1, h2⟩ := (setsP_mem _ _ _).1 ha
      exact absurd (min_anti hn hm h1 ((minB_iff _ _).1 h2).1 hb ((inB_iff _ _).1 e)) hab
theorem someB_iff (l : List (List Int)) (x : List Int) : someB l x = true ↔ ∃ y ∈ l, ∀ p ∈ y, p ∈ x := by
  simp [someB, inB_iff]
theorem some_sets (hn : ps.Pairwise (· < ·)) (hm : Mono ps H) {x : List Int} (hx : x.Sublist ps) : someB (setsP ps H) x = H x := by
  rw [Bool.eq_iff_iff, someB_iff, some_iff hn hm hx]
theorem good_half (hn : ps.Pairwise (· < ·)) (hmH : Mono ps H) (hmK : Mono ps K) (hd : Dual ps H K) {l m : List (List Int)} (hl : Good ps H l) (hm : Good ps K m)
    (h : ∀ s : List Int, s.Sublist ps → (∃ y ∈ l, ∀ p ∈ y, p ∈ s) ∨ ∃ z ∈ m, ∀ p ∈ z, p ∈ minus ps s) : l = setsP ps H := by
  have h1 : ∀ x ∈ setsP ps H, x ∈ l := by
    intro x hx
    obtain ⟨hxs, hxm⟩ := (setsP_mem _ _ _).1 hx
    rcases h x hxs with ⟨y, hy, hyx⟩ | ⟨z, hz, hzx⟩
    · rw [← min_anti hn hmH (hl.1 y hy).1 (hl.1 y hy).2 hx hyx]; exact hy
    · have hK := hmK z (minus ps x) (hm.1 z hz).1 (minus_sub _ _) hzx (hm.1 z hz).2
      rw [hd _ (minus_sub _ _), minus_minus hn hxs, ((minB_iff _ _).1 hxm).1] at hK
      cases hK
  refine before_ext hl.2.1 (setsP_order hn H) fun x => ⟨fun hx => ?_, h1 x⟩
  obtain ⟨hxs, hxH⟩ := hl.1 x hx
  obtain ⟨y, hy, hyx⟩ := min_below hn _ x (Nat.le_refl _) hxs hxH
  by_cases e : y = x
  · rw [← e]; exact hy
  · have hyl := h1 y hy
    have hord := hl.2.1
    have hpart := hl.2.2
    have hsub := sorted_sub (hn.sublist ((setsP_mem _ _ _).1 hy).1) (hn.sublist hxs) hyx
    obtain ⟨i, hi, rfl⟩ := List.getElem_of_mem hyl
    obtain ⟨j, hj, rfl⟩ := List.getElem_of_mem hx
    rw [List.pairwise_iff_getElem] at hord hpart
    rcases Nat.lt_trichotomy i j with h2 | h2 | h2
    · have := hpart i j hi hj h2
      rw [(inB_iff _ _).2 hyx] at this; cases this
    · subst h2; exact absurd rfl e
    · have hb := hord j i hj hi h2
      have hle := beforeB_le hb
      exact absurd (hsub.eq_of_length (Nat.le_antisymm hsub.length_le hle)) e
/-- Only the smallest sets agree. -/
theorem agree_iff (hn : ps.Pairwise (· < ·)) (hmH : Mono ps H) (hmK : Mono ps K) (hd : Dual ps H K) (l m : List (List Int)) : agreeB ps H K l m = true ↔ l = setsP ps H ∧ m = setsP ps K := by
  unfold agreeB
  rw [Bool.and_eq_true, Bool.and_eq_true, okFrom_iff hn, okFrom_iff hn, List.all_eq_true]
  constructor
  · rintro ⟨hl, hm, h⟩
    have h' : ∀ s : List Int, s.Sublist ps → (∃ y ∈ l, ∀ p ∈ y, p ∈ s) ∨ ∃ z ∈ m, ∀ p ∈ z, p ∈ minus ps s := by
      intro s hs
      have := h s ((allR_mem _ _).2 hs)
      rwa [Bool.or_eq_true, someB_iff, someB_iff] at this
    refine ⟨good_half hn hmH hmK hd hl hm h', good_half hn hmK hmH (hd.symm hn) hm hl fun s hs => ?_⟩
    have := h' (minus ps s) (minus_sub _ _)
    rw [minus_minus hn hs] at this
    exact this.symm
  · rintro ⟨rfl, rfl⟩
    refine ⟨sets_good hn hmH, sets_good hn hmK, fun s hs => ?_⟩
    have hs' := (allR_mem _ _).1 hs
    rw [some_sets hn hmH hs', some_sets hn hmK (minus_sub _ _), hd _ (minus_sub _ _), minus_minus hn hs']
    cases H s <;> rfl
end
end Go.Proofs.Ytmnpbopkhpbhiaa
