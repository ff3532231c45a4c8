/- The plain laws of layer 51. -/
import Derived.Test.YtmnpbopkhpbhiaaPlainSets
set_option linter.unusedVariables false
set_option linter.unusedSimpArgs false
namespace Go.Proofs.Ytmnpbopkhpbhiaa
open Go.RowKit
theorem Holds_ok {g : Gt} (hc : g.rcheck = 0) {who : List Int} (h : peopleFrom (-1) who = true) : g.Holds who = (g.holds who, 0) := by rw [← rHolds_eq, rHolds_ok hc h]
theorem rerr51_parts {g : Gt} {alive : List Int} (h : g.rerr51 alive = 0) : g.rerr = 0 ∧ g.rcheck = 0 ∧ g.right = true ∧ peopleFrom (-1) alive = true := by
  have h1 := rerr51_rerr h
  have h2 := rerr_check h1
  refine ⟨h1, h2, rcheck_right h2, ?_⟩
  unfold Gt.rerr51 at h
  rw [if_neg (by simp [h1])] at h
  cases hp : peopleFrom (-1) alive with
  | true => rfl
  | false => rw [hp] at h; simp at h
/-- Those of the people who are alive. -/
def Gt.mine (g : Gt) (alive : List Int) : List Int := both g.rpeople alive
theorem mine_sorted (g : Gt) (alive : List Int) : (g.mine alive).Pairwise (· < ·) := (rpeople_sorted g).sublist (both_sub _ _)
theorem mine_mem (g : Gt) (alive : List Int) (x : Int) : x ∈ g.mine alive ↔ x ∈ g.ppl ∧ x ∈ alive := by rw [Gt.mine, both_mem, rpeople_mem]
theorem mine_holds (g : Gt) (alive : List Int) : g.holds (g.mine alive) = g.holds alive := holds_congr fun p hp => by rw [mine_mem]; simp [hp]
theorem sub_ok {g : Gt} (h : g.right = true) {x : List Int} (hs : x.Sublist g.rpeople) : peopleFrom (-1) x = true := peopleFrom_sub (rpeople_ok h) hs
theorem Living_plain (g : Gt) (alive : List Int) (he : g.rerr51 alive = 0) :
    (∃ who, g.holds alive = true ∧ g.Living alive = (who, true, 0) ∧ who.Sublist (g.mine alive) ∧ g.holds who = true ∧ ∀ y, y.Sublist (g.mine alive) → g.holds y = true → y = who ∨ beforeB who y = true) ∨
    (g.holds alive = false ∧ g.Living alive = ([], false, 0)) := by
  obtain ⟨h1, h2, h3, h4⟩ := rerr51_parts he
  have hp : ∀ x, x.Sublist (g.mine alive) → (g.rHolds x).1 = g.holds x := fun x hx => by rw [rHolds_ok h2 (sub_ok h3 (hx.trans (both_sub _ _)))]
  rw [Living_eq, Gt.rLiving, if_neg (by simp [he])]
  rcases foundR_cases (fun x => (g.rHolds x).1) (allR_order (mine_sorted g alive)) with ⟨x, hx, hpx, hf, hfirst⟩ | ⟨hn, hf⟩
  · left
    have hxs := (allR_mem _ _).1 hx
    have hh : g.holds x = true := by rw [← hp x hxs]; exact hpx
    refine ⟨x, ?_, hf, hxs, hh, fun y hy hyh => hfirst y ((allR_mem _ _).2 hy) (by rw [hp y hy]; exact hyh)⟩
    rw [← mine_holds]
    exact holds_mono x _ g (fun p _ hpx => hxs.subset hpx) hh
  · right
    refine ⟨?_, hf⟩
    have := hn (g.mine alive) ((allR_mem _ _).2 (List.Sublist.refl _))
    rw [hp _ (List.Sublist.refl _), mine_holds] at this
    exact this
theorem Dead_plain (g : Gt) (alive : List Int) (he : g.rerr51 alive = 0) :
    (g.holds alive = true ∧ g.Dead alive = ([], false, 0)) ∨
    (∃ block, g.holds alive = false ∧ g.Dead alive = (block, true, 0) ∧ block.Sublist (minus g.rpeople alive) ∧ g.holds (minus g.rpeople block) = false ∧
      ∀ y, y.Sublist (minus g.rpeople alive) → g.holds (minus g.rpeople y) = false → y = block ∨ beforeB block y = true) := by
  obtain ⟨h1, h2, h3, h4⟩ := rerr51_parts he
  have hp : ∀ x, (g.rHolds (minus g.rpeople x)).1 = g.holds (minus g.rpeople x) := fun x => by rw [rHolds_ok h2 (sub_ok h3 (minus_sub _ _))]
  rw [Dead_eq, Gt.rDead, if_neg (by simp [he]), rHolds_ok h2 h4]
  cases hh : g.holds alive with
  | true => left; exact ⟨rfl, by simp⟩
  | false =>
    right
    simp only [Bool.false_eq_true, if_false]
    rcases foundR_cases (fun x => !(g.rHolds (minus g.rpeople x)).1) (allR_order ((rpeople_sorted g).sublist (minus_sub g.rpeople alive))) with ⟨x, hx, hpx, hf, hfirst⟩ | ⟨hn, hf⟩
    · refine ⟨x, by first | rfl | trivial, hf, (allR_mem _ _).1 hx, ?_, fun y hy hyh => hfirst y ((allR_mem _ _).2 hy) (by rw [hp y, hyh]; rfl)⟩
      rw [hp x] at hpx
      simpa using hpx
    · have := hn (minus g.rpeople alive) ((allR_mem _ _).2 (List.Sublist.refl _))
      rw [hp] at this
      have h5 : g.holds (minus g.rpeople (minus g.rpeople alive)) = g.holds alive := holds_congr fun p hpp => by
        rw [minus_mem, minus_mem, rpeople_mem]
        simp [hpp]
      rw [h5, hh] at this
      simp at this
theorem Margin_plain (g : Gt) (alive : List Int) (he : g.rerr51 alive = 0) :
    (g.holds alive = false ∧ g.Margin alive = ([], false, 0)) ∨
    (∃ lost, g.holds alive = true ∧ g.Margin alive = (lost, true, 0) ∧ lost.Sublist (g.mine alive) ∧ g.holds (minus (g.mine alive) lost) = false ∧
      ∀ y, y.Sublist (g.mine alive) → g.holds (minus (g.mine alive) y) = false → y = lost ∨ beforeB lost y = true) := by
  obtain ⟨h1, h2, h3, h4⟩ := rerr51_parts he
  have hp : ∀ x, (g.rHolds (minus (g.mine alive) x)).1 = g.holds (minus (g.mine alive) x) := fun x => by rw [rHolds_ok h2 (sub_ok h3 (x := minus (g.mine alive) x) ((minus_sub _ _).trans (both_sub _ _)))]
  rw [Margin_eq, Gt.rMargin, if_neg (by simp [he]), rHolds_ok h2 h4]
  cases hh : g.holds alive with
  | false => left; exact ⟨rfl, by simp⟩
  | true =>
    right
    simp only [Bool.true_eq_false, if_false]
    rcases foundR_cases (fun x => !(g.rHolds (minus (g.mine alive) x)).1) (allR_order (mine_sorted g alive)) with ⟨x, hx, hpx, hf, hfirst⟩ | ⟨hn, hf⟩
    · refine ⟨x, by first | rfl | trivial, hf, (allR_mem _ _).1 hx, ?_, fun y hy hyh => hfirst y ((allR_mem _ _).2 hy) (by rw [hp y, hyh]; rfl)⟩
      rw [hp x] at hpx
      simpa using hpx
    · have := hn (g.mine alive) ((allR_mem _ _).2 (List.Sublist.refl _))
      rw [hp, minus_nil (fun x hx => hx), holds_nobody g h3] at this
      simp at this
theorem bad_plain (g : Gt) (alive : List Int) (he : g.rerr51 alive ≠ 0) :
    g.Living alive = ([], false, g.rerr51 alive) ∧ g.Dead alive = ([], false, g.rerr51 alive) ∧ g.Margin alive = ([], false, g.rerr51 alive) := by
  rw [Living_eq, Dead_eq, Margin_eq, Gt.rLiving, Gt.rDead, Gt.rMargin, if_pos he, if_pos he, if_pos he]
  exact ⟨rfl, rfl, rfl⟩
/-! ### LivingMargin -/
theorem margin_rest (g : Gt) (alive lost : List Int) : g.holds (minus alive lost) = g.holds (minus (g.mine alive) lost) := holds_congr fun p hp => by
  rw [minus_mem, minus_mem, mine_mem]; simp [hp]
/-- The last test of LivingMargin. -/
def tooFew (g : Gt) (alive others lost : List Int) : Bool :=
  g.holds (minus alive (both alive others)) || (decide (lost.length < (both alive others).length) || (decide ((both alive others).length = lost.length) && !beforeB (both alive others) lost))
theorem tooFew_plain (g : Gt) (alive others lost : List Int) (he : g.rerr51 alive = 0) (hs : lost.Sublist (g.mine alive))
    (hf : ∀ y, y.Sublist (g.mine alive) → g.holds (minus (g.mine alive) y) = false → y = lost ∨ beforeB lost y = true) : tooFew g alive others lost = true := by
  obtain ⟨h1, h2, h3, h4⟩ := rerr51_parts he
  have hal := ((peopleFrom_iff alive (-1)).1 h4).1
  unfold tooFew
  cases hst : g.holds (minus alive (both alive others)) with
  | true => rfl
  | false =>
    have hown : (both alive others).Pairwise (· < ·) := hal.sublist (both_sub _ _)
    have hls : (both (g.mine alive) others).Sublist (g.mine alive) := both_sub _ _
    have hlo : (both (g.mine alive) others).Sublist (both alive others) := by
      refine sorted_sub ((mine_sorted g alive).sublist hls) hown fun x hx => ?_
      rw [both_mem] at hx ⊢
      exact ⟨((mine_mem g alive x).1 hx.1).2, hx.2⟩
    have hhl : g.holds (minus (g.mine alive) (both (g.mine alive) others)) = false := by
      rw [← hst]
      refine holds_congr fun p hp => ?_
      rw [minus_mem, minus_mem, both_mem, both_mem, mine_mem]
      simp [hp]
    have hlen := hlo.length_le
    rcases hf _ hls hhl with e | hb
    · rw [Bool.false_or]
      by_cases hlt : lost.length < (both alive others).length
      · simp [hlt]
      · have hl2 : (both alive others).length = lost.length := by rw [← e] at hlt ⊢; omega
        have heq : both (g.mine alive) others = both alive others := hlo.eq_of_length (by rw [e]; exact hl2.symm)
        rw [← heq, e, beforeB_irrefl]
        simp
    · have hle := beforeB_le hb
      rw [Bool.false_or]
      by_cases hlt : lost.length < (both alive others).length
      · simp [hlt]
      · have hl2 : (both alive others).length = lost.length := by omega
        have heq : both (g.mine alive) others = both alive others := hlo.eq_of_length (by omega)
        rw [heq] at hb
        simp [hl2, beforeB_asymm _ _ hb]
/-! ### LivingMore -/
/-- The numbers below k that are alive, or the other one. -/
def moreTo (alive : List Int) (other : Int) : Nat → List Int
  | 0 => []
  | k + 1 => moreTo alive other k ++ (if (k : Int) = other ∨ (k : Int) ∈ alive then [(k : Int)] else [])
theorem moreTo_mem (alive : List Int) (other x : Int) : ∀ k : Nat, x ∈ moreTo alive other k ↔ 0 ≤ x ∧ x < k ∧ (x = other ∨ x ∈ alive)
  | 0 => by simp [moreTo]; omega
  | k + 1 => by
    rw [moreTo, List.mem_append, moreTo_mem alive other x k]
    by_cases h : (k : Int) = other ∨ (k : Int) ∈ alive
    · rw [if_pos h, List.mem_singleton]
      constructor
      · rintro (⟨h1, h2, h3⟩ | rfl)
        · exact ⟨h1, by omega, h3⟩
        · exact ⟨by omega, by omega, h⟩
      · rintro ⟨h1, h2, h3⟩
        by_cases e : x = (k : Int)
        · exact .inr e
        · exact .inl ⟨h1, by omega, h3⟩
    · rw [if_neg h]
      constructor
      · rintro (⟨h1, h2, h3⟩ | h')
        · exact ⟨h1, by omega, h3⟩
        · cases h'
      · rintro ⟨h1, h2, h3⟩
        by_cases e : x = (k : Int)
        · subst e; exact absurd h3 h
        · exact .inl ⟨h1, by omega, h3⟩
theorem moreTo_sorted (alive : List Int) (other : Int) : ∀ k : Nat, (moreTo alive other k).Pairwise (· < ·)
  | 0 => by simp [moreTo]
  | k + 1 => by
    rw [moreTo, List.pairwise_append]
    refine ⟨moreTo_sorted alive other k, by split <;> simp, fun a ha b hb => ?_⟩
    have := (moreTo_mem alive other a k).1 ha
    split at hb
    · rw [List.mem_singleton] at hb; omega
    · cases hb
theorem moreTo_length (alive : List Int) (other : Int) : ∀ k : Nat, (moreTo alive other k).length ≤ k
  | 0 => by simp [moreTo]
  | k + 1 => by
    have := moreTo_length alive other k
    rw [moreTo, List.length_append]
    split <;> simp <;> omega
def moreL (alive : List Int) (other : Int) : List Int := moreTo alive other 64
theorem moreL_mem {alive : List Int} {other : Int} (h : peopleFrom (-1) alive = true) (h0 : 0 ≤ other) (h1 : other < 64) (x : Int) : x ∈ moreL alive other ↔ x = other ∨ x ∈ alive := by
  rw [moreL, moreTo_mem]
  have := ((peopleFrom_iff alive (-1)).1 h).2
  constructor
  · rintro ⟨_, _, h⟩; exact h
  · rintro (rfl | hx)
    · exact ⟨h0, by simpa using h1, .inl rfl⟩
    · have := this x hx
      exact ⟨by omega, by simp; omega, .inr hx⟩
theorem moreL_err {g : Gt} {alive : List Int} {other : Int} (he : g.rerr51 alive = 0) (h0 : 0 ≤ other) (h1 : other < 64) : g.rerr51 (moreL alive other) = 0 := by
  obtain ⟨h2, _, _, h4⟩ := rerr51_parts he
  have hp : peopleFrom (-1) (moreL alive other) = true := by
    rw [peopleFrom_iff]
    refine ⟨moreTo_sorted _ _ _, fun x hx => ?_⟩
    have := (moreTo_mem alive other x 64).1 hx
    omega
  unfold Gt.rerr51
  rw [if_neg (by simp [h2]), if_pos hp]
/-- What LivingMore asks of the four answers. -/
def moreAsks (L N M K : List Int × Bool × Int) : Bool :=
  decide (L.2.2 = 0) && decide (N.2.2 = 0) && decide (M.2.2 = 0) && decide (K.2.2 = 0) && (L.2.1 == M.2.1) && (N.2.1 == K.2.1) && (!L.2.1 || (N.2.1 && decide (M.1.length ≤ K.1.length) && decide (N.1.length ≤ L.1.length)))
theorem more_plain (g : Gt) (alive : List Int) (other : Int) (he : g.rerr51 alive = 0) (h0 : 0 ≤ other) (h1 : other < 64) :
    moreAsks (g.Living alive) (g.Living (moreL alive other)) (g.Margin alive) (g.Margin (moreL alive other)) = true := by
  obtain ⟨_, h2, h3, h4⟩ := rerr51_parts he
  have he2 := moreL_err he h0 h1
  have hmm := moreL_mem h4 h0 h1
  have hsub : (g.mine alive).Sublist (g.mine (moreL alive other)) := sorted_sub (mine_sorted _ _) (mine_sorted _ _) fun x hx => by
    rw [mine_mem] at hx ⊢
    exact ⟨hx.1, (hmm x).2 (.inr hx.2)⟩
  have hmono : g.holds alive = true → g.holds (moreL alive other) = true := holds_mono _ _ g fun p _ hp => (hmm p).2 (.inr hp)
  rcases Living_plain g alive he with ⟨who, ha, hL, hw, hwh, hwf⟩ | ⟨ha, hL⟩
  · have hb := hmono ha
    rcases Living_plain g _ he2 with ⟨now, _, hN, hn, hnh, hnf⟩ | ⟨hb', _⟩
    · rcases Margin_plain g alive he with ⟨ha', _⟩ | ⟨lost, _, hM, hl, hlh, hlf⟩
      · rw [ha] at ha'; cases ha'
      · rcases Margin_plain g _ he2 with ⟨hb', _⟩ | ⟨less, _, hK, hk, hkh, hkf⟩
        · rw [hb] at hb'; cases hb'
        · have c1 : now.length ≤ who.length := by
            rcases hnf who (hw.trans hsub) hwh with e | hbf
            · rw [e]; exact Nat.le_refl _
            · exact beforeB_le hbf
          have c2 : lost.length ≤ less.length := by
            have hss : (both less (g.mine alive)).Sublist (g.mine alive) := sorted_sub (((mine_sorted _ _).sublist hk).sublist (both_sub _ _)) (mine_sorted _ _) fun x hx => ((both_mem _ _ _).1 hx).2
            have hh : g.holds (minus (g.mine alive) (both less (g.mine alive))) = false := by
              rw [Bool.eq_false_iff]
              intro hc
              have := holds_mono (minus (g.mine alive) (both less (g.mine alive))) (minus (g.mine (moreL alive other)) less) g (fun p hp hpp => by
                rw [minus_mem, both_mem] at hpp
                rw [minus_mem]
                exact ⟨hsub.subset hpp.1, fun hx => hpp.2 ⟨hx, hpp.1⟩⟩) hc
              rw [hkh] at this; cases this
            have hll : (both less (g.mine alive)).length ≤ less.length := (both_sub _ _).length_le
            rcases hlf _ hss hh with e | hbf
            · rw [← e]; exact hll
            · exact Nat.le_trans (beforeB_le hbf) hll
          rw [hL, hN, hM, hK]
          simp [moreAsks, c1, c2]
    · rw [hb] at hb'; cases hb'
  · rcases Margin_plain g alive he with ⟨_, hM⟩ | ⟨lost, ha', _⟩
    · rw [hL, hM]
      rcases Living_plain g _ he2 with ⟨now, hb, hN, _⟩ | ⟨hb, hN⟩
      · rcases Margin_plain g _ he2 with ⟨hb', _⟩ | ⟨less, _, hK, _⟩
        · rw [hb] at hb'; cases hb'
        · rw [hN, hK]; simp [moreAsks]
      · rcases Margin_plain g _ he2 with ⟨_, hK⟩ | ⟨less, hb', _⟩
        · rw [hN, hK]; simp [moreAsks]
        · rw [hb] at hb'; cases hb'
    · rw [ha] at ha'; cases ha'
theorem more_same (g : Gt) (alive : List Int) (other : Int) (he : g.rerr51 alive = 0) (h0 : 0 ≤ other) (h1 : other < 64) (hn : other ∉ g.rpeople) :
    g.Living (moreL alive other) = g.Living alive ∧ g.Margin (moreL alive other) = g.Margin alive := by
  obtain ⟨_, h2, h3, h4⟩ := rerr51_parts he
  have he2 := moreL_err he h0 h1
  obtain ⟨_, _, _, h5⟩ := rerr51_parts he2
  have hmm := moreL_mem h4 h0 h1
  have hown : both g.rpeople (moreL alive other) = both g.rpeople alive := by
    unfold both
    refine List.filter_congr fun x hx => ?_
    rw [decide_eq_decide, hmm]
    constructor
    · rintro (rfl | h)
      · exact absurd hx hn
      · exact h
    · exact .inr
  have hh : g.holds (moreL alive other) = g.holds alive := by
    rw [← mine_holds g alive, ← mine_holds g (moreL alive other), Gt.mine, Gt.mine, hown]
  refine ⟨?_, ?_⟩
  · rw [Living_eq, Living_eq, Gt.rLiving, Gt.rLiving, if_neg (by simp [he2]), if_neg (by simp [he]), hown]
  · rw [Margin_eq, Margin_eq, Gt.rMargin, Gt.rMargin, hown, rHolds_ok h2 h4, rHolds_ok h2 h5, hh, he, he2]
end Go.Proofs.Ytmnpbopkhpbhiaa
