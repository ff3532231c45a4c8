/- Rows of rows of the call's own. -/
import Derived.Test.YtmnpbopkhpbhiaaAppend
set_option linter.unusedVariables false
set_option linter.unusedSimpArgs false
namespace Go.Proofs.Ytmnpbopkhpbhiaa
open Go.RowKit
/-- Each of the values owns its row. -/
def Rows (w : World) (base : Nat) (us : List Value) (xss : List (List Int)) : Prop :=
  us.length = xss.length ∧ ∀ j (h : j < us.length) (h' : j < xss.length), Own w base 3 us[j] (intVs xss[j])
theorem Rows.nil (w : World) (base : Nat) : Rows w base [] [] := ⟨rfl, fun j h => by simp at h⟩
theorem Rows.one {w : World} {base : Nat} {u : Value} {x : List Int} (h : Own w base 3 u (intVs x)) : Rows w base [u] [x] :=
  ⟨rfl, fun j hj hj' => by
    obtain rfl : j = 0 := by simpa using hj
    exact h⟩
theorem Rows.keep {w W : World} (h : Keep w W) {base : Nat} {us : List Value} {xss : List (List Int)} (hr : Rows w base us xss) : Rows W base us xss :=
  ⟨hr.1, fun j h1 h2 => own_keep h (hr.2 j h1 h2)⟩
theorem Rows.lower {w : World} {base base' : Nat} {us : List Value} {xss : List (List Int)} (hr : Rows w base us xss) (hb : base' ≤ base) : Rows w base' us xss :=
  ⟨hr.1, fun j h1 h2 => own_lower (hr.2 j h1 h2) hb⟩
theorem Rows.append {w : World} {base : Nat} {us us2 : List Value} {xss xss2 : List (List Int)} (h : Rows w base us xss) (h2 : Rows w base us2 xss2) : Rows w base (us ++ us2) (xss ++ xss2) := by
  refine ⟨by simp [h.1, h2.1], fun j hj hj' => ?_⟩
  by_cases hlt : j < us.length
  · rw [List.getElem_append_left hlt, List.getElem_append_left (by rw [← h.1]; exact hlt)]
    exact h.2 j hlt _
  · rw [List.getElem_append_right (by omega), List.getElem_append_right (by rw [← h.1]; omega)]
    simp only [h.1]
    have hl := h.1
    exact h2.2 _ (by simp at hj; omega) _
theorem int_ne : (3 : TypeId) ≠ 25 := by decide
/-- An append to the row of rows does not touch the rows. -/
theorem Rows.grown {w W : World} {base base' : Nat} {us : List Value} {xss : List (List Int)} (h : Rows w base us xss) {v : Value} {vs : List Value} (hv : Own w base' 25 v vs) (hg : w.grownBy W v.ownBlock) : Rows W base us xss :=
  ⟨h.1, fun j h1 h2 => own_other (h.2 j h1 h2) hv int_ne hg⟩
/-- A row of rows reads as a list of lists. -/
theorem Rows.intss {w : World} {base : Nat} {v : Value} {us : List Value} {xss : List (List Int)} (hv : Own w base 25 v us) (h : Rows w base us xss) (hl : xss.length ≤ 17592186044416) (hm : ∀ x ∈ xss, x.length ≤ 17592186044416) : Intss w v xss :=
  own_sl hv h.1 hl (fun i h1 h2 => own_ints (h.2 i (by rw [h.1]; first | exact h1 | exact h2) (by first | exact h1 | exact h2)) (hm _ (List.getElem_mem _)))
theorem info_ints : (Try.prog.info? 25).map (fun i => (i.zero, i.size, i.bytes)) = some (some (.slice none 0 0), 1, 24) := by kernel_rfl
theorem one_rows {w : World} {base : Nat} {us : List Value} {xss : List (List Int)} (h : Rows w base us xss) : ∀ u ∈ us, u.oneCell' = true := by
  intro u hu
  obtain ⟨j, hj, rfl⟩ := List.getElem_of_mem hu
  rcases (h.2 j hj (by rw [← h.1]; exact hj)).2 with ⟨e, _⟩ | ⟨g, cap, cur, e, _⟩
  · rw [e]; rfl
  · rw [e]; rfl
theorem Own.slice {w : World} {base : Nat} {e : TypeId} {v : Value} {us : List Value} (h : Own w base e v us) : ∃ a n c, v = .slice a n c ∧ n = us.length := by
  obtain ⟨a, c, e, _⟩ := Own.cells h
  exact ⟨a, _, c, e, rfl⟩
/-- Behind an append: the row that was appended to, or a new one. -/
theorem grown_row {A B C : World} {row : Option Nat} {v : Value} (h : A.grownBy B row) (hv : v.ownBlock = row ∨ ∃ b, v.ownBlock = some b ∧ A.heap.size ≤ b) (hg : B.grownBy C v.ownBlock) : A.grownBy C row := by
  refine ⟨hg.os.trans h.os, hg.tape.trans h.tape, hg.output.trans h.output, Nat.le_trans h.size hg.size, fun k hk hne => ?_⟩
  rw [hg.block k (Nat.lt_of_lt_of_le hk h.size) ?_, h.block k hk hne]
  rcases hv with hv | ⟨b, hv, hb⟩
  · rw [hv]; exact hne
  · rw [hv]; intro e; injection e with e; omega
theorem grown_at {A B : World} {row : Option Nat} {v v' : Value} (h : A.grownBy B row) (hv : v.ownBlock = row ∨ ∃ b, v.ownBlock = some b ∧ A.heap.size ≤ b) (hw : v'.ownBlock = v.ownBlock ∨ v'.ownBlock = some B.heap.size) : v'.ownBlock = row ∨ ∃ b, v'.ownBlock = some b ∧ A.heap.size ≤ b := by
  rcases hw with hw | hw
  · rw [hw]; exact hv
  · exact .inr ⟨_, hw, h.size⟩
theorem Own.grownNe {w W : World} {row : Option Nat} (hg : w.grownBy W row) {base : Nat} {e : TypeId} {v : Value} {xs : List Value} (h : Own w base e v xs) (hne : ∀ k, v.ownBlock = some k → row ≠ some k) : Own W base e v xs := by
  obtain ⟨h1, h2⟩ := h
  refine ⟨h1, ?_⟩
  rcases h2 with h2 | ⟨g, cap, cur, hv, hb, hh, r⟩
  · exact .inl h2
  · exact .inr ⟨g, cap, cur, hv, hb, h_grown hg hh (fun e => hne g (by rw [hv]; rfl) e.symm), r⟩
/-- One more row behind an append. -/
theorem app_rows {w3 w5 cur w7 : World} {base : Nat} {v u5 : Value} {us2 : List Value} {xss : List (List Int)} {x : List Int} (h35 : Same w3 w5) (h5c : Same w5 cur) (hown : Own w3 base 25 v us2) (hrows : Rows w3 base us2 xss)
    (hb : base ≤ w3.heap.size) (h5 : Own w5 w3.heap.size 3 u5 (intVs x)) (hG7 : cur.grownBy w7 v.ownBlock) : Rows w7 base (us2 ++ [u5]) (xss ++ [x]) :=
  Rows.append ((hrows.keep (h35.trans h5c).keep).grown (own_keep (h35.trans h5c).keep hown) hG7) (Rows.one (own_other (own_lower (own_keep h5c.keep h5) hb) (own_keep (h35.trans h5c).keep hown) int_ne hG7))
theorem cell_alloc {w : World} {a : Addr} {v : Value} (h : w.cell? a = some v) (o : Obj) : (w.alloc o).cell? a = some v := ((Same.refl w).alloc o).keep.cell h
theorem cell_drew {w : World} {a : Addr} {v : Value} (h : w.cell? a = some v) : w.drew.cell? a = some v := h
end Go.Proofs.Ytmnpbopkhpbhiaa
