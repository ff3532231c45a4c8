/- signatorylaw51.two, sane: the chapter's examples. -/
import Derived.Test.YtmnpbopkhpbhiaaPlainLiving
set_option linter.unusedVariables false
set_option linter.unusedSimpArgs false
namespace Go.Proofs.Ytmnpbopkhpbhiaa
open Go.RowKit
set_option maxRecDepth 100000
def lf (n : Int) : Gt := .mk n 0 []
def twoG : Gt := .mk (-1) 2 [lf 1, lf 2, lf 3]
theorem lf_at (w : World) (n : Int) : (lf n).At w (.slice none 0 0) := by
  simp only [lf, Gt.At]
  exact ⟨none, 0, rfl, Nat.le_refl _, by simp, by simp only [GsAt]⟩
theorem nil_at (w : World) (p n : Int) : (Gt.mk p n []).At w (.slice none 0 0) := by
  simp only [Gt.At]
  exact ⟨none, 0, rfl, Nat.le_refl _, by simp, by simp only [GsAt]⟩
/-- The cells of a row of formulas of one person each. -/
def leafCells (ps : List Int) : List Value := ps.flatMap fun p => [.int .i64 p, .int .i64 0, .slice none 0 0]
theorem leafCells_get : ∀ (ps : List Int) (j : Nat) (h : j < ps.length), (leafCells ps)[j * 3]? = some (.int .i64 ps[j]) ∧ (leafCells ps)[j * 3 + 1]? = some (.int .i64 0) ∧ (leafCells ps)[j * 3 + 2]? = some (.slice none 0 0)
  | [], j, h => by simp at h
  | p :: ps, 0, _ => by simp [leafCells]
  | p :: ps, j + 1, h => by
    have := leafCells_get ps j (by simpa using h)
    rw [show (j + 1) * 3 = j * 3 + 3 from by omega, show j * 3 + 3 + 1 = (j * 3 + 1) + 3 from by omega, show j * 3 + 3 + 2 = (j * 3 + 2) + 3 from by omega]
    simpa [leafCells] using this
theorem leafs_row {w : World} {b : Nat} {ps : List Int} {cs : Array Value} {t : TypeId} (h : w.heap[b]? = some (.cells cs t (0, 0))) (hc : cs = (leafCells ps).toArray) (hl : ps.length ≤ 1000) :
    Gs w (.slice (some ⟨b, 0, none⟩) ps.length ps.length) (ps.map lf) := by
  subst hc
  refine ⟨some ⟨b, 0, none⟩, ps.length, by simp, by simp, by simp; omega, GsAt.mk fun j hj => ?_⟩
  rw [List.length_map] at hj
  obtain ⟨h0, h1, h2⟩ := leafCells_get ps j hj
  have e : (⟨b, 0, none⟩ : Addr).add ((0 + j) * 3) = ⟨b, j * 3, none⟩ := by rw [add_plain, Nat.zero_add]
  refine ⟨⟨b, 0, none⟩, .slice none 0 0, rfl, ?_, ?_, ?_, ?_⟩
  · rw [e, cell_of_row w b _ _ t (0, 0) h, List.getElem_map]
    simpa [lf] using h0
  · rw [e, show (⟨b, j * 3, none⟩ : Addr).add 1 = ⟨b, j * 3 + 1, none⟩ from by unfold Addr.add; simp, cell_of_row w b _ _ t (0, 0) h, List.getElem_map]
    simpa [lf] using h1
  · rw [e, show (⟨b, j * 3, none⟩ : Addr).add 2 = ⟨b, j * 3 + 2, none⟩ from by unfold Addr.add; simp, cell_of_row w b _ _ t (0, 0) h]
    simpa using h2
  · rw [List.getElem_map]; exact lf_at w _
theorem two_spec (w : World) : Calls Try.prog 56 #[] w fun e w' => ∃ b : Nat, e = .returned (.agg #[.int .i64 (-1), .int .i64 2, .slice (some ⟨b, 0, none⟩) 3 3]) ∧ twoG.At w' (.slice (some ⟨b, 0, none⟩) 3 3) ∧ Same w w' := by
  go_enter Try.func56, Try.ntmps56
  go_wp2_with fail
  refine bodyPost_ret (v := .agg #[.int .i64 (-1), .int .i64 2, .slice (some ⟨w.heap.size + 1, 0, none⟩) 3 3]) (by simp [results, Try.results56, go_sem]) rfl ?_
  refine ⟨w.heap.size + 1, rfl, ?_, (Same.refl w).alloc _ |>.alloc _⟩
  exact (leafs_row (ps := [1, 2, 3]) (h_new' _ (by simp)) rfl (by decide)).at
structure SaneRow where
  g : Gt
  alive : List Int
  who : List Int
  lost : List Int
  block : List Int
  living : Bool
  loses : Bool
  dead : Bool
def saneRows : List SaneRow := [
  ⟨twoG, [2, 3], [2, 3], [2], [], true, true, false⟩,
  ⟨twoG, [1, 2, 3], [1, 2], [1, 2], [], true, true, false⟩,
  ⟨twoG, [3], [], [], [1, 2], false, false, true⟩,
  ⟨lf 5, [5], [5], [5], [], true, true, false⟩,
  ⟨lf 5, [], [], [], [5], false, false, true⟩,
  ⟨.mk (-1) 1 [], [5], [], [], [], false, false, true⟩,
  ⟨.mk (-1) 1 [lf 1, lf 2], [1, 2, 9], [1], [1, 2], [], true, true, false⟩]
theorem saneRows_ref : ∀ r ∈ saneRows, r.g.rLiving r.alive = (r.who, r.living, 0) ∧ r.g.rMargin r.alive = (r.lost, r.loses, 0) ∧ r.g.rDead r.alive = (r.block, r.dead, 0) := by decide +kernel
theorem saneRows_ok (r : SaneRow) (h : r ∈ saneRows) : r.g.Living r.alive = (r.who, r.living, 0) ∧ r.g.Margin r.alive = (r.lost, r.loses, 0) ∧ r.g.Dead r.alive = (r.block, r.dead, 0) := by
  rw [Living_eq, Margin_eq, Dead_eq]; exact saneRows_ref r h
/-- The j-th row of the examples. -/
def RowAt (W : World) (R j : Nat) (r : SaneRow) : Prop := ∃ L al wh lo bl : Value,
  W.cell? ⟨R, j * 10, none⟩ = some (.int .i64 r.g.p) ∧ W.cell? ⟨R, j * 10 + 1, none⟩ = some (.int .i64 r.g.n) ∧ W.cell? ⟨R, j * 10 + 2, none⟩ = some L ∧ W.cell? ⟨R, j * 10 + 3, none⟩ = some al ∧
  W.cell? ⟨R, j * 10 + 4, none⟩ = some wh ∧ W.cell? ⟨R, j * 10 + 5, none⟩ = some lo ∧ W.cell? ⟨R, j * 10 + 6, none⟩ = some bl ∧ W.cell? ⟨R, j * 10 + 7, none⟩ = some (.bool r.living) ∧
  W.cell? ⟨R, j * 10 + 8, none⟩ = some (.bool r.loses) ∧ W.cell? ⟨R, j * 10 + 9, none⟩ = some (.bool r.dead) ∧ r.g.At W L ∧ Ints W al r.alive ∧ Ints W wh r.who ∧ Ints W lo r.lost ∧ Ints W bl r.block
theorem RowAt.keep {w W : World} (h : Keep w W) {R j : Nat} {r : SaneRow} (hr : RowAt w R j r) : RowAt W R j r := by
  obtain ⟨L, al, wh, lo, bl, c0, c1, c2, c3, c4, c5, c6, c7, c8, c9, hg, h1, h2, h3, h4⟩ := hr
  exact ⟨L, al, wh, lo, bl, h.cell c0, h.cell c1, h.cell c2, h.cell c3, h.cell c4, h.cell c5, h.cell c6, h.cell c7, h.cell c8, h.cell c9, hg.keep h, h1.keep h, h2.keep h, h3.keep h, h4.keep h⟩
theorem ints_row {w : World} {b n : Nat} {cs : Array Value} {t : TypeId} (xs : List Int) (h : w.heap[b]? = some (.cells cs t (0, 0))) (hc : cs = (intVs xs).toArray) (hn : n = xs.length) (hl : xs.length ≤ 1000) : Ints w (.slice (some ⟨b, 0, none⟩) n n) xs := by
  subst hc hn
  refine ⟨some ⟨b, 0, none⟩, xs.length, rfl, Nat.le_refl _, by omega, fun i hi => ⟨⟨b, 0, none⟩, .int .i64 xs[i], rfl, ?_, rfl⟩⟩
  rw [add_plain, cell_of_row w b _ _ t (0, 0) h]
  simp [intVs, hi]
set_option maxHeartbeats 8000000 in
theorem sane_spec (w : World) : Calls Try.prog 18 #[] w fun e w' => e = .returned (.bool true) ∧ Same w w' := by
  have HT := Lib.hid two_spec
  go_enter Try.func18, Try.ntmps18
  go_wp2_with fail
  refine (HT.out _).mono ?_
  rintro e w1 ⟨b1, rfl, ha1, hs1⟩
  have HA1 := Lib.hid ha1
  clear ha1
  go_wp2_with fail
  refine (HT.out _).mono ?_
  rintro e w2 ⟨b2, rfl, ha2, hs2⟩
  have HA2 := Lib.hid ha2
  clear ha2
  go_wp2_with fail
  refine (HT.out _).mono ?_
  rintro e w3 ⟨b3, rfl, ha3, hs3⟩
  have HA3 := Lib.hid ha3
  clear ha3
  go_wp2_with fail
  obtain ⟨R, hR⟩ : ∃ R, R = w3.heap.size + 1 + 1 + 1 + 1 + 1 + 1 + 1 + 1 + 1 + 1 + 1 := ⟨_, rfl⟩
  rw [← hR]
  have HR := Lib.hid hR
  clear hR
  go_loopw [53] (fun i wr => ∃ j : Nat, j ≤ 7 ∧ i = .int .i64 j ∧ Hid (∀ k (h : k < saneRows.length), RowAt wr R k saneRows[k]) ∧ Same w wr) (fun i _ => 7 - (intOf i).toNat)
  case atStart =>
    have hw12 : Same w1 w2 := ((((Same.refl w1).alloc _).alloc _).alloc _).trans hs2
    have hw23 : Same w2 w3 := ((((Same.refl w2).alloc _).alloc _).alloc _).trans hs3
    have hw13 : Same w1 w3 := hw12.trans hw23
    have hw03 : Same w w3 := hs1.trans hw13
    have hw33 : Same w3 w3 := Same.refl _
    refine ⟨0, by omega, rfl, Lib.hid ?_, by repeat (first | assumption | apply Same.alloc)⟩
    intro k hk
    have hk7 : k < 7 := hk
    match k, hk, hk7 with
    | 0, _, _ => exact ⟨_, _, _, _, _, (cell_of_row _ R _ _ _ (0, 0) (h_new' _ (by rw [HR.out]; simp))).trans rfl, (cell_of_row _ R _ _ _ (0, 0) (h_new' _ (by rw [HR.out]; simp))).trans rfl, (cell_of_row _ R _ _ _ (0, 0) (h_new' _ (by rw [HR.out]; simp))).trans rfl, (cell_of_row _ R _ _ _ (0, 0) (h_new' _ (by rw [HR.out]; simp))).trans rfl, (cell_of_row _ R _ _ _ (0, 0) (h_new' _ (by rw [HR.out]; simp))).trans rfl, (cell_of_row _ R _ _ _ (0, 0) (h_new' _ (by rw [HR.out]; simp))).trans rfl, (cell_of_row _ R _ _ _ (0, 0) (h_new' _ (by rw [HR.out]; simp))).trans rfl, (cell_of_row _ R _ _ _ (0, 0) (h_new' _ (by rw [HR.out]; simp))).trans rfl, (cell_of_row _ R _ _ _ (0, 0) (h_new' _ (by rw [HR.out]; simp))).trans rfl, (cell_of_row _ R _ _ _ (0, 0) (h_new' _ (by rw [HR.out]; simp))).trans rfl, HA1.out.keep (Same.keep (by repeat (first | assumption | apply Same.alloc))), ints_row [2, 3] (h_old (h_old (h_old (h_old (h_old (h_old (h_old (h_old (h_old (h_old (h_old (h_old (h_same hs3 (h_old (h_old (h_old (h_same hs2 (h_old (h_old (h_new' _ rfl) _) _)) _) _) _)) _) _) _) _) _) _) _) _) _) _) _) _) rfl rfl (by decide), ints_row [2, 3] (h_old (h_old (h_old (h_old (h_old (h_old (h_old (h_old (h_old (h_old (h_old (h_old (h_same hs3 (h_old (h_old (h_old (h_same hs2 (h_old (h_new' _ (by simp)) _)) _) _) _)) _) _) _) _) _) _) _) _) _) _) _) _) rfl rfl (by decide), ints_row [2] (h_old (h_old (h_old (h_old (h_old (h_old (h_old (h_old (h_old (h_old (h_old (h_old (h_same hs3 (h_old (h_old (h_old (h_same hs2 (h_new' _ (by simp))) _) _) _)) _) _) _) _) _) _) _) _) _) _) _) _) rfl rfl (by decide), Ints.nil' _ _⟩
    | 1, _, _ => exact ⟨_, _, _, _, _, (cell_of_row _ R _ _ _ (0, 0) (h_new' _ (by rw [HR.out]; simp))).trans rfl, (cell_of_row _ R _ _ _ (0, 0) (h_new' _ (by rw [HR.out]; simp))).trans rfl, (cell_of_row _ R _ _ _ (0, 0) (h_new' _ (by rw [HR.out]; simp))).trans rfl, (cell_of_row _ R _ _ _ (0, 0) (h_new' _ (by rw [HR.out]; simp))).trans rfl, (cell_of_row _ R _ _ _ (0, 0) (h_new' _ (by rw [HR.out]; simp))).trans rfl, (cell_of_row _ R _ _ _ (0, 0) (h_new' _ (by rw [HR.out]; simp))).trans rfl, (cell_of_row _ R _ _ _ (0, 0) (h_new' _ (by rw [HR.out]; simp))).trans rfl, (cell_of_row _ R _ _ _ (0, 0) (h_new' _ (by rw [HR.out]; simp))).trans rfl, (cell_of_row _ R _ _ _ (0, 0) (h_new' _ (by rw [HR.out]; simp))).trans rfl, (cell_of_row _ R _ _ _ (0, 0) (h_new' _ (by rw [HR.out]; simp))).trans rfl, HA2.out.keep (Same.keep (by repeat (first | assumption | apply Same.alloc))), ints_row [1, 2, 3] (h_old (h_old (h_old (h_old (h_old (h_old (h_old (h_old (h_old (h_old (h_old (h_old (h_same hs3 (h_old (h_old (h_new' _ rfl) _) _)) _) _) _) _) _) _) _) _) _) _) _) _) rfl rfl (by decide), ints_row [1, 2] (h_old (h_old (h_old (h_old (h_old (h_old (h_old (h_old (h_old (h_old (h_old (h_old (h_same hs3 (h_old (h_new' _ (by simp)) _)) _) _) _) _) _) _) _) _) _) _) _) _) rfl rfl (by decide), ints_row [1, 2] (h_old (h_old (h_old (h_old (h_old (h_old (h_old (h_old (h_old (h_old (h_old (h_old (h_same hs3 (h_new' _ (by simp))) _) _) _) _) _) _) _) _) _) _) _) _) rfl rfl (by decide), Ints.nil' _ _⟩
    | 2, _, _ => exact ⟨_, _, _, _, _, (cell_of_row _ R _ _ _ (0, 0) (h_new' _ (by rw [HR.out]; simp))).trans rfl, (cell_of_row _ R _ _ _ (0, 0) (h_new' _ (by rw [HR.out]; simp))).trans rfl, (cell_of_row _ R _ _ _ (0, 0) (h_new' _ (by rw [HR.out]; simp))).trans rfl, (cell_of_row _ R _ _ _ (0, 0) (h_new' _ (by rw [HR.out]; simp))).trans rfl, (cell_of_row _ R _ _ _ (0, 0) (h_new' _ (by rw [HR.out]; simp))).trans rfl, (cell_of_row _ R _ _ _ (0, 0) (h_new' _ (by rw [HR.out]; simp))).trans rfl, (cell_of_row _ R _ _ _ (0, 0) (h_new' _ (by rw [HR.out]; simp))).trans rfl, (cell_of_row _ R _ _ _ (0, 0) (h_new' _ (by rw [HR.out]; simp))).trans rfl, (cell_of_row _ R _ _ _ (0, 0) (h_new' _ (by rw [HR.out]; simp))).trans rfl, (cell_of_row _ R _ _ _ (0, 0) (h_new' _ (by rw [HR.out]; simp))).trans rfl, HA3.out.keep (Same.keep (by repeat (first | assumption | apply Same.alloc))), ints_row [3] (h_old (h_old (h_old (h_old (h_old (h_old (h_old (h_old (h_old (h_old (h_old (h_new' _ rfl) _) _) _) _) _) _) _) _) _) _) _) rfl rfl (by decide), Ints.nil' _ _, Ints.nil' _ _, ints_row [1, 2] (h_old (h_old (h_old (h_old (h_old (h_old (h_old (h_old (h_old (h_old (h_new' _ (by simp)) _) _) _) _) _) _) _) _) _) _) rfl rfl (by decide)⟩
    | 3, _, _ => exact ⟨_, _, _, _, _, (cell_of_row _ R _ _ _ (0, 0) (h_new' _ (by rw [HR.out]; simp))).trans rfl, (cell_of_row _ R _ _ _ (0, 0) (h_new' _ (by rw [HR.out]; simp))).trans rfl, (cell_of_row _ R _ _ _ (0, 0) (h_new' _ (by rw [HR.out]; simp))).trans rfl, (cell_of_row _ R _ _ _ (0, 0) (h_new' _ (by rw [HR.out]; simp))).trans rfl, (cell_of_row _ R _ _ _ (0, 0) (h_new' _ (by rw [HR.out]; simp))).trans rfl, (cell_of_row _ R _ _ _ (0, 0) (h_new' _ (by rw [HR.out]; simp))).trans rfl, (cell_of_row _ R _ _ _ (0, 0) (h_new' _ (by rw [HR.out]; simp))).trans rfl, (cell_of_row _ R _ _ _ (0, 0) (h_new' _ (by rw [HR.out]; simp))).trans rfl, (cell_of_row _ R _ _ _ (0, 0) (h_new' _ (by rw [HR.out]; simp))).trans rfl, (cell_of_row _ R _ _ _ (0, 0) (h_new' _ (by rw [HR.out]; simp))).trans rfl, lf_at _ 5, ints_row [5] (h_old (h_old (h_old (h_old (h_old (h_old (h_old (h_old (h_old (h_new' _ (by simp)) _) _) _) _) _) _) _) _) _) rfl rfl (by decide), ints_row [5] (h_old (h_old (h_old (h_old (h_old (h_old (h_old (h_old (h_new' _ (by simp)) _) _) _) _) _) _) _) _) rfl rfl (by decide), ints_row [5] (h_old (h_old (h_old (h_old (h_old (h_old (h_old (h_new' _ (by simp)) _) _) _) _) _) _) _) rfl rfl (by decide), Ints.nil' _ _⟩
    | 4, _, _ => exact ⟨_, _, _, _, _, (cell_of_row _ R _ _ _ (0, 0) (h_new' _ (by rw [HR.out]; simp))).trans rfl, (cell_of_row _ R _ _ _ (0, 0) (h_new' _ (by rw [HR.out]; simp))).trans rfl, (cell_of_row _ R _ _ _ (0, 0) (h_new' _ (by rw [HR.out]; simp))).trans rfl, (cell_of_row _ R _ _ _ (0, 0) (h_new' _ (by rw [HR.out]; simp))).trans rfl, (cell_of_row _ R _ _ _ (0, 0) (h_new' _ (by rw [HR.out]; simp))).trans rfl, (cell_of_row _ R _ _ _ (0, 0) (h_new' _ (by rw [HR.out]; simp))).trans rfl, (cell_of_row _ R _ _ _ (0, 0) (h_new' _ (by rw [HR.out]; simp))).trans rfl, (cell_of_row _ R _ _ _ (0, 0) (h_new' _ (by rw [HR.out]; simp))).trans rfl, (cell_of_row _ R _ _ _ (0, 0) (h_new' _ (by rw [HR.out]; simp))).trans rfl, (cell_of_row _ R _ _ _ (0, 0) (h_new' _ (by rw [HR.out]; simp))).trans rfl, lf_at _ 5, Ints.nil' _ _, Ints.nil' _ _, Ints.nil' _ _, ints_row [5] (h_old (h_old (h_old (h_old (h_old (h_old (h_new' _ (by simp)) _) _) _) _) _) _) rfl rfl (by decide)⟩
    | 5, _, _ => exact ⟨_, _, _, _, _, (cell_of_row _ R _ _ _ (0, 0) (h_new' _ (by rw [HR.out]; simp))).trans rfl, (cell_of_row _ R _ _ _ (0, 0) (h_new' _ (by rw [HR.out]; simp))).trans rfl, (cell_of_row _ R _ _ _ (0, 0) (h_new' _ (by rw [HR.out]; simp))).trans rfl, (cell_of_row _ R _ _ _ (0, 0) (h_new' _ (by rw [HR.out]; simp))).trans rfl, (cell_of_row _ R _ _ _ (0, 0) (h_new' _ (by rw [HR.out]; simp))).trans rfl, (cell_of_row _ R _ _ _ (0, 0) (h_new' _ (by rw [HR.out]; simp))).trans rfl, (cell_of_row _ R _ _ _ (0, 0) (h_new' _ (by rw [HR.out]; simp))).trans rfl, (cell_of_row _ R _ _ _ (0, 0) (h_new' _ (by rw [HR.out]; simp))).trans rfl, (cell_of_row _ R _ _ _ (0, 0) (h_new' _ (by rw [HR.out]; simp))).trans rfl, (cell_of_row _ R _ _ _ (0, 0) (h_new' _ (by rw [HR.out]; simp))).trans rfl, nil_at _ (-1) 1, ints_row [5] (h_old (h_old (h_old (h_old (h_old (h_new' _ (by simp)) _) _) _) _) _) rfl rfl (by decide), Ints.nil' _ _, Ints.nil' _ _, Ints.nil' _ _⟩
    | 6, _, _ => exact ⟨_, _, _, _, _, (cell_of_row _ R _ _ _ (0, 0) (h_new' _ (by rw [HR.out]; simp))).trans rfl, (cell_of_row _ R _ _ _ (0, 0) (h_new' _ (by rw [HR.out]; simp))).trans rfl, (cell_of_row _ R _ _ _ (0, 0) (h_new' _ (by rw [HR.out]; simp))).trans rfl, (cell_of_row _ R _ _ _ (0, 0) (h_new' _ (by rw [HR.out]; simp))).trans rfl, (cell_of_row _ R _ _ _ (0, 0) (h_new' _ (by rw [HR.out]; simp))).trans rfl, (cell_of_row _ R _ _ _ (0, 0) (h_new' _ (by rw [HR.out]; simp))).trans rfl, (cell_of_row _ R _ _ _ (0, 0) (h_new' _ (by rw [HR.out]; simp))).trans rfl, (cell_of_row _ R _ _ _ (0, 0) (h_new' _ (by rw [HR.out]; simp))).trans rfl, (cell_of_row _ R _ _ _ (0, 0) (h_new' _ (by rw [HR.out]; simp))).trans rfl, (cell_of_row _ R _ _ _ (0, 0) (h_new' _ (by rw [HR.out]; simp))).trans rfl, (leafs_row (ps := [1, 2]) (h_old (h_old (h_old (h_old (h_new' _ (by simp)) _) _) _) _) rfl (by decide)).at, ints_row [1, 2, 9] (h_old (h_old (h_old (h_new' _ (by simp)) _) _) _) rfl rfl (by decide), ints_row [1] (h_old (h_old (h_new' _ (by simp)) _) _) rfl rfl (by decide), ints_row [1, 2] (h_old (h_new' _ (by simp)) _) rfl rfl (by decide), Ints.nil' _ _⟩
    | k + 7, _, h => exact absurd h (by omega)
  case round =>
    obtain ⟨j, hj, rfl, HROW, hS⟩ := hrel
    by_cases hlt : j < 7
    · obtain ⟨r, hr⟩ : ∃ r, r = saneRows[j]'hlt := ⟨_, rfl⟩
      have hrow := HROW.out j hlt
      rw [← hr] at hrow
      have hok := saneRows_ok r (by rw [hr]; exact List.getElem_mem _)
      clear hr
      obtain ⟨g, alive, who, lost, block, l1, l2, l3⟩ := r
      obtain ⟨hLv, hMg, hDd⟩ := hok
      simp only at hLv hMg hDd
      obtain ⟨L, al, wh, lo, bl, c0, c1, c2, c3, c4, c5, c6, c7, c8, c9, hg, h1, h2, h3, h4⟩ := hrow
      simp only at c0 c1 c2 c3 c4 c5 c6 c7 c8 c9 hg h1 h2 h3 h4
      obtain ⟨La, Ln, Lc, rfl⟩ := hg.form
      obtain ⟨ala, aln, alc, rfl, -⟩ := h1.slice
      obtain ⟨wha, whn, whc, rfl, -⟩ := h2.slice
      obtain ⟨loa, lon, loc, rfl, -⟩ := h3.slice
      obtain ⟨bla, bln, blc, rfl, -⟩ := h4.slice
      have hG := fun W (h : Same wr W) => (⟨_, rfl, hg.keep h.keep⟩ : IsG W g (.agg #[.int .i64 g.p, .int .i64 g.n, .slice La Ln Lc]))
      have HL := fun W (h : Same wr W) => Living_spec W g _ _ alive (hG W h) (h1.keep h.keep)
      have HM := fun W (h : Same wr W) => Margin_spec W g _ _ alive (hG W h) (h1.keep h.keep)
      have HD := fun W (h : Same wr W) => Dead_spec W g _ _ alive (hG W h) (h1.keep h.keep)
      rw [hLv] at HL
      rw [hMg] at HM
      rw [hDd] at HD
      have H2 := Lib.hid h2
      have H3 := Lib.hid h3
      have H4 := Lib.hid h4
      have hz0 : (0 : Int) ≤ (j : Int) := by omega
      have hz1 : (j : Int) < 7 := by omega
      obtain ⟨Wb, hWb⟩ : ∃ Wb, Wb = wr.alloc (.cells #[.int .i64 g.p, .int .i64 g.n, .slice La Ln Lc, .slice ala aln alc, .slice wha whn whc, .slice loa lon loc, .slice bla bln blc, .bool l1, .bool l2, .bool l3] 66) := ⟨_, rfl⟩
      have hSb : Same wr Wb := by rw [hWb]; exact (Same.refl wr).alloc _
      have hrec : Rec Wb wr.heap.size 66 #[.int .i64 g.p, .int .i64 g.n, .slice La Ln Lc, .slice ala aln alc, .slice wha whn whc, .slice loa lon loc, .slice bla bln blc, .bool l1, .bool l2, .bool l3] := by rw [hWb]; exact Rec.new _ _ _
      have HWB := Lib.hid hWb
      have hh := HL Wb hSb
      rw [hWb] at hh
      clear hG hLv hMg hDd hg h1 h2 h3 h4 hWb HL
      go_wp2_with fail
      refine hh.mono ?_
      clear hh c0 c1 c2 c3 c4 c5 c6 c7 c8 c9
      rintro e x1 ⟨v1, rfl, hi1, hx1⟩
      rw [← HWB.out] at hx1
      obtain ⟨a1, n1, k1, rfl, -⟩ := hi1.slice
      have t1 := Rec.same hx1 hrec
      have q0 := t1.cell 0
      have q1 := t1.cell 1
      have q2 := t1.cell 2
      have q3 := t1.cell 3
      have q4 := t1.cell 4
      have q5 := t1.cell 5
      have q6 := t1.cell 6
      have q7 := t1.cell 7
      have q8 := t1.cell 8
      have q9 := t1.cell 9
      have ql := t1.lt
      simp at q0 q1 q2 q3 q4 q5 q6 q7 q8 q9
      have hh := HM x1 (hSb.trans hx1)
      have HI1 := Lib.hid hi1
      clear hi1
      go_wp2_with fail
      refine hh.mono ?_
      clear hh q0 q1 q2 q3 q4 q5 q6 q7 q8 q9 ql
      rintro e x2 ⟨v2, rfl, hi2, hx2⟩
      obtain ⟨a2, n2, k2, rfl, -⟩ := hi2.slice
      have t2 := Rec.same hx2 t1
      have q0 := t2.cell 0
      have q1 := t2.cell 1
      have q2 := t2.cell 2
      have q3 := t2.cell 3
      have q4 := t2.cell 4
      have q5 := t2.cell 5
      have q6 := t2.cell 6
      have q7 := t2.cell 7
      have q8 := t2.cell 8
      have q9 := t2.cell 9
      have ql := t2.lt
      simp at q0 q1 q2 q3 q4 q5 q6 q7 q8 q9
      have hx12 := hx1.trans hx2
      have hh := HD x2 (hSb.trans hx12)
      have HI2 := Lib.hid hi2
      clear hi2
      go_wp2_with fail
      refine hh.mono ?_
      clear hh q0 q1 q2 q3 q4 q5 q6 q7 q8 q9 ql
      rintro e x3 ⟨v3, rfl, hi3, hx3⟩
      obtain ⟨a3, n3, k3, rfl, -⟩ := hi3.slice
      have t3 := Rec.same hx3 t2
      have q0 := t3.cell 0
      have q1 := t3.cell 1
      have q2 := t3.cell 2
      have q3 := t3.cell 3
      have q4 := t3.cell 4
      have q5 := t3.cell 5
      have q6 := t3.cell 6
      have q7 := t3.cell 7
      have q8 := t3.cell 8
      have q9 := t3.cell 9
      have ql := t3.lt
      simp at q0 q1 q2 q3 q4 q5 q6 q7 q8 q9
      have hx13 := hx12.trans hx3
      have hS3 := hSb.trans hx13
      have hh := SameInts_spec x3 _ _ who who (HI1.out.keep (hx2.trans hx3).keep) (H2.out.keep hS3.keep)
      rw [show decide (who = who) = true from by simp] at hh
      have HI3 := Lib.hid hi3
      clear hi3
      go_wp2_with fail
      refine hh.mono ?_
      clear hh q0 q1 q2 q3 q4 q5 q6 q7 q8 q9 ql
      rintro e x4 ⟨rfl, hx4⟩
      have t4 := Rec.same hx4 t3
      have q0 := t4.cell 0
      have q1 := t4.cell 1
      have q2 := t4.cell 2
      have q3 := t4.cell 3
      have q4 := t4.cell 4
      have q5 := t4.cell 5
      have q6 := t4.cell 6
      have q7 := t4.cell 7
      have q8 := t4.cell 8
      have q9 := t4.cell 9
      have ql := t4.lt
      simp at q0 q1 q2 q3 q4 q5 q6 q7 q8 q9
      have hS4 := hS3.trans hx4
      have hh := SameInts_spec x4 _ _ lost lost (HI2.out.keep (hx3.trans hx4).keep) (H3.out.keep hS4.keep)
      rw [show decide (lost = lost) = true from by simp] at hh
      go_wp2_with fail
      refine hh.mono ?_
      clear hh q0 q1 q2 q3 q4 q5 q6 q7 q8 q9 ql
      rintro e x5 ⟨rfl, hx5⟩
      have t5 := Rec.same hx5 t4
      have q0 := t5.cell 0
      have q1 := t5.cell 1
      have q2 := t5.cell 2
      have q3 := t5.cell 3
      have q4 := t5.cell 4
      have q5 := t5.cell 5
      have q6 := t5.cell 6
      have q7 := t5.cell 7
      have q8 := t5.cell 8
      have q9 := t5.cell 9
      have ql := t5.lt
      simp at q0 q1 q2 q3 q4 q5 q6 q7 q8 q9
      have hS5 := hS4.trans hx5
      have hh := SameInts_spec x5 _ _ block block (HI3.out.keep (hx4.trans hx5).keep) (H4.out.keep hS5.keep)
      rw [show decide (block = block) = true from by simp] at hh
      go_wp2_with fail
      refine hh.mono ?_
      clear hh q0 q1 q2 q3 q4 q5 q6 q7 q8 q9 ql
      rintro e x6 ⟨rfl, hx6⟩
      have hS6 := hS5.trans hx6
      go_wp2_with fail
      go_roundw
      case rel => exact ⟨j + 1, by omega, by go_num, Lib.hid fun k h => (HROW.out k h).keep hS6.keep, hS.trans hS6⟩
      case measure => simp [intOf]; omega
    · obtain rfl : j = 7 := by omega
      go_wp2_with fail
      refine (HT.out _).mono ?_
      rintro e y1 ⟨b4, rfl, ha4, hy1⟩
      have hr3 : y1.heap.size = y1.heap.size := rfl
      have hh := Living_spec (y1.alloc (.cells #[.int .i64 3, .int .i64 3] 3)) twoG (.agg #[.int .i64 (-1), .int .i64 2, .slice (some ⟨b4, 0, none⟩) 3 3]) (.slice (some ⟨y1.heap.size, 0, none⟩) 2 2) [3, 3] ⟨_, rfl, ha4.keep ((Same.refl y1).alloc _).keep⟩ (ints_row [3, 3] (h_new _ _) rfl rfl (by decide))
      rw [Living_eq, show twoG.rLiving [3, 3] = ([], false, 1) from by decide +kernel] at hh
      clear hr3 ha4
      go_wp2_with fail
      refine hh.mono ?_
      clear hh
      rintro e y2 ⟨v2, rfl, hi2, hy2⟩
      obtain ⟨a2, n2, k2, rfl, -⟩ := hi2.slice
      have hh := Dead_spec y2 (lf 64) (.agg #[.int .i64 64, .int .i64 0, .slice none 0 0]) (.slice none 0 0) [] ⟨_, rfl, lf_at _ _⟩ (Ints.nil' _ _)
      rw [Dead_eq, show (lf 64).rDead [] = ([], false, 220) from by decide +kernel] at hh
      clear hi2
      go_wp2_with fail
      refine hh.mono ?_
      clear hh
      rintro e y3 ⟨v3, rfl, hi3, hy3⟩
      obtain ⟨a3, n3, k3, rfl, -⟩ := hi3.slice
      clear hi3
      go_wp2_with fail
      go_ret
      exact ⟨rfl, hS.trans ((hy1.alloc _).trans (hy2.trans hy3))⟩
end Go.Proofs.Ytmnpbopkhpbhiaa
