/- signatorylaw24.are, sane: the chapter's examples. -/
import Derived.Test.YtmnpbopkhpbhiaaMinAgree
import Derived.Test.YtmnpbopkhpbhiaaRefRows
import Derived.Test.YtmnpbopkhpbhiaaOf24
set_option linter.unusedVariables false
set_option linter.unusedSimpArgs false
namespace Go.Proofs.Ytmnpbopkhpbhiaa
open Go.RowKit
set_option maxRecDepth 100000
theorem sOut_sets {g : Gt} {b : Bool} (h : g.sErr b = 0) : g.sOut b = g.setsK b := by rw [Gt.sOut, if_pos h]
theorem sOut_len {g : Gt} {b : Bool} : (g.sOut b).length ≤ 17592186044416 ∧ ∀ x ∈ g.sOut b, x.length ≤ 17592186044416 := by
  unfold Gt.sOut
  by_cases h : g.sErr b = 0
  · rw [if_pos h]
    have he : g.rerr = 0 := by
      unfold Gt.sErr at h
      by_cases h0 : g.rerr = 0
      · exact h0
      · rw [if_pos h0] at h; exact h
    have h12 := rerr_ppl he
    refine ⟨?_, fun x hx => by have := setsK_len hx; omega⟩
    have := List.length_filter_le (minB (g.hK b)) (allR g.rpeople)
    have := allR_count h12
    unfold Gt.setsK setsP; omega
  · rw [if_neg h]; exact ⟨by simp, by simp⟩
theorem Sets_ints (w : World) (g : Gt) (val : Value) (hg : IsG w g val) :
    Calls Try.prog 36 #[val] w fun e w' => ∃ v', e = .returned (.tuple #[v', .int .i64 (g.sErr false)]) ∧ Intss w' v' (g.sOut false) ∧ Same w w' :=
  (Sets_own w g val hg).mono fun _ _ ⟨v', us, he, ho, hr, hs⟩ => ⟨v', he, Rows.intss ho hr sOut_len.1 sOut_len.2, hs⟩
theorem Blocks_ints (w : World) (g : Gt) (val : Value) (hg : IsG w g val) :
    Calls Try.prog 38 #[val] w fun e w' => ∃ v', e = .returned (.tuple #[v', .int .i64 (g.sErr true)]) ∧ Intss w' v' (g.sOut true) ∧ Same w w' :=
  (Blocks_own w g val hg).mono fun _ _ ⟨v', us, he, ho, hr, hs⟩ => ⟨v', he, Rows.intss ho hr sOut_len.1 sOut_len.2, hs⟩
/-- Both lists agree, and no others. -/
theorem agr_iff {g : Gt} (he : g.rerr = 0) (l m : List (List Int)) : g.agr l m = true ↔ l = g.setsK false ∧ m = g.setsK true := by
  unfold Gt.agr
  rw [if_neg (by simp [he])]
  exact agree_iff (rpeople_sorted g) (holds_Mono g _) (hB_Mono g _) (hB_dual g) l m
theorem ints_row {w : World} {b n : Nat} {cs : Array Value} {t : TypeId} (xs : List Int) (h : w.heap[b]? = some (.cells cs t (0, 0))) (hc : cs = (intVs xs).toArray) (hn : n = xs.length) (hl : xs.length ≤ 1000) : Ints w (.slice (some ⟨b, 0, none⟩) n n) xs := by
  subst hc hn
  refine ⟨some ⟨b, 0, none⟩, xs.length, rfl, Nat.le_refl _, by omega, fun i hi => ⟨⟨b, 0, none⟩, .int .i64 xs[i], rfl, ?_, rfl⟩⟩
  rw [add_plain, cell_of_row w b _ _ t (0, 0) h]
  simp [intVs, hi]
theorem intss_row {w : World} {b n : Nat} {cs : Array Value} {t : TypeId} {us : List Value} {xss : List (List Int)} (h : w.heap[b]? = some (.cells cs t (0, 0))) (hc : cs = us.toArray) (hn : n = xss.length) (hr : RowsI w us xss) (hl : xss.length ≤ 1000) : Intss w (.slice (some ⟨b, 0, none⟩) n n) xss := by
  subst hc hn
  refine ⟨some ⟨b, 0, none⟩, xss.length, rfl, Nat.le_refl _, by omega, fun i hi => ?_⟩
  have hi' : i < us.length := by rw [hr.1]; exact hi
  refine ⟨⟨b, 0, none⟩, us[i], rfl, ?_, hr.2 i hi' hi⟩
  rw [add_plain, cell_of_row w b _ _ t (0, 0) h]
  simp [hi']
set_option maxHeartbeats 4000000 in
theorem are_true (w : World) (g : Gt) (val vl vm : Value) (l m : List (List Int)) (hg : IsG w g val) (hl : Intss w vl l) (hm : Intss w vm m) (hok : g.rerr = 0 ∧ g.sErr false = 0 ∧ g.sErr true = 0 ∧ g.sOut false = l ∧ g.sOut true = m) :
    Calls Try.prog 72 #[val, vl, vm] w fun e w' => e = .returned (.bool true) ∧ Same w w' := by
  obtain ⟨h0, h1, h2, h3, h4⟩ := hok
  have h5 : g.agr l m = true := (agr_iff h0 l m).2 ⟨by rw [← h3, sOut_sets h1], by rw [← h4, sOut_sets h2]⟩
  obtain ⟨vg, rfl, hat⟩ := hg
  obtain ⟨a, n, c, rfl⟩ := hat.form
  have HVL := Lib.hid hl
  have HVM := Lib.hid hm
  obtain ⟨al, cl, rfl, -⟩ := hl
  obtain ⟨am, cm, rfl, -⟩ := hm
  obtain ⟨W1, hW1⟩ : ∃ W1, W1 = w.alloc (.cells #[.int .i64 g.p, .int .i64 g.n, .slice a n c] 24) := ⟨_, rfl⟩
  have hS1 : Same w W1 := by rw [hW1]; exact (Same.refl w).alloc _
  have hgb : ∀ W, Same W1 W → _ := fun W h => gbox (w := w) (W := W) (by rw [← hW1]; exact h)
  have hG := fun W (h : Same W1 W) => (⟨_, rfl, hat.keep (hS1.trans h).keep⟩ : IsG W g (.agg #[.int .i64 g.p, .int .i64 g.n, .slice a n c]))
  have HG := Lib.hid hG
  have HGB := Lib.hid hgb
  have H1 := Sets_ints W1 g _ (hG W1 (Same.refl _))
  rw [h1, h3] at H1
  have HB := Lib.hid fun W (h : Same W1 W) => (by have := Blocks_ints W g _ (hG W h); rwa [h2, h4] at this : Calls Try.prog 38 #[.agg #[.int .i64 g.p, .int .i64 g.n, .slice a n c]] W fun e w' => ∃ v', e = .returned (.tuple #[v', .int .i64 0]) ∧ Intss w' v' m ∧ Same W w')
  have HA := Lib.hid fun W (h : Same W1 W) => (by have := Agree_spec W g _ _ _ l m (hG W h) (HVL.out.keep (hS1.trans h).keep) (HVM.out.keep (hS1.trans h).keep); rwa [h5, h0] at this : Calls Try.prog 42 #[.agg #[.int .i64 g.p, .int .i64 g.n, .slice a n c], .slice al l.length cl, .slice am m.length cm] W fun e w' => e = .returned (.tuple #[.bool true, .int .i64 0]) ∧ Same W w')
  have HW1 := Lib.hid hW1
  rw [hW1] at H1
  clear hW1 hat hgb hG h0 h1 h2 h3 h4 h5
  go_enter Try.func72, Try.ntmps72
  go_wp2_with fail
  refine H1.mono ?_
  clear H1
  rintro e w2 ⟨v2, rfl, hi2, hs2⟩
  rw [← HW1.out] at hs2
  have HI2 := Lib.hid hi2
  obtain ⟨a2, c2, rfl, -⟩ := hi2
  obtain ⟨q0, q1, q2, lt⟩ := HGB.out _ hs2
  have H2 := HB.out w2 hs2
  go_wp2_with fail
  refine H2.mono ?_
  clear H2 q0 q1 q2 lt
  rintro e w3 ⟨v3, rfl, hi3, hd3⟩
  have hs3 := hs2.trans hd3
  have HI3 := Lib.hid hi3
  obtain ⟨a3, c3, rfl, -⟩ := hi3
  obtain ⟨q0, q1, q2, lt⟩ := HGB.out _ hs3
  have H3 := HA.out w3 hs3
  go_wp2_with fail
  refine H3.mono ?_
  clear H3 q0 q1 q2 lt
  rintro e w4 ⟨rfl, hd4⟩
  have hs4 := hs3.trans hd4
  have H4 := same_spec w4 _ _ l l (HI2.out.keep (hd3.trans hd4).keep) (HVL.out.keep (hS1.trans hs4).keep)
  rw [show decide (l = l) = true from by simp] at H4
  go_wp2_with fail
  refine H4.mono ?_
  clear H4
  rintro e w5 ⟨rfl, hd5⟩
  have hs5 := hs4.trans hd5
  have H5 := same_spec w5 _ _ m m (HI3.out.keep (hd4.trans hd5).keep) (HVM.out.keep (hS1.trans hs5).keep)
  rw [show decide (m = m) = true from by simp] at H5
  go_wp2_with fail
  refine H5.mono ?_
  clear H5
  rintro e w6 ⟨rfl, hd6⟩
  go_wp2_with fail
  go_ret
  exact ⟨rfl, hS1.trans (hs5.trans hd6)⟩
theorem are_ok1 : (ofG 2 [1, 2, 3]).rerr = 0 ∧ (ofG 2 [1, 2, 3]).sErr false = 0 ∧ (ofG 2 [1, 2, 3]).sErr true = 0 ∧ (ofG 2 [1, 2, 3]).sOut false = [[1, 2], [1, 3], [2, 3]] ∧ (ofG 2 [1, 2, 3]).sOut true = [[1, 2], [1, 3], [2, 3]] := by decide +kernel
theorem are_ok2 : (lf 5).rerr = 0 ∧ (lf 5).sErr false = 0 ∧ (lf 5).sErr true = 0 ∧ (lf 5).sOut false = [[5]] ∧ (lf 5).sOut true = [[5]] := by decide +kernel
theorem are_ok3 : (ofG 1 []).rerr = 0 ∧ (ofG 1 []).sErr false = 0 ∧ (ofG 1 []).sErr true = 0 ∧ (ofG 1 []).sOut false = [] ∧ (ofG 1 []).sOut true = [[]] := by decide +kernel
theorem are_ok4 : (ofG 2 [1, 2]).rerr = 0 ∧ (ofG 2 [1, 2]).sErr false = 0 ∧ (ofG 2 [1, 2]).sErr true = 0 ∧ (ofG 2 [1, 2]).sOut false = [[1, 2]] ∧ (ofG 2 [1, 2]).sOut true = [[1], [2]] := by decide +kernel
theorem are_ok5 : (ofG 1 [1, 2]).rerr = 0 ∧ (ofG 1 [1, 2]).sErr false = 0 ∧ (ofG 1 [1, 2]).sErr true = 0 ∧ (ofG 1 [1, 2]).sOut false = [[1], [2]] ∧ (ofG 1 [1, 2]).sOut true = [[1, 2]] := by decide +kernel
theorem are_ok6 : (ofG 2 [1, 1, 2]).rerr = 0 ∧ (ofG 2 [1, 1, 2]).sErr false = 0 ∧ (ofG 2 [1, 1, 2]).sErr true = 0 ∧ (ofG 2 [1, 1, 2]).sOut false = [[1]] ∧ (ofG 2 [1, 1, 2]).sOut true = [[1]] := by decide +kernel
theorem ex_no : (ofG 1 [1, 2]).agr [[1]] [[1, 2]] = false := by decide +kernel
theorem ex_e : (ofG 1 [1, 2]).rerr = 0 := by decide +kernel
theorem ex_f : (lf 64).sErr false = 220 := by decide +kernel
theorem ex_g : (ofG 1 [0, 1, 2, 3, 4, 5, 6, 7, 8, 9, 10, 11, 12]).sErr true = 2 := by decide +kernel
set_option maxHeartbeats 16000000 in
theorem sane24_spec (w : World) : Calls Try.prog 34 #[] w fun e w' => e = .returned (.bool true) ∧ Same w w' := by
  go_enter Try.func34, Try.ntmps34
  have HTW := Lib.hid (fun (W : World) (h : Same (((((w.alloc (.cells #[.int .i64 1, .int .i64 2] 3)).alloc (.cells #[.int .i64 1, .int .i64 3] 3)).alloc (.cells #[.int .i64 2, .int .i64 3] 3)).alloc (.cells #[(.slice (some ⟨w.heap.size, 0, none⟩) 2 2), (.slice (some ⟨w.heap.size + 1, 0, none⟩) 2 2), (.slice (some ⟨w.heap.size + 1 + 1, 0, none⟩) 2 2)] 25)).alloc (.cells #[.int .i64 1, .int .i64 2] 3)) W) => Intss.keep h.keep (intss_row (h_old (h_new' _ (by simp)) _) rfl rfl (RowsI.snoc (RowsI.snoc (RowsI.snoc (RowsI.nil _) (ints_row [1, 2] (h_old (h_old (h_old (h_old (h_new' _ (by simp)) _) _) _) _) rfl rfl (by decide))) (ints_row [1, 3] (h_old (h_old (h_old (h_new' _ (by simp)) _) _) _) rfl rfl (by decide))) (ints_row [2, 3] (h_old (h_old (h_new' _ (by simp)) _) _) rfl rfl (by decide))) (by decide) : Intss (((((w.alloc (.cells #[.int .i64 1, .int .i64 2] 3)).alloc (.cells #[.int .i64 1, .int .i64 3] 3)).alloc (.cells #[.int .i64 2, .int .i64 3] 3)).alloc (.cells #[(.slice (some ⟨w.heap.size, 0, none⟩) 2 2), (.slice (some ⟨w.heap.size + 1, 0, none⟩) 2 2), (.slice (some ⟨w.heap.size + 1 + 1, 0, none⟩) 2 2)] 25)).alloc (.cells #[.int .i64 1, .int .i64 2] 3)) (.slice (some ⟨w.heap.size + 1 + 1 + 1, 0, none⟩) 3 3) [[1, 2], [1, 3], [2, 3]]))
  obtain ⟨v1, hv1⟩ : ∃ v1, v1 = (((((w.alloc (.cells #[.int .i64 1, .int .i64 2] 3)).alloc (.cells #[.int .i64 1, .int .i64 3] 3)).alloc (.cells #[.int .i64 2, .int .i64 3] 3)).alloc (.cells #[(.slice (some ⟨w.heap.size, 0, none⟩) 2 2), (.slice (some ⟨w.heap.size + 1, 0, none⟩) 2 2), (.slice (some ⟨w.heap.size + 1 + 1, 0, none⟩) 2 2)] 25)).alloc (.cells #[.int .i64 1, .int .i64 2] 3)) := ⟨_, rfl⟩
  have hx1 : Same w v1 := by rw [hv1]; repeat (first | exact Same.refl _ | apply Same.alloc)
  have hi1 : Ints v1 (.slice (some ⟨w.heap.size + 1 + 1 + 1 + 1, 0, none⟩) 2 2) [1, 2] := by rw [hv1]; exact ints_row [1, 2] (h_new' _ (by simp)) rfl rfl (by decide)
  have HC := of24_spec v1 1 (.slice (some ⟨w.heap.size + 1 + 1 + 1 + 1, 0, none⟩) 2 2) [1, 2] hi1 (by decide)
  rw [hv1] at HC
  go_wp2_with fail
  refine HC.mono ?_
  clear HC
  rintro e w1 ⟨a1, m1, c1, rfl, hg1, hy1⟩
  rw [← hv1] at hy1
  have hs1 : Same w w1 := (Same.refl w).trans (hx1.trans hy1)
  have HG1 := Lib.hid hg1
  clear hg1 hi1
  have HTWO : Hid (Intss v1 (.slice (some ⟨w.heap.size + 1 + 1 + 1, 0, none⟩) 3 3) [[1, 2], [1, 3], [2, 3]]) := Lib.hid (HTW.out v1 (by rw [hv1]; exact Same.refl _))
  clear HTW
  obtain ⟨v2, hv2⟩ : ∃ v2, v2 = ((((w1.alloc (.cells #[.int .i64 1] 3)).alloc (.cells #[(.slice (some ⟨w1.heap.size, 0, none⟩) 1 1)] 25)).alloc (.cells #[.int .i64 1, .int .i64 2] 3)).alloc (.cells #[(.slice (some ⟨w1.heap.size + 1 + 1, 0, none⟩) 2 2)] 25)) := ⟨_, rfl⟩
  have hx2 : Same w1 v2 := by rw [hv2]; repeat (first | exact Same.refl _ | apply Same.alloc)
  have hp2 : Intss v2 (.slice (some ⟨w1.heap.size + 1, 0, none⟩) 1 1) [[1]] := by rw [hv2]; exact intss_row (h_old (h_old (h_new' _ (by simp)) _) _) rfl rfl (RowsI.snoc (RowsI.nil _) (ints_row [1] (h_old (h_old (h_old (h_new' _ (by simp)) _) _) _) rfl rfl (by decide))) (by decide)
  have hq2 : Intss v2 (.slice (some ⟨w1.heap.size + 1 + 1 + 1, 0, none⟩) 1 1) [[1, 2]] := by rw [hv2]; exact intss_row (h_new' _ (by simp)) rfl rfl (RowsI.snoc (RowsI.nil _) (ints_row [1, 2] (h_old (h_new' _ (by simp)) _) rfl rfl (by decide))) (by decide)
  have HC := Agree_spec v2 (ofG 1 [1, 2]) (.agg #[.int .i64 (-1), .int .i64 1, .slice a1 m1 c1]) (.slice (some ⟨w1.heap.size + 1, 0, none⟩) 1 1) (.slice (some ⟨w1.heap.size + 1 + 1 + 1, 0, none⟩) 1 1) [[1]] [[1, 2]] (⟨_, rfl, HG1.out.keep (Same.keep hx2)⟩ : IsG v2 (ofG 1 [1, 2]) (.agg #[.int .i64 (-1), .int .i64 1, .slice a1 m1 c1])) hp2 hq2
  rw [show (ofG 1 [1, 2]).agr [[1]] [[1, 2]] = false from ex_no, show (ofG 1 [1, 2]).rerr = 0 from ex_e] at HC
  clear hp2 hq2
  rw [hv2] at HC
  go_wp2_with fail
  refine HC.mono ?_
  clear HC
  rintro e w2 ⟨rfl, hy2⟩
  rw [← hv2] at hy2
  have hs2 : Same w w2 := hs1.trans (hx2.trans hy2)
  obtain ⟨v3, hv3⟩ : ∃ v3, v3 = w2 := ⟨_, rfl⟩
  have hx3 : Same w2 v3 := by rw [hv3]; repeat (first | exact Same.refl _ | apply Same.alloc)
  have HC := Sets_ints v3 (lf 64) (.agg #[.int .i64 64, .int .i64 0, .slice none 0 0]) ⟨_, rfl, lf_at _ _⟩
  rw [show (lf 64).sErr false = 220 from ex_f] at HC
  rw [hv3] at HC
  go_wp2_with fail
  refine HC.mono ?_
  clear HC
  rintro e w3 ⟨z3, rfl, ⟨za3, zc3, rfl, -⟩, hy3⟩
  rw [← hv3] at hy3
  have hs3 : Same w w3 := hs2.trans (hx3.trans hy3)
  obtain ⟨v4, hv4⟩ : ∃ v4, v4 = (w3.alloc (.cells #[.int .i64 0, .int .i64 1, .int .i64 2, .int .i64 3, .int .i64 4, .int .i64 5, .int .i64 6, .int .i64 7, .int .i64 8, .int .i64 9, .int .i64 10, .int .i64 11, .int .i64 12] 3)) := ⟨_, rfl⟩
  have hx4 : Same w3 v4 := by rw [hv4]; repeat (first | exact Same.refl _ | apply Same.alloc)
  have hi4 : Ints v4 (.slice (some ⟨w3.heap.size, 0, none⟩) 13 13) [0, 1, 2, 3, 4, 5, 6, 7, 8, 9, 10, 11, 12] := by rw [hv4]; exact ints_row [0, 1, 2, 3, 4, 5, 6, 7, 8, 9, 10, 11, 12] (h_new' _ (by simp)) rfl rfl (by decide)
  have HC := of24_spec v4 1 (.slice (some ⟨w3.heap.size, 0, none⟩) 13 13) [0, 1, 2, 3, 4, 5, 6, 7, 8, 9, 10, 11, 12] hi4 (by decide)
  rw [hv4] at HC
  go_wp2_with fail
  refine HC.mono ?_
  clear HC
  rintro e w4 ⟨a4, m4, c4, rfl, hg4, hy4⟩
  rw [← hv4] at hy4
  have hs4 : Same w w4 := hs3.trans (hx4.trans hy4)
  have HG4 := Lib.hid hg4
  clear hg4 hi4
  obtain ⟨v5, hv5⟩ : ∃ v5, v5 = w4 := ⟨_, rfl⟩
  have hx5 : Same w4 v5 := by rw [hv5]; repeat (first | exact Same.refl _ | apply Same.alloc)
  have HC := Blocks_ints v5 (ofG 1 [0, 1, 2, 3, 4, 5, 6, 7, 8, 9, 10, 11, 12]) (.agg #[.int .i64 (-1), .int .i64 1, .slice a4 m4 c4]) (⟨_, rfl, HG4.out.keep (Same.keep hx5)⟩ : IsG v5 (ofG 1 [0, 1, 2, 3, 4, 5, 6, 7, 8, 9, 10, 11, 12]) (.agg #[.int .i64 (-1), .int .i64 1, .slice a4 m4 c4]))
  rw [show (ofG 1 [0, 1, 2, 3, 4, 5, 6, 7, 8, 9, 10, 11, 12]).sErr true = 2 from ex_g] at HC
  rw [hv5] at HC
  go_wp2_with fail
  refine HC.mono ?_
  clear HC
  rintro e w5 ⟨z5, rfl, ⟨za5, zc5, rfl, -⟩, hy5⟩
  rw [← hv5] at hy5
  have hs5 : Same w w5 := hs4.trans (hx5.trans hy5)
  obtain ⟨v6, hv6⟩ : ∃ v6, v6 = (w5.alloc (.cells #[.int .i64 1, .int .i64 2, .int .i64 3] 3)) := ⟨_, rfl⟩
  have hx6 : Same w5 v6 := by rw [hv6]; repeat (first | exact Same.refl _ | apply Same.alloc)
  have hi6 : Ints v6 (.slice (some ⟨w5.heap.size, 0, none⟩) 3 3) [1, 2, 3] := by rw [hv6]; exact ints_row [1, 2, 3] (h_new' _ (by simp)) rfl rfl (by decide)
  have HC := of24_spec v6 2 (.slice (some ⟨w5.heap.size, 0, none⟩) 3 3) [1, 2, 3] hi6 (by decide)
  rw [hv6] at HC
  go_wp2_with fail
  refine HC.mono ?_
  clear HC
  rintro e w6 ⟨a6, m6, c6, rfl, hg6, hy6⟩
  rw [← hv6] at hy6
  have hs6 : Same w w6 := hs5.trans (hx6.trans hy6)
  have HG6 := Lib.hid hg6
  clear hg6 hi6
  obtain ⟨v7, hv7⟩ : ∃ v7, v7 = w6 := ⟨_, rfl⟩
  have hx7 : Same w6 v7 := by rw [hv7]; repeat (first | exact Same.refl _ | apply Same.alloc)
  have hp7 : Intss v7 (.slice (some ⟨w.heap.size + 1 + 1 + 1, 0, none⟩) 3 3) [[1, 2], [1, 3], [2, 3]] := Intss.keep (Same.keep (hy1.trans ((hx2.trans hy2).trans ((hx3.trans hy3).trans ((hx4.trans hy4).trans ((hx5.trans hy5).trans ((hx6.trans hy6).trans hx7))))))) HTWO.out
  have hq7 : Intss v7 (.slice (some ⟨w.heap.size + 1 + 1 + 1, 0, none⟩) 3 3) [[1, 2], [1, 3], [2, 3]] := Intss.keep (Same.keep (hy1.trans ((hx2.trans hy2).trans ((hx3.trans hy3).trans ((hx4.trans hy4).trans ((hx5.trans hy5).trans ((hx6.trans hy6).trans hx7))))))) HTWO.out
  have hr7 := are_ok1
  have HC := are_true v7 (ofG 2 [1, 2, 3]) (.agg #[.int .i64 (-1), .int .i64 2, .slice a6 m6 c6]) (.slice (some ⟨w.heap.size + 1 + 1 + 1, 0, none⟩) 3 3) (.slice (some ⟨w.heap.size + 1 + 1 + 1, 0, none⟩) 3 3) [[1, 2], [1, 3], [2, 3]] [[1, 2], [1, 3], [2, 3]] (⟨_, rfl, HG6.out.keep (Same.keep hx7)⟩ : IsG v7 (ofG 2 [1, 2, 3]) (.agg #[.int .i64 (-1), .int .i64 2, .slice a6 m6 c6])) hp7 hq7 hr7
  rw [hv7] at HC
  go_wp2_with fail
  refine HC.mono ?_
  clear HC
  rintro e w7 ⟨rfl, hy7⟩
  rw [← hv7] at hy7
  have hs7 : Same w w7 := hs6.trans (hx7.trans hy7)
  clear hp7 hq7 hr7
  obtain ⟨v8, hv8⟩ : ∃ v8, v8 = ((((w7.alloc (.cells #[.int .i64 5] 3)).alloc (.cells #[(.slice (some ⟨w7.heap.size, 0, none⟩) 1 1)] 25)).alloc (.cells #[.int .i64 5] 3)).alloc (.cells #[(.slice (some ⟨w7.heap.size + 1 + 1, 0, none⟩) 1 1)] 25)) := ⟨_, rfl⟩
  have hx8 : Same w7 v8 := by rw [hv8]; repeat (first | exact Same.refl _ | apply Same.alloc)
  have hp8 : Intss v8 (.slice (some ⟨w7.heap.size + 1, 0, none⟩) 1 1) [[5]] := by rw [hv8]; exact intss_row (h_old (h_old (h_new' _ (by simp)) _) _) rfl rfl (RowsI.snoc (RowsI.nil _) (ints_row [5] (h_old (h_old (h_old (h_new' _ (by simp)) _) _) _) rfl rfl (by decide))) (by decide)
  have hq8 : Intss v8 (.slice (some ⟨w7.heap.size + 1 + 1 + 1, 0, none⟩) 1 1) [[5]] := by rw [hv8]; exact intss_row (h_new' _ (by simp)) rfl rfl (RowsI.snoc (RowsI.nil _) (ints_row [5] (h_old (h_new' _ (by simp)) _) rfl rfl (by decide))) (by decide)
  have hr8 := are_ok2
  have HC := are_true v8 (lf 5) (.agg #[.int .i64 5, .int .i64 0, .slice none 0 0]) (.slice (some ⟨w7.heap.size + 1, 0, none⟩) 1 1) (.slice (some ⟨w7.heap.size + 1 + 1 + 1, 0, none⟩) 1 1) [[5]] [[5]] (⟨_, rfl, lf_at _ _⟩ : IsG v8 (lf 5) (.agg #[.int .i64 5, .int .i64 0, .slice none 0 0])) hp8 hq8 hr8
  rw [hv8] at HC
  go_wp2_with fail
  refine HC.mono ?_
  clear HC
  rintro e w8 ⟨rfl, hy8⟩
  rw [← hv8] at hy8
  have hs8 : Same w w8 := hs7.trans (hx8.trans hy8)
  clear hp8 hq8 hr8
  obtain ⟨v9, hv9⟩ : ∃ v9, v9 = w8 := ⟨_, rfl⟩
  have hx9 : Same w8 v9 := by rw [hv9]; repeat (first | exact Same.refl _ | apply Same.alloc)
  have hi9 : Ints v9 (.slice none 0 0) [] := ⟨none, 0, rfl, by simp, by simp, fun i h => by simp at h⟩
  have HC := of24_spec v9 1 (.slice none 0 0) [] hi9 (by decide)
  rw [hv9] at HC
  go_wp2_with fail
  refine HC.mono ?_
  clear HC
  rintro e w9 ⟨a9, m9, c9, rfl, hg9, hy9⟩
  rw [← hv9] at hy9
  have hs9 : Same w w9 := hs8.trans (hx9.trans hy9)
  have HG9 := Lib.hid hg9
  clear hg9 hi9
  obtain ⟨v10, hv10⟩ : ∃ v10, v10 = ((w9.alloc (.cells #[] 3)).alloc (.cells #[(.slice (some ⟨w9.heap.size, 0, none⟩) 0 0)] 25)) := ⟨_, rfl⟩
  have hx10 : Same w9 v10 := by rw [hv10]; repeat (first | exact Same.refl _ | apply Same.alloc)
  have hp10 : Intss v10 (.slice none 0 0) [] := ⟨none, 0, rfl, by simp, by simp, fun i h => by simp at h⟩
  have hq10 : Intss v10 (.slice (some ⟨w9.heap.size + 1, 0, none⟩) 1 1) [[]] := by rw [hv10]; exact intss_row (h_new' _ (by simp)) rfl rfl (RowsI.snoc (RowsI.nil _) (ints_row [] (h_old (h_new' _ (by simp)) _) rfl rfl (by decide))) (by decide)
  have hr10 := are_ok3
  have HC := are_true v10 (ofG 1 []) (.agg #[.int .i64 (-1), .int .i64 1, .slice a9 m9 c9]) (.slice none 0 0) (.slice (some ⟨w9.heap.size + 1, 0, none⟩) 1 1) [] [[]] (⟨_, rfl, HG9.out.keep (Same.keep hx10)⟩ : IsG v10 (ofG 1 []) (.agg #[.int .i64 (-1), .int .i64 1, .slice a9 m9 c9])) hp10 hq10 hr10
  rw [hv10] at HC
  go_wp2_with fail
  refine HC.mono ?_
  clear HC
  rintro e w10 ⟨rfl, hy10⟩
  rw [← hv10] at hy10
  have hs10 : Same w w10 := hs9.trans (hx10.trans hy10)
  clear hp10 hq10 hr10
  obtain ⟨v11, hv11⟩ : ∃ v11, v11 = (w10.alloc (.cells #[.int .i64 1, .int .i64 2] 3)) := ⟨_, rfl⟩
  have hx11 : Same w10 v11 := by rw [hv11]; repeat (first | exact Same.refl _ | apply Same.alloc)
  have hi11 : Ints v11 (.slice (some ⟨w10.heap.size, 0, none⟩) 2 2) [1, 2] := by rw [hv11]; exact ints_row [1, 2] (h_new' _ (by simp)) rfl rfl (by decide)
  have HC := of24_spec v11 2 (.slice (some ⟨w10.heap.size, 0, none⟩) 2 2) [1, 2] hi11 (by decide)
  rw [hv11] at HC
  go_wp2_with fail
  refine HC.mono ?_
  clear HC
  rintro e w11 ⟨a11, m11, c11, rfl, hg11, hy11⟩
  rw [← hv11] at hy11
  have hs11 : Same w w11 := hs10.trans (hx11.trans hy11)
  have HG11 := Lib.hid hg11
  clear hg11 hi11
  obtain ⟨v12, hv12⟩ : ∃ v12, v12 = (((((w11.alloc (.cells #[.int .i64 1, .int .i64 2] 3)).alloc (.cells #[(.slice (some ⟨w11.heap.size, 0, none⟩) 2 2)] 25)).alloc (.cells #[.int .i64 1] 3)).alloc (.cells #[.int .i64 2] 3)).alloc (.cells #[(.slice (some ⟨w11.heap.size + 1 + 1, 0, none⟩) 1 1), (.slice (some ⟨w11.heap.size + 1 + 1 + 1, 0, none⟩) 1 1)] 25)) := ⟨_, rfl⟩
  have hx12 : Same w11 v12 := by rw [hv12]; repeat (first | exact Same.refl _ | apply Same.alloc)
  have hp12 : Intss v12 (.slice (some ⟨w11.heap.size + 1, 0, none⟩) 1 1) [[1, 2]] := by rw [hv12]; exact intss_row (h_old (h_old (h_old (h_new' _ (by simp)) _) _) _) rfl rfl (RowsI.snoc (RowsI.nil _) (ints_row [1, 2] (h_old (h_old (h_old (h_old (h_new' _ (by simp)) _) _) _) _) rfl rfl (by decide))) (by decide)
  have hq12 : Intss v12 (.slice (some ⟨w11.heap.size + 1 + 1 + 1 + 1, 0, none⟩) 2 2) [[1], [2]] := by rw [hv12]; exact intss_row (h_new' _ (by simp)) rfl rfl (RowsI.snoc (RowsI.snoc (RowsI.nil _) (ints_row [1] (h_old (h_old (h_new' _ (by simp)) _) _) rfl rfl (by decide))) (ints_row [2] (h_old (h_new' _ (by simp)) _) rfl rfl (by decide))) (by decide)
  have hr12 := are_ok4
  have HC := are_true v12 (ofG 2 [1, 2]) (.agg #[.int .i64 (-1), .int .i64 2, .slice a11 m11 c11]) (.slice (some ⟨w11.heap.size + 1, 0, none⟩) 1 1) (.slice (some ⟨w11.heap.size + 1 + 1 + 1 + 1, 0, none⟩) 2 2) [[1, 2]] [[1], [2]] (⟨_, rfl, HG11.out.keep (Same.keep hx12)⟩ : IsG v12 (ofG 2 [1, 2]) (.agg #[.int .i64 (-1), .int .i64 2, .slice a11 m11 c11])) hp12 hq12 hr12
  rw [hv12] at HC
  go_wp2_with fail
  refine HC.mono ?_
  clear HC
  rintro e w12 ⟨rfl, hy12⟩
  rw [← hv12] at hy12
  have hs12 : Same w w12 := hs11.trans (hx12.trans hy12)
  clear hp12 hq12 hr12
  obtain ⟨v13, hv13⟩ : ∃ v13, v13 = (w12.alloc (.cells #[.int .i64 1, .int .i64 2] 3)) := ⟨_, rfl⟩
  have hx13 : Same w12 v13 := by rw [hv13]; repeat (first | exact Same.refl _ | apply Same.alloc)
  have hi13 : Ints v13 (.slice (some ⟨w12.heap.size, 0, none⟩) 2 2) [1, 2] := by rw [hv13]; exact ints_row [1, 2] (h_new' _ (by simp)) rfl rfl (by decide)
  have HC := of24_spec v13 1 (.slice (some ⟨w12.heap.size, 0, none⟩) 2 2) [1, 2] hi13 (by decide)
  rw [hv13] at HC
  go_wp2_with fail
  refine HC.mono ?_
  clear HC
  rintro e w13 ⟨a13, m13, c13, rfl, hg13, hy13⟩
  rw [← hv13] at hy13
  have hs13 : Same w w13 := hs12.trans (hx13.trans hy13)
  have HG13 := Lib.hid hg13
  clear hg13 hi13
  obtain ⟨v14, hv14⟩ : ∃ v14, v14 = (((((w13.alloc (.cells #[.int .i64 1] 3)).alloc (.cells #[.int .i64 2] 3)).alloc (.cells #[(.slice (some ⟨w13.heap.size, 0, none⟩) 1 1), (.slice (some ⟨w13.heap.size + 1, 0, none⟩) 1 1)] 25)).alloc (.cells #[.int .i64 1, .int .i64 2] 3)).alloc (.cells #[(.slice (some ⟨w13.heap.size + 1 + 1 + 1, 0, none⟩) 2 2)] 25)) := ⟨_, rfl⟩
  have hx14 : Same w13 v14 := by rw [hv14]; repeat (first | exact Same.refl _ | apply Same.alloc)
  have hp14 : Intss v14 (.slice (some ⟨w13.heap.size + 1 + 1, 0, none⟩) 2 2) [[1], [2]] := by rw [hv14]; exact intss_row (h_old (h_old (h_new' _ (by simp)) _) _) rfl rfl (RowsI.snoc (RowsI.snoc (RowsI.nil _) (ints_row [1] (h_old (h_old (h_old (h_old (h_new' _ (by simp)) _) _) _) _) rfl rfl (by decide))) (ints_row [2] (h_old (h_old (h_old (h_new' _ (by simp)) _) _) _) rfl rfl (by decide))) (by decide)
  have hq14 : Intss v14 (.slice (some ⟨w13.heap.size + 1 + 1 + 1 + 1, 0, none⟩) 1 1) [[1, 2]] := by rw [hv14]; exact intss_row (h_new' _ (by simp)) rfl rfl (RowsI.snoc (RowsI.nil _) (ints_row [1, 2] (h_old (h_new' _ (by simp)) _) rfl rfl (by decide))) (by decide)
  have hr14 := are_ok5
  have HC := are_true v14 (ofG 1 [1, 2]) (.agg #[.int .i64 (-1), .int .i64 1, .slice a13 m13 c13]) (.slice (some ⟨w13.heap.size + 1 + 1, 0, none⟩) 2 2) (.slice (some ⟨w13.heap.size + 1 + 1 + 1 + 1, 0, none⟩) 1 1) [[1], [2]] [[1, 2]] (⟨_, rfl, HG13.out.keep (Same.keep hx14)⟩ : IsG v14 (ofG 1 [1, 2]) (.agg #[.int .i64 (-1), .int .i64 1, .slice a13 m13 c13])) hp14 hq14 hr14
  rw [hv14] at HC
  go_wp2_with fail
  refine HC.mono ?_
  clear HC
  rintro e w14 ⟨rfl, hy14⟩
  rw [← hv14] at hy14
  have hs14 : Same w w14 := hs13.trans (hx14.trans hy14)
  clear hp14 hq14 hr14
  obtain ⟨v15, hv15⟩ : ∃ v15, v15 = (w14.alloc (.cells #[.int .i64 1, .int .i64 1, .int .i64 2] 3)) := ⟨_, rfl⟩
  have hx15 : Same w14 v15 := by rw [hv15]; repeat (first | exact Same.refl _ | apply Same.alloc)
  have hi15 : Ints v15 (.slice (some ⟨w14.heap.size, 0, none⟩) 3 3) [1, 1, 2] := by rw [hv15]; exact ints_row [1, 1, 2] (h_new' _ (by simp)) rfl rfl (by decide)
  have HC := of24_spec v15 2 (.slice (some ⟨w14.heap.size, 0, none⟩) 3 3) [1, 1, 2] hi15 (by decide)
  rw [hv15] at HC
  go_wp2_with fail
  refine HC.mono ?_
  clear HC
  rintro e w15 ⟨a15, m15, c15, rfl, hg15, hy15⟩
  rw [← hv15] at hy15
  have hs15 : Same w w15 := hs14.trans (hx15.trans hy15)
  have HG15 := Lib.hid hg15
  clear hg15 hi15
  obtain ⟨v16, hv16⟩ : ∃ v16, v16 = ((((w15.alloc (.cells #[.int .i64 1] 3)).alloc (.cells #[(.slice (some ⟨w15.heap.size, 0, none⟩) 1 1)] 25)).alloc (.cells #[.int .i64 1] 3)).alloc (.cells #[(.slice (some ⟨w15.heap.size + 1 + 1, 0, none⟩) 1 1)] 25)) := ⟨_, rfl⟩
  have hx16 : Same w15 v16 := by rw [hv16]; repeat (first | exact Same.refl _ | apply Same.alloc)
  have hp16 : Intss v16 (.slice (some ⟨w15.heap.size + 1, 0, none⟩) 1 1) [[1]] := by rw [hv16]; exact intss_row (h_old (h_old (h_new' _ (by simp)) _) _) rfl rfl (RowsI.snoc (RowsI.nil _) (ints_row [1] (h_old (h_old (h_old (h_new' _ (by simp)) _) _) _) rfl rfl (by decide))) (by decide)
  have hq16 : Intss v16 (.slice (some ⟨w15.heap.size + 1 + 1 + 1, 0, none⟩) 1 1) [[1]] := by rw [hv16]; exact intss_row (h_new' _ (by simp)) rfl rfl (RowsI.snoc (RowsI.nil _) (ints_row [1] (h_old (h_new' _ (by simp)) _) rfl rfl (by decide))) (by decide)
  have hr16 := are_ok6
  have HC := are_true v16 (ofG 2 [1, 1, 2]) (.agg #[.int .i64 (-1), .int .i64 2, .slice a15 m15 c15]) (.slice (some ⟨w15.heap.size + 1, 0, none⟩) 1 1) (.slice (some ⟨w15.heap.size + 1 + 1 + 1, 0, none⟩) 1 1) [[1]] [[1]] (⟨_, rfl, HG15.out.keep (Same.keep hx16)⟩ : IsG v16 (ofG 2 [1, 1, 2]) (.agg #[.int .i64 (-1), .int .i64 2, .slice a15 m15 c15])) hp16 hq16 hr16
  rw [hv16] at HC
  go_wp2_with fail
  refine HC.mono ?_
  clear HC
  rintro e w16 ⟨rfl, hy16⟩
  rw [← hv16] at hy16
  have hs16 : Same w w16 := hs15.trans (hx16.trans hy16)
  clear hp16 hq16 hr16
  go_wp2_with fail
  go_ret
  exact ⟨rfl, hs16⟩
end Go.Proofs.Ytmnpbopkhpbhiaa
