/- The walk of lists. -/
import Derived.Test.YtmnpbopkhpbhiaaSane24
set_option linter.unusedVariables false
set_option linter.unusedSimpArgs false
namespace Go.Proofs.Ytmnpbopkhpbhiaa
open Go.RowKit
set_option maxRecDepth 100000
/-- Are both lists used? -/
def Gt.use (g : Gt) : Bool := g.small && (decide (g.rerr = 0) && (decide (g.sErr false = 0) && decide (g.sErr true = 0)))
theorem use_parts {g : Gt} (h : g.use = true) : g.small = true ∧ g.rerr = 0 ∧ g.sErr false = 0 ∧ g.sErr true = 0 := by simpa [Gt.use] using h
theorem sErr_two {g : Gt} {b : Bool} (h : g.rerr = 0) : g.sErr b = 0 ∨ g.sErr b = 2 := by
  rw [Gt.sErr, if_neg (by simp [h]), tooMany]
  split
  · exact .inr rfl
  · exact .inl rfl
def Gt.lst (g : Gt) (b : Bool) : List (List Int) := if g.use then g.setsK b else []
set_option maxHeartbeats 4000000 in
theorem lists_spec (w : World) (g : Gt) (val : Value) (hg : IsG w g val) :
    Calls Try.prog 44 #[val] w fun e w' => ∃ v1 v2, e = .returned (.tuple #[v1, v2, .bool g.use, .bool true]) ∧ Intss w' v1 (g.lst false) ∧ Intss w' v2 (g.lst true) ∧ Same w w' := by
  obtain ⟨vg, rfl, hat⟩ := hg
  obtain ⟨a, n, c, rfl⟩ := hat.form
  obtain ⟨w1, hW1⟩ : ∃ w1, w1 = w.alloc (.cells #[.int .i64 g.p, .int .i64 g.n, .slice a n c] 24) := ⟨_, rfl⟩
  have hS1 : Same w w1 := by rw [hW1]; exact (Same.refl w).alloc _
  have hgb : ∀ W, Same w1 W → _ := fun W h => gbox (w := w) (W := W) (by rw [← hW1]; exact h)
  have hG := fun W (h : Same w1 W) => (⟨_, rfl, hat.keep (hS1.trans h).keep⟩ : IsG W g (.agg #[.int .i64 g.p, .int .i64 g.n, .slice a n c]))
  have HG := Lib.hid hG
  have HGB := Lib.hid hgb
  have HW1 := Lib.hid hW1
  have hU : g.use = (g.small && (decide (g.rerr = 0) && (decide (g.sErr false = 0) && decide (g.sErr true = 0)))) := rfl
  have hL : ∀ b, g.lst b = if g.use then g.setsK b else [] := fun _ => rfl
  have hO : ∀ b, g.sErr b = 0 → g.sOut b = g.setsK b := fun b h => sOut_sets h
  have hT : ∀ b, g.rerr = 0 → g.sErr b = 0 ∨ g.sErr b = 2 := fun b h => sErr_two h
  have HU := Lib.hid hU
  have HL := Lib.hid hL
  have HO := Lib.hid hO
  have HT := Lib.hid hT
  have hnil : ∀ (W : World), Intss W (.slice none 0 0) [] := fun W => ⟨none, 0, rfl, by simp, by simp, fun i h => by simp at h⟩
  have HN := Lib.hid hnil
  have H1 := small_spec w1 g _ (hG w1 (Same.refl _))
  have HE := Lib.hid fun W (h : Same w1 W) => rerr_spec W g _ (HG.out W h)
  have HS := Lib.hid fun W (h : Same w1 W) => Sets_ints W g _ (HG.out W h)
  have HB := Lib.hid fun W (h : Same w1 W) => Blocks_ints W g _ (HG.out W h)
  rw [hW1] at H1
  clear hW1 hat hgb hG hU hL hO hT hnil
  generalize g.small = sm at *
  generalize g.rerr = rc at *
  go_enter Try.func44, Try.ntmps44
  go_wp2_with fail
  refine H1.mono ?_
  clear H1
  rintro e w2 ⟨rfl, hs2⟩
  rw [← HW1.out] at hs2
  obtain ⟨q0, q1, q2, lt⟩ := HGB.out _ hs2
  cases sm with
  | false =>
    have hu : g.use = false := by rw [HU.out]; rfl
    have HUU := Lib.hid hu
    clear hu
    go_wp2_with fail
    refine bodyPost_ret (v := .tuple #[.slice none 0 0, .slice none 0 0, .bool false, .bool true]) (by simp [results, Try.results44, go_sem]) rfl ?_
    exact ⟨_, _, by rw [HUU.out], by rw [HL.out, HUU.out]; exact HN.out _, by rw [HL.out, HUU.out]; exact HN.out _, hS1.trans hs2⟩
  | true =>
    have H2 := HE.out w2 hs2
    by_cases hc : rc = 0
    · subst hc
      go_wp2_with fail
      refine H2.mono ?_
      clear H2 q0 q1 q2 lt
      rintro e w3 ⟨rfl, hd3⟩
      have hs3 := hs2.trans hd3
      obtain ⟨q0, q1, q2, lt⟩ := HGB.out _ hs3
      have H3 := HS.out w3 hs3
      have HT1 := HT.out false (by first | trivial | rfl)
      have HT2 := HT.out true (by first | trivial | rfl)
      have HO1 := Lib.hid (HO.out false)
      have HO2 := Lib.hid (HO.out true)
      have HL1 := Lib.hid (HL.out false)
      have HL2 := Lib.hid (HL.out true)
      have HB := Lib.hid (HB.out)
      generalize g.sErr false = e1 at *
      generalize g.sErr true = e2 at *
      go_wp2_with fail
      refine H3.mono ?_
      clear H3 q0 q1 q2 lt
      rintro e w4 ⟨v4, rfl, i4, hd4⟩
      have hs4 := hs3.trans hd4
      have I4 := Lib.hid i4
      obtain ⟨a4, c4, rfl, -⟩ := i4
      obtain ⟨q0, q1, q2, lt⟩ := HGB.out _ hs4
      have H4 := HB.out w4 hs4
      go_wp2_with fail
      refine H4.mono ?_
      clear H4 q0 q1 q2 lt
      rintro e w5 ⟨v5, rfl, i5, hd5⟩
      have hs5 := hs4.trans hd5
      have I5 := Lib.hid i5
      obtain ⟨a5, c5, rfl, -⟩ := i5
      rcases HT1 with rfl | rfl
      · rcases HT2 with rfl | rfl
        · have hu : g.use = true := by rw [HU.out]; rfl
          have HUU := Lib.hid hu
          clear hu
          go_wp2_with fail
          refine bodyPost_ret (v := .tuple #[.slice a4 (g.sOut false).length c4, .slice a5 (g.sOut true).length c5, .bool true, .bool true]) (by simp [results, Try.results44, go_sem]) rfl ?_
          exact ⟨_, _, by rw [HUU.out], by rw [HL1.out, HUU.out, if_pos rfl, ← HO1.out (by first | trivial | rfl)]; exact Intss.keep hd5.keep I4.out, by rw [HL2.out, HUU.out, if_pos rfl, ← HO2.out (by first | trivial | rfl)]; exact I5.out, hS1.trans hs5⟩
        · have hu : g.use = false := by rw [HU.out]; rfl
          have HUU := Lib.hid hu
          clear hu
          go_wp2_with fail
          refine bodyPost_ret (v := .tuple #[.slice none 0 0, .slice none 0 0, .bool false, .bool true]) (by simp [results, Try.results44, go_sem]) rfl ?_
          exact ⟨_, _, by rw [HUU.out], by rw [HL1.out, HUU.out]; exact HN.out _, by rw [HL2.out, HUU.out]; exact HN.out _, hS1.trans hs5⟩
      · have hu : g.use = false := by rw [HU.out]; rfl
        have HUU := Lib.hid hu
        clear hu
        go_wp2_with fail
        refine bodyPost_ret (v := .tuple #[.slice none 0 0, .slice none 0 0, .bool false, .bool true]) (by simp [results, Try.results44, go_sem]) rfl ?_
        exact ⟨_, _, by rw [HUU.out], by rw [HL1.out, HUU.out]; exact HN.out _, by rw [HL2.out, HUU.out]; exact HN.out _, hS1.trans hs5⟩
    · have hb : (rc != 0) = true := by simpa using hc
      have hu : g.use = false := by rw [HU.out]; simp [hc]
      have HUU := Lib.hid hu
      clear hu hc
      go_wp2_with fail
      refine H2.mono ?_
      clear H2
      rintro e w3 ⟨rfl, hd3⟩
      go_wp2_with fail
      refine bodyPost_ret (v := .tuple #[.slice none 0 0, .slice none 0 0, .bool false, .bool true]) (by simp [results, Try.results44, go_sem]) rfl ?_
      exact ⟨_, _, by rw [HUU.out], by rw [HL.out, HUU.out]; exact HN.out _, by rw [HL.out, HUU.out]; exact HN.out _, hS1.trans (hs2.trans hd3)⟩
end Go.Proofs.Ytmnpbopkhpbhiaa
