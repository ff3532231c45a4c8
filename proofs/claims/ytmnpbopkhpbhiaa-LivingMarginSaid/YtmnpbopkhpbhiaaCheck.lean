/- living.structure.holds, living.check. -/
import Derived.Test.YtmnpbopkhpbhiaaFirst
set_option linter.unusedVariables false
set_option linter.unusedSimpArgs false
namespace Go.Proofs.Ytmnpbopkhpbhiaa
open Go.RowKit
set_option maxRecDepth 100000
/-- Whether these people are enough (and are no wrong list). -/
def Gt.can (g : Gt) (who : List Int) : Bool := (g.Holds who).1 && decide ((g.Holds who).2 = 0)
/-- The value of a structure. -/
def IsStr (w : World) (g : Gt) (ps : List Int) (val : Value) : Prop := ∃ v vp, val = .agg #[.int .i64 g.p, .int .i64 g.n, v, vp] ∧ g.At w v ∧ Ints w vp ps
theorem IsStr.keep {w W : World} (h : Keep w W) {g : Gt} {ps : List Int} {val : Value} (hs : IsStr w g ps val) : IsStr W g ps val := by
  obtain ⟨v, vp, e, h1, h2⟩ := hs
  exact ⟨v, vp, e, h1.keep h, h2.keep h⟩
set_option maxHeartbeats 1000000 in
theorem sholds_spec (w : World) (g : Gt) (gv vw : Value) (ps who : List Int) (hg : IsStr w g ps gv) (hw : Ints w vw who) :
    Calls Try.prog 61 #[gv, vw] w fun e w' => e = .returned (.bool (g.can who)) ∧ Same w w' := by
  obtain ⟨v, vp, rfl, hv, hp⟩ := hg
  obtain ⟨ag, ng, cg, rfl⟩ : ∃ a n c, v = .slice a n c := by obtain ⟨a, c, e, _⟩ := hv.gs; exact ⟨a, _, c, e⟩
  obtain ⟨ap, np, cp, rfl⟩ : ∃ a n c, vp = .slice a n c := by obtain ⟨a, c, e, _⟩ := hp; exact ⟨a, _, c, e⟩
  obtain ⟨W1, hW1⟩ : ∃ W1, W1 = w.alloc (.cells #[.int .i64 g.p, .int .i64 g.n, .slice ag ng cg, .slice ap np cp] 69) := ⟨_, rfl⟩
  have hS : Same w W1 := by rw [hW1]; exact (Same.refl w).alloc _
  have H := Holds_spec W1 g _ vw who ⟨_, rfl, hv.keep hS.keep⟩ (hw.keep hS.keep)
  obtain ⟨aw, nw, cw, rfl⟩ : ∃ a n c, vw = .slice a n c := by obtain ⟨a, c, e, _⟩ := hw; exact ⟨a, _, c, e⟩
  have HW1 := Lib.hid hW1
  rw [hW1] at H
  clear hW1 hv hw hp
  generalize hb : (g.Holds who).1 = b at H
  generalize he : (g.Holds who).2 = er at H
  have hcan : g.can who = (b && decide (er = 0)) := by rw [Gt.can, hb, he]
  have HC := Lib.hid hcan
  clear hb he hcan
  cases b with
  | true =>
    go_enter Try.func61, Try.ntmps61
    go_wp2_with fail
    refine H.mono ?_
    clear H
    rintro e w1 ⟨rfl, hs⟩
    go_wp2_with fail
    go_ret
    refine ⟨ret_bool ?_, ?_⟩
    · rw [HC.out]; simp <;> rfl
    · rw [← HW1.out] at hs
      exact hS.trans hs
  | false =>
    go_enter Try.func61, Try.ntmps61
    go_wp2_with fail
    refine H.mono ?_
    clear H
    rintro e w1 ⟨rfl, hs⟩
    go_wp2_with fail
    go_ret
    refine ⟨ret_bool ?_, ?_⟩
    · rw [HC.out]; simp
    · rw [← HW1.out] at hs
      exact hS.trans hs
end Go.Proofs.Ytmnpbopkhpbhiaa
