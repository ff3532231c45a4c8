/- signatoryref22.Check. -/
import Derived.Test.YtmnpbopkhpbhiaaRefRight
set_option linter.unusedVariables false
set_option linter.unusedSimpArgs false
namespace Go.Proofs.Ytmnpbopkhpbhiaa
open Go.RowKit
set_option maxRecDepth 100000
/-- What the reference's Check answers. -/
def Gt.rcheck (g : Gt) : Int := if g.deep 16 = true ∨ 256 < g.lv 256 then 2 else if g.right then 0 else 220
set_option maxHeartbeats 1000000 in
theorem refCheck_spec (w : World) (g : Gt) (val : Value) (hg : IsG w g val) :
    Calls Try.prog 110 #[val] w fun e w' => e = .returned (.int .i64 g.rcheck) ∧ Same w w' := by
  obtain ⟨v, rfl, hv⟩ := hg
  obtain ⟨a, n, c, rfl⟩ : ∃ a n c, v = .slice a n c := by obtain ⟨a, c, e, _⟩ := hv.gs; exact ⟨a, _, c, e⟩
  obtain ⟨W1, hW1⟩ : ∃ W1, W1 = w.alloc (.cells #[.int .i64 g.p, .int .i64 g.n, .slice a n c] 24) := ⟨_, rfl⟩
  have hS1 : Same w W1 := by rw [hW1]; exact (Same.refl w).alloc _
  have r1 : Rec W1 w.heap.size 24 #[.int .i64 g.p, .int .i64 g.n, .slice a n c] := by rw [hW1]; exact Rec.new _ _ _
  have HV := Lib.hid hv
  have H1 := deeper_all (SizeOf.sizeOf g + 1) g W1 _ 16 (by omega) ⟨_, rfl, hv.keep hS1.keep⟩ (by omega)
  have H2 := fun W (h : Same W1 W) => Leaves_all (SizeOf.sizeOf g + 1) g W _ 256 (by omega) ⟨_, rfl, HV.out.keep (hS1.trans h).keep⟩ (by omega) (by omega)
  have H3 := fun W (h : Same W1 W) => refRight_all (SizeOf.sizeOf g + 1) g W _ (by omega) ⟨_, rfl, HV.out.keep (hS1.trans h).keep⟩
  have HW1 := Lib.hid hW1
  rw [hW1] at H1
  have hr : g.rcheck = if g.deep 16 = true ∨ 256 < g.lv 256 then 2 else if g.right then 0 else 220 := rfl
  have HR := Lib.hid hr
  clear hv hW1 hr
  generalize hd : g.deep 16 = d at *
  generalize hl : g.lv 256 = lv at *
  generalize hrr : g.right = rt at *
  clear hd hl hrr
  cases d with
  | true =>
    go_enter Try.func110, Try.ntmps110
    go_wp2_with fail
    refine H1.mono ?_
    clear H1
    rintro e w2 ⟨rfl, hs⟩
    rw [← HW1.out] at hs
    go_wp2_with fail
    go_ret
    exact ⟨ret_int (by rw [HR.out]; simp), hS1.trans hs⟩
  | false =>
    go_enter Try.func110, Try.ntmps110
    go_wp2_with fail
    refine H1.mono ?_
    clear H1
    rintro e w2 ⟨rfl, hs⟩
    rw [← HW1.out] at hs
    have r2 := Rec.same hs r1
    have q0 := r2.cell 0
    have q1 := r2.cell 1
    have q2 := r2.cell 2
    have l2 := r2.lt
    simp at q0 q1 q2
    have H2 := H2 w2 hs
    go_wp2_with fail
    refine H2.mono ?_
    clear H2
    rintro e w3 ⟨rfl, hs3⟩
    have r3 := Rec.same hs3 r2
    have p0 := r3.cell 0
    have p1 := r3.cell 1
    have p2 := r3.cell 2
    have l3 := r3.lt
    simp at p0 p1 p2
    have H3 := H3 w3 (hs.trans hs3)
    by_cases hlv : 256 < lv
    · go_wp2_with fail
      go_ret
      exact ⟨ret_int (by rw [HR.out]; simp [hlv]), (hS1.trans hs).trans hs3⟩
    · have hlv2 : lv ≤ 256 := by omega
      go_wp2_with fail
      refine H3.mono ?_
      clear H3
      rintro e w4 ⟨rfl, hs4⟩
      cases rt with
      | true =>
        go_wp2_with fail
        go_ret
        exact ⟨ret_int (by rw [HR.out]; simp [hlv]), ((hS1.trans hs).trans hs3).trans hs4⟩
      | false =>
        go_wp2_with fail
        go_ret
        exact ⟨ret_int (by rw [HR.out]; simp [hlv]), ((hS1.trans hs).trans hs3).trans hs4⟩
end Go.Proofs.Ytmnpbopkhpbhiaa
