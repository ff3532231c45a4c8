/- living.Dead. -/
import Derived.Test.YtmnpbopkhpbhiaaMarginC
set_option linter.unusedVariables false
set_option linter.unusedSimpArgs false
namespace Go.Proofs.Ytmnpbopkhpbhiaa
open Go.RowKit
set_option maxRecDepth 100000
/-- The people who are not alive. -/
def Gt.gone (g : Gt) (alive : List Int) : List Int := minus g.people alive
def Gt.Dead (g : Gt) (alive : List Int) : List Int × Bool × Int :=
  if g.lcheck alive ≠ 0 then ([], false, g.lcheck alive) else if g.can alive then ([], false, 0) else
    (((allSubs (g.gone alive)).find? fun l => !g.can (minus g.people l)).getD [], ((allSubs (g.gone alive)).find? fun l => !g.can (minus g.people l)).isSome, 0)
set_option maxHeartbeats 4000000 in
theorem Dead_spec (w : World) (g : Gt) (gv va : Value) (alive : List Int) (hg : IsG w g gv) (ha : Ints w va alive) :
    Calls Try.prog 25 #[gv, va] w fun e w' => ∃ v, e = .returned (.tuple #[v, .bool (g.Dead alive).2.1, .int .i64 (g.Dead alive).2.2]) ∧ Ints w' v (g.Dead alive).1 ∧ Same w w' := by
  obtain ⟨v, rfl, hv⟩ := hg
  obtain ⟨ag, ng, cg, rfl⟩ : ∃ a n c, v = .slice a n c := by obtain ⟨a, c, e, _⟩ := hv.gs; exact ⟨a, _, c, e⟩
  obtain ⟨al, nl, cl, rfl⟩ : ∃ a n c, va = .slice a n c := by obtain ⟨a, c, e, _⟩ := ha; exact ⟨a, _, c, e⟩
  obtain ⟨W1, hW1⟩ : ∃ W1, W1 = w.alloc (.cells #[.int .i64 g.p, .int .i64 g.n, .slice ag ng cg] 24) := ⟨_, rfl⟩
  have hS1 : Same w W1 := by rw [hW1]; exact (Same.refl w).alloc _
  have H1 := lcheck_spec W1 g _ _ alive ⟨_, rfl, hv.keep hS1.keep⟩ (ha.keep hS1.keep)
  have HA := Lib.hid ha
  have HW1 := Lib.hid hW1
  rw [hW1] at H1
  clear ha hv hW1
  have hL : g.Dead alive = if g.lcheck alive ≠ 0 then ([], false, g.lcheck alive) else if g.can alive then ([], false, 0) else
    (((allSubs (g.gone alive)).find? fun l => !g.can (minus g.people l)).getD [], ((allSubs (g.gone alive)).find? fun l => !g.can (minus g.people l)).isSome, 0) := rfl
  have HL := Lib.hid hL
  have hPL : g.lcheck alive = 0 → g.people.length ≤ 12 := people_length
  have HPL := Lib.hid hPL
  clear hL hPL
  generalize hck : g.lcheck alive = ck at *
  clear hck
  go_enter Try.func25, Try.ntmps25
  go_wp2_with fail
  refine H1.mono ?_
  clear H1
  rintro e W2 ⟨p, n, a, b, a', b', o, o', rfl, hstr, hs2⟩
  rw [← HW1.out] at hs2
  have HS := Lib.hid hstr
  clear hstr
  by_cases hc0 : ck = 0
  · subst hc0
    obtain ⟨v', vp, e', hv', hp'⟩ := HS.out rfl
    simp at e'
    obtain ⟨rfl, rfl, rfl, rfl⟩ := e'
    obtain ⟨W3, hW3⟩ : ∃ W3, W3 = W2.alloc (.cells #[.int .i64 g.p, .int .i64 g.n, .slice o a b, .slice o' a' b'] 69) := ⟨_, rfl⟩
    have hS3 : Same W2 W3 := by rw [hW3]; exact (Same.refl W2).alloc _
    have hS13 : Same w W3 := (hS1.trans hs2).trans hS3
    have r3 : Rec W3 W2.heap.size 69 #[.int .i64 g.p, .int .i64 g.n, .slice o a b, .slice o' a' b'] := by rw [hW3]; exact Rec.new _ _ _
    have HAl := Lib.hid (HA.out.keep hS13.keep)
    have HP := Lib.hid (hp'.keep hS3.keep)
    have HV := Lib.hid (hv'.keep hS3.keep)
    have hsh := sholds_spec W3 g (.agg #[.int .i64 g.p, .int .i64 g.n, .slice o a b, .slice o' a' b']) (.slice al nl cl) g.people alive ⟨_, _, rfl, HV.out, HP.out⟩ HAl.out
    have hpl := HPL.out (by trivial)
    have HPL2 := Lib.hid hpl
    have HW3 := Lib.hid hW3
    have HR3 := Lib.hid r3
    rw [hW3] at hsh
    clear hv' hp' hW3 r3 hpl
    cases hcan : g.can alive with
    | true =>
      rw [hcan] at hsh
      have hLv : g.Dead alive = ([], false, 0) := by rw [HL.out]; simp [hcan]
      have HLV := Lib.hid hLv
      clear hLv hcan
      go_wp2_with fail
      refine hsh.mono ?_
      clear hsh
      rintro e W4 ⟨rfl, hs4⟩
      rw [← HW3.out] at hs4
      go_wp2_with fail
      go_ret3
      exact ⟨.slice none 0 0, by rw [HLV.out]; rfl, by rw [HLV.out]; exact Ints.nil' _ _, hS13.trans hs4⟩
    | false =>
      rw [hcan] at hsh
      have hLv : g.Dead alive = (((allSubs (g.gone alive)).find? fun l => !g.can (minus g.people l)).getD [], ((allSubs (g.gone alive)).find? fun l => !g.can (minus g.people l)).isSome, 0) := by rw [HL.out]; simp [hcan]
      have HLV := Lib.hid hLv
      clear hLv hcan
      go_wp2_with fail
      refine hsh.mono ?_
      clear hsh
      rintro e W4 ⟨rfl, hs4⟩
      rw [← HW3.out] at hs4
      have r4 := Rec.same hs4 HR3.out
      have q3 := r4.cell 3
      simp at q3
      have hwo := without_spec W4 (.slice o' a' b') (.slice al nl cl) g.people alive (HP.out.keep hs4.keep) (HAl.out.keep hs4.keep)
      go_wp2_with fail
      refine hwo.mono ?_
      clear hwo
      rintro e W5 ⟨v5, rfl, hi5, hs5⟩
      obtain ⟨a5, n5, c5, rfl⟩ := Ints.form hi5
      have HI5 := Lib.hid hi5
      clear hi5
      go_wp2_with fail
      refine (subsets_box W5 a5 n5 c5).mono ?_
      rintro e W6 ⟨b6, rfl, hb6, hs6⟩
      have hlen : (g.gone alive).length ≤ 12 := Nat.le_trans (minus_length _ _) HPL2.out
      have hs36 := (hs4.trans hs5).trans hs6
      have hfs := first_subsets W6 b6 a5 n5 c5 (g.gone alive) 65 #[] #[ptr W2.heap.size] (fun l => !g.can (minus g.people l)) hb6 (HI5.out.keep hs6.keep) hlen enters_dead1
        (fun A y x hSA hy => dead1_spec A W2.heap.size g g.people x o o' a b a' b' y ⟨_, _, rfl, HV.out.keep (hs36.trans hSA).keep, HP.out.keep (hs36.trans hSA).keep⟩ (HP.out.keep (hs36.trans hSA).keep) hy (Rec.same (hs36.trans hSA) HR3.out))
      clear hlen
      go_wp2_with fail
      refine hfs.mono ?_
      clear hfs
      rintro e W7 ⟨v7, rfl, hi7, hs7⟩
      obtain ⟨a7, n7, c7, rfl⟩ := Ints.form hi7
      have HI7 := Lib.hid hi7
      clear hi7
      go_wp2_with fail
      go_ret3
      exact ⟨.slice a7 n7 c7, by rw [HLV.out]; rfl, by rw [HLV.out]; exact HI7.out, hS13.trans (hs36.trans hs7)⟩
  · have hb : (ck != 0) = true := by simpa using hc0
    have HC0 := Lib.hid hc0
    clear hc0
    go_wp2_with fail
    go_ret3
    refine ⟨.slice none 0 0, ?_, ?_, (hS1.trans hs2).alloc _⟩
    · rw [HL.out, if_pos HC0.out]; rfl
    · rw [HL.out, if_pos HC0.out]; exact Ints.nil' _ _
end Go.Proofs.Ytmnpbopkhpbhiaa
