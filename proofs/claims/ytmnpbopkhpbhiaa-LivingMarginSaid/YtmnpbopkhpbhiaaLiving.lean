/- living.Living. -/
import Derived.Test.YtmnpbopkhpbhiaaLivingCheck
import Derived.Deep.RegionHeld3
set_option linter.unusedVariables false
set_option linter.unusedSimpArgs false
namespace Go.Proofs.Ytmnpbopkhpbhiaa
open Go.RowKit
set_option maxRecDepth 100000
/-- Those of the people who are alive. -/
def Gt.own (g : Gt) (alive : List Int) : List Int := minus g.people (minus g.people alive)
theorem minus_length (l out : List Int) : (minus l out).length ≤ l.length := List.length_filter_le _ _
theorem people_length {g : Gt} {alive : List Int} (h : g.lcheck alive = 0) : g.people.length ≤ 12 := by
  rw [Gt.people, sorted_length]
  unfold Gt.lcheck at h
  split at h
  · omega
  · split at h
    · omega
    · omega
theorem Ints.form {w : World} {v : Value} {xs : List Int} (h : Ints w v xs) : ∃ a n c, v = .slice a n c := by obtain ⟨a, c, e, _⟩ := h; exact ⟨a, _, c, e⟩
def Gt.Living (g : Gt) (alive : List Int) : List Int × Bool × Int :=
  if g.lcheck alive ≠ 0 then ([], false, g.lcheck alive) else (((allSubs (g.own alive)).find? g.can).getD [], ((allSubs (g.own alive)).find? g.can).isSome, 0)
theorem enters_sholds (args : Array Value) (w : World) : (callFunc 61 args).run Try.prog w = .ok (.enter 61 args) w :=
  enters_of Try.func61 (by kernel_rfl) rfl args w
set_option maxHeartbeats 4000000 in
theorem Living_spec (w : World) (g : Gt) (gv va : Value) (alive : List Int) (hg : IsG w g gv) (ha : Ints w va alive) :
    Calls Try.prog 20 #[gv, va] w fun e w' => ∃ v, e = .returned (.tuple #[v, .bool (g.Living alive).2.1, .int .i64 (g.Living alive).2.2]) ∧ Ints w' v (g.Living alive).1 ∧ Same w w' := by
  obtain ⟨v, rfl, hv⟩ := hg
  obtain ⟨ag, ng, cg, rfl⟩ : ∃ a n c, v = .slice a n c := by obtain ⟨a, c, e, _⟩ := hv.gs; exact ⟨a, _, c, e⟩
  obtain ⟨al, nl, cl, rfl⟩ : ∃ a n c, va = .slice a n c := by obtain ⟨a, c, e, _⟩ := ha; exact ⟨a, _, c, e⟩
  obtain ⟨W1, hW1⟩ : ∃ W1, W1 = w.alloc (.cells #[.int .i64 g.p, .int .i64 g.n, .slice ag ng cg] 24) := ⟨_, rfl⟩
  have hS1 : Same w W1 := by rw [hW1]; exact (Same.refl w).alloc _
  have H1 := lcheck_spec W1 g _ _ alive ⟨_, rfl, hv.keep hS1.keep⟩ (ha.keep hS1.keep)
  have HA := Lib.hid ha
  have HW1 := Lib.hid hW1
  rw [hW1] at H1
  clear ha hv hW1
  have hL : g.Living alive = if g.lcheck alive ≠ 0 then ([], false, g.lcheck alive) else (((allSubs (g.own alive)).find? g.can).getD [], ((allSubs (g.own alive)).find? g.can).isSome, 0) := rfl
  have HL := Lib.hid hL
  have hPL : g.lcheck alive = 0 → g.people.length ≤ 12 := people_length
  have HPL := Lib.hid hPL
  clear hL hPL
  generalize hck : g.lcheck alive = ck at *
  clear hck
  go_enter Try.func20, Try.ntmps20
  go_wp2_with fail
  refine H1.mono ?_
  clear H1
  rintro e W2 ⟨p, n, a, b, a', b', o, o', rfl, hstr, hs2⟩
  rw [← HW1.out] at hs2
  have HS := Lib.hid hstr
  clear hstr
  by_cases hc0 : ck = 0
  · subst hc0
    obtain ⟨v', vp, e', hv', hp'⟩ := HS.out rfl
    simp at e'
    obtain ⟨rfl, rfl, rfl, rfl⟩ := e'
    obtain ⟨W3, hW3⟩ : ∃ W3, W3 = W2.alloc (.cells #[.int .i64 g.p, .int .i64 g.n, .slice o a b, .slice o' a' b'] 69) := ⟨_, rfl⟩
    have hS3 : Same W2 W3 := by rw [hW3]; exact (Same.refl W2).alloc _
    have hS13 : Same w W3 := (hS1.trans hs2).trans hS3
    have r3 : Rec W3 W2.heap.size 69 #[.int .i64 g.p, .int .i64 g.n, .slice o a b, .slice o' a' b'] := by rw [hW3]; exact Rec.new _ _ _
    have q0 := r3.cell 0
    have q1 := r3.cell 1
    have q2 := r3.cell 2
    have q3 := r3.cell 3
    simp at q0 q1 q2 q3
    have HAl := Lib.hid (HA.out.keep hS13.keep)
    have HP := Lib.hid (hp'.keep hS3.keep)
    have HV := Lib.hid (hv'.keep hS3.keep)
    have HW3 := Lib.hid hW3
    clear hv' hp' hW3 r3
    go_wp2_with fail
    rw [← HW3.out]
    go_region_held3 (fun W => W.cell? ⟨W2.heap.size, 3, none⟩ = some (.slice o' a' b') ∧ Same W3 W)
      (first | exact ⟨q3, (Same.refl _).drew⟩ | ((try go_split_ands); exact ⟨Keep.cell hs.keep (by assumption), Same.trans (by assumption) hs⟩))
      (first
        | (go_at_call 58; (try go_split_ands); refine (without_spec _ (.slice o' a' b') (.slice al nl cl) g.people alive (HP.out.keep (Same.keep (by assumption))) (HAl.out.keep (Same.keep (by assumption)))).mono ?_; rintro e w1 ⟨v1, rfl, hi1, hs⟩; obtain ⟨a1, n1, c1, rfl⟩ := Ints.form hi1)
        | (go_at_call 58; (try go_split_ands); refine (without_spec _ (.slice o' a' b') (.slice a1 n1 c1) g.people (minus g.people alive) (HP.out.keep (Same.keep (by assumption))) hi1).mono ?_; rintro e w2 ⟨v2, rfl, hi2, hs⟩; obtain ⟨a2, n2, c2, rfl⟩ := Ints.form hi2))
    go_wp2_with fail
    go_split_ands
    have hSw : Same W3 w2 := by assumption
    have HI2 := Lib.hid hi2
    have HSW := Lib.hid hSw
    have z0 := hSw.keep.cell q0
    have z1 := hSw.keep.cell q1
    have z2 := hSw.keep.cell q2
    have z3 := hSw.keep.cell q3
    have hlen : (g.own alive).length ≤ 12 := Nat.le_trans (minus_length _ _) (HPL.out trivial)
    have hfs := fun W bx (hb : Boxed W bx 25 (.slice a2 n2 c2)) (hS : Same w2 W) => first_subsets W bx a2 n2 c2 (g.own alive) 61 #[.agg #[.int .i64 g.p, .int .i64 g.n, .slice o a b, .slice o' a' b']] #[] g.can hb (HI2.out.keep hS.keep) hlen enters_sholds
      (fun A y x hSA hy => sholds_spec A g _ y g.people x ⟨_, _, rfl, HV.out.keep ((HSW.out.trans hS).trans hSA).keep, HP.out.keep ((HSW.out.trans hS).trans hSA).keep⟩ hy)
    clear hlen hSw hi2 hi1
    go_region_held3 (fun W => W.cell? ⟨W2.heap.size, 0, none⟩ = some (.int .i64 g.p) ∧ W.cell? ⟨W2.heap.size, 1, none⟩ = some (.int .i64 g.n) ∧ W.cell? ⟨W2.heap.size, 2, none⟩ = some (.slice o a b) ∧ W.cell? ⟨W2.heap.size, 3, none⟩ = some (.slice o' a' b') ∧ Same w2 W)
      (first
        | exact ⟨z0, z1, z2, z3, (Same.refl _).drew⟩
        | ((try go_split_ands); exact ⟨Keep.cell hs.keep (by assumption), Keep.cell hs.keep (by assumption), Keep.cell hs.keep (by assumption), Keep.cell hs.keep (by assumption), Same.trans (by assumption) hs⟩))
      (first
        | (go_at_call 60; (try go_split_ands); refine (subsets_box _ a2 n2 c2).mono ?_; rintro e w3 ⟨b3, rfl, hbx, hs⟩)
        | (go_at_call 59; (try go_split_ands); refine (hfs _ b3 hbx (by assumption)).mono ?_; rintro e w4 ⟨v4, rfl, hi4, hs⟩; obtain ⟨a4, n4, c4, rfl⟩ := Ints.form hi4))
    all_goals
      go_wp2_with fail
      go_split_ands
      have hSf : Same w2 w4 := by assumption
      have hLv : g.Living alive = (((allSubs (g.own alive)).find? g.can).getD [], ((allSubs (g.own alive)).find? g.can).isSome, 0) := by rw [HL.out]; simp
      go_ret3
      refine ⟨.slice a4 n4 c4, by rw [hLv]; rfl, by rw [hLv]; exact hi4, hS13.trans (HSW.out.trans hSf)⟩
  · have hb : (ck != 0) = true := by simpa using hc0
    have HC0 := Lib.hid hc0
    clear hc0
    go_wp2_with fail
    go_ret3
    refine ⟨.slice none 0 0, ?_, ?_, (hS1.trans hs2).alloc _⟩
    · rw [HL.out, if_pos HC0.out]; rfl
    · rw [HL.out, if_pos HC0.out]; exact Ints.nil' _ _
end Go.Proofs.Ytmnpbopkhpbhiaa
