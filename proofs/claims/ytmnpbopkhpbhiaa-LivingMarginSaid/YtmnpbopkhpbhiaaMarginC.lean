/- The closures of living.Margin and living.Dead. -/
import Derived.Test.YtmnpbopkhpbhiaaLiving
set_option linter.unusedVariables false
set_option linter.unusedSimpArgs false
namespace Go.Proofs.Ytmnpbopkhpbhiaa
open Go.RowKit
set_option maxRecDepth 100000
theorem enters_margin1 (args : Array Value) (w : World) : (callFunc 64 args).run Try.prog w = .ok (.enter 64 args) w :=
  enters_of Try.func64 (by kernel_rfl) rfl args w
theorem enters_dead1 (args : Array Value) (w : World) : (callFunc 65 args).run Try.prog w = .ok (.enter 65 args) w :=
  enters_of Try.func65 (by kernel_rfl) rfl args w
set_option maxHeartbeats 4000000 in
theorem margin1_spec (A : World) (Bs Bo : Nat) (g : Gt) (ps own l : List Int) (o o' ao : Option Addr) (a b a' b' no co : Nat) (y : Value)
    (hs : IsStr A g ps (.agg #[.int .i64 g.p, .int .i64 g.n, .slice o a b, .slice o' a' b'])) (ho : Ints A (.slice ao no co) own) (hy : Ints A y l)
    (rs : Rec A Bs 69 #[.int .i64 g.p, .int .i64 g.n, .slice o a b, .slice o' a' b']) (ro : Rec A Bo 25 #[.slice ao no co]) :
    Calls Try.prog 64 #[y, ptr Bs, ptr Bo] A fun e w' => e = .returned (.bool (!g.can (minus own l))) ∧ Same A w' := by
  obtain ⟨ay, ny, cy, rfl⟩ := Ints.form hy
  have q0 := rs.cell 0
  have q1 := rs.cell 1
  have q2 := rs.cell 2
  have q3 := rs.cell 3
  have q4 := ro.cell 0
  simp at q0 q1 q2 q3 q4
  have HS := Lib.hid hs
  have HO := Lib.hid ho
  have HY := Lib.hid hy
  clear hs ho hy rs ro
  go_enter Try.func64, Try.ntmps64
  go_wp2_with fail
  go_region_held3 (fun W => W.cell? ⟨Bs, 0, none⟩ = some (.int .i64 g.p) ∧ W.cell? ⟨Bs, 1, none⟩ = some (.int .i64 g.n) ∧ W.cell? ⟨Bs, 2, none⟩ = some (.slice o a b) ∧ W.cell? ⟨Bs, 3, none⟩ = some (.slice o' a' b') ∧ W.cell? ⟨Bo, 0, none⟩ = some (.slice ao no co) ∧ Same A W)
    (first
      | exact ⟨q0, q1, q2, q3, q4, (Same.refl _).drew⟩
      | ((try go_split_ands); exact ⟨Keep.cell hs.keep (by assumption), Keep.cell hs.keep (by assumption), Keep.cell hs.keep (by assumption), Keep.cell hs.keep (by assumption), Keep.cell hs.keep (by assumption), Same.trans (by assumption) hs⟩))
    (first
      | (go_at_call 58; (try go_split_ands); refine (without_spec _ (.slice ao no co) (.slice ay ny cy) own l (HO.out.keep (Same.keep (by assumption))) (HY.out.keep (Same.keep (by assumption)))).mono ?_; rintro e w1 ⟨v1, rfl, hi1, hs⟩; obtain ⟨a1, n1, c1, rfl⟩ := Ints.form hi1)
      | (go_at_call 61; (try go_split_ands); refine (sholds_spec _ g (.agg #[.int .i64 g.p, .int .i64 g.n, .slice o a b, .slice o' a' b']) (.slice a1 n1 c1) ps (minus own l) (HS.out.keep (Same.keep (by assumption))) hi1).mono ?_; rintro e w2 ⟨rfl, hs⟩))
  all_goals
    go_wp2_with fail
    go_split_ands
    have hSf : Same A w2 := by assumption
    go_ret
    exact ⟨rfl, hSf⟩
set_option maxHeartbeats 4000000 in
theorem dead1_spec (A : World) (Bs : Nat) (g : Gt) (ps l : List Int) (o o' : Option Addr) (a b a' b' : Nat) (y : Value)
    (hs : IsStr A g ps (.agg #[.int .i64 g.p, .int .i64 g.n, .slice o a b, .slice o' a' b'])) (hp : Ints A (.slice o' a' b') ps) (hy : Ints A y l)
    (rs : Rec A Bs 69 #[.int .i64 g.p, .int .i64 g.n, .slice o a b, .slice o' a' b']) :
    Calls Try.prog 65 #[y, ptr Bs] A fun e w' => e = .returned (.bool (!g.can (minus ps l))) ∧ Same A w' := by
  obtain ⟨ay, ny, cy, rfl⟩ := Ints.form hy
  have q0 := rs.cell 0
  have q1 := rs.cell 1
  have q2 := rs.cell 2
  have q3 := rs.cell 3
  simp at q0 q1 q2 q3
  have HS := Lib.hid hs
  have HP := Lib.hid hp
  have HY := Lib.hid hy
  clear hs hp hy rs
  go_enter Try.func65, Try.ntmps65
  go_wp2_with fail
  go_region_held3 (fun W => W.cell? ⟨Bs, 0, none⟩ = some (.int .i64 g.p) ∧ W.cell? ⟨Bs, 1, none⟩ = some (.int .i64 g.n) ∧ W.cell? ⟨Bs, 2, none⟩ = some (.slice o a b) ∧ W.cell? ⟨Bs, 3, none⟩ = some (.slice o' a' b') ∧ Same A W)
    (first
      | exact ⟨q0, q1, q2, q3, (Same.refl _).drew⟩
      | ((try go_split_ands); exact ⟨Keep.cell hs.keep (by assumption), Keep.cell hs.keep (by assumption), Keep.cell hs.keep (by assumption), Keep.cell hs.keep (by assumption), Same.trans (by assumption) hs⟩))
    (first
      | (go_at_call 58; (try go_split_ands); refine (without_spec _ (.slice o' a' b') (.slice ay ny cy) ps l (HP.out.keep (Same.keep (by assumption))) (HY.out.keep (Same.keep (by assumption)))).mono ?_; rintro e w1 ⟨v1, rfl, hi1, hs⟩; obtain ⟨a1, n1, c1, rfl⟩ := Ints.form hi1)
      | (go_at_call 61; (try go_split_ands); refine (sholds_spec _ g (.agg #[.int .i64 g.p, .int .i64 g.n, .slice o a b, .slice o' a' b']) (.slice a1 n1 c1) ps (minus ps l) (HS.out.keep (Same.keep (by assumption))) hi1).mono ?_; rintro e w2 ⟨rfl, hs⟩))
  all_goals
    go_wp2_with fail
    go_split_ands
    have hSf : Same A w2 := by assumption
    go_ret
    exact ⟨rfl, hSf⟩
end Go.Proofs.Ytmnpbopkhpbhiaa
