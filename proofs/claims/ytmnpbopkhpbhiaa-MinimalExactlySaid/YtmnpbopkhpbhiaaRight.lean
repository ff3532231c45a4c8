/- formulas.right. -/
import Derived.Test.YtmnpbopkhpbhiaaGate
import Derived.Shelf.Abstract
set_option linter.unusedVariables false
set_option linter.unusedSimpArgs false
namespace Go.Proofs.Ytmnpbopkhpbhiaa
open Go.RowKit
mutual
/-- A formula is right. -/
def Gt.right : Gt → Bool
  | .mk p n l => if 0 ≤ p then decide (p < 64) && (decide (n = 0) && l.isEmpty) else decide (p = -1) && (decide (1 ≤ n) && (decide (n ≤ 4096) && rightL l))
def rightL : List Gt → Bool
  | [] => true
  | g :: gs => g.right && rightL gs
end
theorem rightL_any : ∀ l : List Gt, rightL l = !(l.any fun x => !x.right)
  | [] => by simp [rightL]
  | g :: gs => by simp [rightL, rightL_any gs, List.any_cons]
theorem enters_right1 : ∀ args w, (callFunc 135 args).run Try.prog w = .ok (.enter 135 args) w :=
  enters_of Try.func135 (by kernel_rfl) rfl
theorem Same.cells {w W : World} (h : Same w W) : (∀ b o, b < w.heap.size → W.cell? ⟨b, o, none⟩ = w.cell? ⟨b, o, none⟩) ∧ (∀ b o, b < w.heap.size → W.frozen? ⟨b, o, none⟩ = w.frozen? ⟨b, o, none⟩) :=
  ⟨fun b o hb => h.out.cell (p := ⟨b, o, none⟩) hb, fun b o hb => h.out.frozen (p := ⟨b, o, none⟩) hb⟩
theorem ret_bool {a b : Bool} (h : a = b) : Ending.returned (.bool a) = .returned (.bool b) := by rw [h]
theorem ret_int {a b : Int} (h : a = b) : Ending.returned (.int .i64 a) = .returned (.int .i64 b) := by rw [h]
set_option maxHeartbeats 1000000 in
theorem right_all (k : Nat) : ∀ (g : Gt) (w : World) (val : Value), SizeOf.sizeOf g < k → IsG w g val →
    Calls Try.prog 108 #[val] w fun e w' => e = .returned (.bool g.right) ∧ Same w w' := by
  induction k with
  | zero => intro g w val hk; omega
  | succ k ih =>
    intro g w val hk hg
    obtain ⟨v, rfl, hv⟩ := hg
    obtain ⟨p, n, l⟩ := g
    obtain ⟨a, cap, rfl, hcap, hmax, hl⟩ := hv.gs
    simp only [Gt.p_mk, Gt.n_mk, Gt.l_mk] at *
    have hgs : Gs w (.slice a l.length cap) l := ⟨a, cap, rfl, hcap, hmax, hl⟩
    have H1 : ∀ x, x ∈ l → ∀ val W, Same (w.alloc (.cells #[.int .i64 p, .int .i64 n, .slice a l.length cap] 24)) W → IsG (w.alloc (.cells #[.int .i64 p, .int .i64 n, .slice a l.length cap] 24)) x val → Calls Try.prog 135 #[val] W fun e W' => e = .returned (.bool (!x.right)) ∧ Same W W' := by
      intro x hx val W hW hxg
      have hlt : SizeOf.sizeOf x < k := by
        have := List.sizeOf_lt_of_mem hx
        simp only [Gt.mk.sizeOf_spec] at hk
        omega
      obtain ⟨v', rfl, hv'⟩ := hxg
      have H := fun W' (h : Same W W') => ih x W' (.agg #[.int .i64 x.p, .int .i64 x.n, v']) hlt (IsG.keep (hW.trans h).keep ⟨v', rfl, hv'⟩)
      have H2 := H (W.alloc (.cells #[.int .i64 x.p, .int .i64 x.n, v'] 24)) ((Same.refl W).alloc _)
      clear H ih
      go_enter Try.func135, Try.ntmps135
      go_wp2_with fail
      refine H2.mono ?_
      rintro e w1 ⟨rfl, hs⟩
      go_wp2_with fail
      go_ret
      exact ⟨rfl, ((Same.refl W).alloc _).trans hs⟩
    clear ih
    have H2 := contains_gate_pure (w.alloc (.cells #[.int .i64 p, .int .i64 n, .slice a l.length cap] 24)) (.slice a l.length cap) l (hgs.keep ((Same.refl w).alloc _).keep) 135 #[] enters_right1 (fun x => !x.right)
      (fun x hx val W hW hxg => H1 x hx val W hW hxg)
    clear H1 hl hgs hv
    by_cases hp : 0 ≤ p
    · go_enter Try.func108, Try.ntmps108
      go_wp2_with fail
      all_goals go_ret
      all_goals exact ⟨ret_bool (by rw [Gt.right, if_pos hp]; cases l <;> simp_all <;> omega), (Same.refl w).alloc _⟩
    · by_cases hp1 : p = -1
      · subst hp1
        go_enter Try.func108, Try.ntmps108
        go_wp2_with (refine H2.mono ?_; rintro e w1 ⟨rfl, hs⟩)
        · go_ret
          exact ⟨ret_bool (by rw [Gt.right, if_neg (by omega)]; simp_all [rightL_any]), ((Same.refl w).alloc _).trans hs⟩
        all_goals go_ret
        all_goals exact ⟨ret_bool (by rw [Gt.right, if_neg (by omega)]; first | (simp_all [rightL_any]; done) | (simp_all [rightL_any]; intros; omega)), (Same.refl w).alloc _⟩
      · go_enter Try.func108, Try.ntmps108
        go_wp2_with (refine H2.mono ?_; rintro e w1 ⟨rfl, hs⟩)
        all_goals go_ret
        all_goals exact ⟨ret_bool (by rw [Gt.right, if_neg (by omega)]; simp_all [rightL_any]), (Same.refl w).alloc _⟩
end Go.Proofs.Ytmnpbopkhpbhiaa
