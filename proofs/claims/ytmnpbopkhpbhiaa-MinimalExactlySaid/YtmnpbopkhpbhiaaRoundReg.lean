/- A region that draws its order, in a round of a range over a function: it goes as elsewhere. A region that draws its order, of reads and of calls that leave what there was (Same): walked once, in the order of the text. -/
import Derived.Test.YtmnpbopkhpbhiaaRange
import Derived.Deep.RegionHeld3
import Derived.OrdersIn
import Derived.Test.YtmnpbopkhpbhiaaBase
import Derived.Deep.QuietTactic
set_option linter.unusedVariables false
set_option linter.unusedSimpArgs false
namespace Go.Proofs.Ytmnpbopkhpbhiaa
section
open Go.RowKit
/-- Q, but nothing at a machine that outgrows its room. -/
def NoOut (Q : Exit → Act → World → Prop) : Exit → Act → World → Prop
  | .outgrown, _, _ => False
  | e, a, w => Q e a w
theorem NoOut.imp {Q : Exit → Act → World → Prop} {e : Exit} {a : Act} {w : World} (h : NoOut Q e a w) : Q e a w := by
  cases e <;> first | exact h | exact (h : False).elim
theorem noOut_not {Q : Exit → Act → World → Prop} : ¬ LetsOut (NoOut Q) := fun ⟨_, _, h⟩ => h
section
variable {P : Program} {ops : Array Oper} {Q : Exit → Act → World → Prop} {S : World → Prop} {md : Region.Mode} {l : Nat}
theorem rows_wide {n : Nat} {row : String} {args : Array Value} {w : World} {R : Value → World → Prop} (h : Rows P row args w R) : RowsIn Fence.wide n P row args w R :=
  fun c cs _ => let ⟨v, w', r, s⟩ := h c cs; ⟨v, w', r, stepsIn_wide.2 s⟩
theorem wpOpIn_round {i : Nat} {K : Act → World → Prop} {a : Act} {w : World} (hnd : ∀ (j : Nat) (o : Oper) c, ops[j]? = some o → o.op ≠ .defer c) (hno : ¬ LetsOut Q)
    (h : wpOp P ops Q i K a w) : wpOpIn (Fence.wide.inRound l) 0 P ops Q i K a w := by
  unfold wpOp at h
  unfold wpOpIn
  cases ho : ops[i]? with
  | none => simpa [ho] using h
  | some o =>
    simp only [ho] at h ⊢
    by_cases hw : Region.wanted o (yielded ops a.tmps) = true
    · simp only [hw, if_true] at h ⊢
      rcases h with h | ⟨-, h⟩
      · refine ⟨fun f _ => trivial, ?_⟩
        rw [Fence.inRound_round, Oper.semAt_some _ _ _ (fun c => hnd i o c ho)]
        unfold Oper.wp at h
        generalize (execOp a.eval o).run P w = r at *
        cases r with
        | ok x w' =>
          cases x <;> simp only [Oper.upon, Oper.uponIn] at h ⊢ <;>
            first
              | exact h
              | exact ⟨(fun h => by cases h), CallsIn.inRound _ (callsIn_wide.2 h)⟩
              | exact ⟨(fun h => by cases h), rows_wide h⟩
        | halt x w' => cases x <;> simp only [Oper.upon, Oper.uponIn] at h ⊢ <;> exact h
      · exact absurd h hno
    · simp only [hw] at h ⊢; exact ⟨fun f _ => trivial, by simpa using h⟩
theorem wpAnyIn_round (hnd : ∀ (j : Nat) (o : Oper) c, ops[j]? = some o → o.op ≠ .defer c) (hno : ¬ LetsOut Q) : ∀ (fuel : Nat) (listed : Array Bool) (a : Act) (w : World), wpAnyH P md ops Q S fuel listed a w → wpAnyIn (Fence.wide.inRound l) 0 P md ops Q fuel listed a w
  | 0, _, _, _, h => h
  | fuel + 1, _, _, _, h => ⟨h.1, fun i hi => wpOpIn_mono (fun a' w' h' => wpAnyIn_round hnd hno fuel _ a' w' h'.2) (wpOpIn_round hnd hno (h.2 i hi))⟩
/-- Does no operation defer? -/
def noDefer (ops : Array Oper) : Bool := ops.all fun o => match o.op with | .defer _ => false | _ => true
theorem noDefer_spec (h : noDefer ops = true) (j : Nat) (o : Oper) (c : _) (ho : ops[j]? = some o) : o.op ≠ .defer c := by
  intro e
  rw [noDefer, Array.all_eq_true] at h
  obtain ⟨hj, rfl⟩ := Array.getElem?_eq_some_iff.1 ho
  have := h j hj
  rw [e] at this
  cases this
/-- THE BEGINNING. -/
theorem wpIn_region_held {id : Nat} {a : Act} {w : World} (hm : P.follows .mixedOrders = true) (hnd : noDefer ops = true)
    (hS : S w.drew) (h : S w.drew → wpAnyH P .any ops (NoOut Q) S ops.size (Array.replicate ops.size false) a w.drew) : (Code.region id ops true).wpIn (Fence.wide.inRound l) 0 P Q a w :=
  Code.wpIn_mono (fun e a w h => NoOut.imp h) (wpIn_region_any hm (wpAnyIn_round (noDefer_spec hnd) noOut_not _ _ _ _ (h hS)))
end
end
section
open Go.RowKit
/-- A world in which all that w0 had stands as it stood. -/
structure After (w0 : World) where
  W : World
  h : Same w0 W
instance (w0 : World) : Inhabited (After w0) := ⟨⟨w0, Same.refl w0⟩⟩
theorem wp_region_same {P : Program} {id : Nat} {Q : Exit → Act → World → Prop} {a : Act} {w0 w : World} {l : List Oper} (hm : P.follows .mixedOrders = true) (hB : Region.lexB .any l.toArray = true) (hs : Same w0 w)
    (h : wpQuiet P l.toArray (fun w' => ∃ p : After w0, w' = p.W) (fun a' => ∀ w', (∃ p : After w0, w' = p.W) → Q .normal a' w') l a) : (Code.region id l.toArray true).wp P Q a w :=
  wp_region_quiet (C := fun w' => ∃ p : After w0, w' = p.W) hm hB ⟨⟨_, hs.drew⟩, rfl⟩ (by simpa using h)
theorem Calls.after {P : Program} {f : FuncId} {args : Array Value} {w0 : World} {p : After w0} {v : Value}
    (h : Calls P f args p.W fun e w' => e = .returned v ∧ Same p.W w') : Calls P f args p.W fun e w'' => e = .returned v ∧ ∃ q : After w0, w'' = q.W :=
  h.mono fun _ _ ⟨he, hs⟩ => ⟨he, ⟨_, p.h.trans hs⟩, rfl⟩
theorem After.cell {w0 : World} {a : Addr} {v : Value} (h : w0.cell? a = some v) (p : After w0) : p.W.cell? a = some v := p.h.keep.cell h
/-- The next operation, the frame behind a letter (so that nothing reckons through what is not wanted). -/
theorem quiet_next {X K : Act → Prop} {a : Act} (hK : ∀ a, X a → K a) (h : ∀ A, A = a → X A) : K a := hK a (h a rfl)
end
end Go.Proofs.Ytmnpbopkhpbhiaa
