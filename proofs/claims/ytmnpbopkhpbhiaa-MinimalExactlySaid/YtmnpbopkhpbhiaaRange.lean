/- A range over a function: what an iterator promises (SeqOf), and the rule for the statement that ranges over it. -/
import Derived.Test.YtmnpbopkhpbhiaaBase
import Derived.RangeFuncNested
import Derived.RangeFuncLeaves
import Derived.RangeFuncRecord
import Derived.Shelf.Abstract
import Derived.OwnWalkIn
import Derived.TacticsInMore
set_option linter.unusedVariables false
set_option linter.unusedSimpArgs false
namespace Go.Proofs.Ytmnpbopkhpbhiaa
open Go.RowKit

/-- From A to B: below n nothing turns; no object but a loop's record turns. -/
structure Calm (n : Nat) (A B : World) : Prop where
  os : B.os = A.os
  tape : B.tape = A.tape
  output : B.output = A.output
  size : A.heap.size ≤ B.heap.size
  low : ∀ k, k < n → B.heap[k]? = A.heap[k]?
  same : ∀ (k : Nat) (o : Obj), A.heap[k]? = some o → keeps o = true → B.heap[k]? = some o
theorem Calm.refl (n : Nat) (A : World) : Calm n A A := ⟨rfl, rfl, rfl, Nat.le_refl _, fun _ _ => rfl, fun _ _ h _ => h⟩
theorem Calm.trans {n : Nat} {A B C : World} (h : Calm n A B) (k : Calm n B C) : Calm n A C :=
  ⟨k.os.trans h.os, k.tape.trans h.tape, k.output.trans h.output, Nat.le_trans h.size k.size, fun i hi => (k.low i hi).trans (h.low i hi), fun i o hi ho => k.same i o (h.same i o hi ho) ho⟩
theorem Calm.mono {n m : Nat} {A B : World} (h : Calm n A B) (hm : m ≤ n) : Calm m A B := ⟨h.os, h.tape, h.output, h.size, fun k hk => h.low k (Nat.lt_of_lt_of_le hk hm), h.same⟩
theorem Same.calm {A B : World} (h : Same A B) {n : Nat} (hn : n ≤ A.heap.size) : Calm n A B :=
  ⟨h.out.os, h.out.tape, h.out.output, h.out.size, fun k hk => h.out.block k (by omega), h.keep.same⟩
theorem Calm.keep {n : Nat} {A B : World} (h : Calm n A B) : Keep A B := ⟨h.size, h.same⟩
theorem Calm.putObj {n : Nat} {A : World} {l : Nat} {o : Obj} (o' : Obj) (hl : A.heap[l]? = some o) (ho : keeps o = false) (hn : n ≤ l) : Calm n A (A.putObj l o') := by
  refine ⟨rfl, rfl, rfl, by simp, fun k hk => World.putObj_heap_other (by omega), fun k u hk hu => ?_⟩
  by_cases h : k = l
  · subst h
    rw [hl] at hk
    cases hk
    rw [ho] at hu
    cases hu
  · rw [World.putObj_heap_other h]; exact hk
/-- From A to B: below n nothing turns but what M names. -/
structure Turn (n : Nat) (M : Nat → Prop) (A B : World) : Prop where
  os : B.os = A.os
  tape : B.tape = A.tape
  output : B.output = A.output
  size : A.heap.size ≤ B.heap.size
  same : ∀ k, k < n → ¬ M k → B.heap[k]? = A.heap[k]?
theorem Turn.refl (n : Nat) (M : Nat → Prop) (A : World) : Turn n M A A := ⟨rfl, rfl, rfl, Nat.le_refl _, fun _ _ _ => rfl⟩
theorem Turn.trans {n : Nat} {M : Nat → Prop} {A B C : World} (h : Turn n M A B) (k : Turn n M B C) : Turn n M A C :=
  ⟨k.os.trans h.os, k.tape.trans h.tape, k.output.trans h.output, Nat.le_trans h.size k.size, fun i hi hm => (k.same i hi hm).trans (h.same i hi hm)⟩
theorem Turn.mono {n m : Nat} {M M' : Nat → Prop} {A B : World} (h : Turn n M A B) (hm : m ≤ n) (hM : ∀ k, M k → M' k) : Turn m M' A B :=
  ⟨h.os, h.tape, h.output, h.size, fun k hk hn => h.same k (Nat.lt_of_lt_of_le hk hm) fun h' => hn (hM k h')⟩
theorem Same.turn {A B : World} (h : Same A B) {n : Nat} {M : Nat → Prop} (hn : n ≤ A.heap.size) : Turn n M A B :=
  ⟨h.out.os, h.out.tape, h.out.output, h.out.size, fun k hk _ => h.out.block k (by omega)⟩
theorem Calm.turn {n : Nat} {M : Nat → Prop} {A B : World} (h : Calm n A B) : Turn n M A B := ⟨h.os, h.tape, h.output, h.size, fun k hk _ => h.low k hk⟩
theorem Turn.setCell {n : Nat} {M : Nat → Prop} (A : World) {p : Addr} (u : Value) (hp : n ≤ p.block ∨ M p.block) : Turn n M A (A.setCell p u) :=
  ⟨rfl, rfl, rfl, by simp [World.setCell], fun k hk hm => Below.heap_setCell _ _ _ _ (by rintro rfl; exact hp.elim (fun h => by omega) hm)⟩
theorem Turn.putObj {n : Nat} {M : Nat → Prop} (A : World) {l : Nat} (o : Obj) (hp : n ≤ l ∨ M l) : Turn n M A (A.putObj l o) :=
  ⟨rfl, rfl, rfl, by simp, fun k hk hm => World.putObj_heap_other (by rintro rfl; exact hp.elim (fun h => by omega) hm)⟩
theorem Turn.below {n : Nat} {M : Nat → Prop} {A B : World} (h : Turn n M A B) {m : Nat} (hm : m ≤ n) (hM : ∀ k, M k → m ≤ k) : Below m A B :=
  ⟨h.os, h.tape, h.output, h.size, fun k hk => h.same k (by omega) fun hk' => by have := hM k hk'; omega⟩

/-- J outlives every calm step. -/
def Stable (n : Nat) (J : World → Prop) : Prop := ∀ A B, J A → n ≤ A.heap.size → Calm n A B → J B
theorem Stable.mono {n m : Nat} {J : World → Prop} (h : Stable n J) (hm : n ≤ m) : Stable m J := fun A B hA hs hc => h A B hA (Nat.le_trans hm hs) (hc.mono hm)
theorem Stable.and {n : Nat} {J K : World → Prop} (h : Stable n J) (k : Stable n K) : Stable n fun A => J A ∧ K A := fun A B hA hs hc => ⟨h A B hA.1 hs hc, k A B hA.2 hs hc⟩

/-- WHAT AN ITERATOR PROMISES: called with a yield, it hands over xs, one after the other, until yield says no. -/
def SeqOf {α : Type} (P : Program) (gf : Nat) (lb : Array Value) (RA : World → Array Value → α → Prop) (xs : List α) (M : Nat → Prop) (W : World) : Prop :=
  ∀ (l : Nat) (W1 : World) (J : List α → World → Prop) (X : World → Prop), Calm W.heap.size W W1 → W.heap.size ≤ l → l < W1.heap.size →
    (∀ pre, Stable W1.heap.size (J pre)) → Stable W1.heap.size X →
    (∀ pre x A args, pre ++ [x] <+: xs → J pre A → RA A args x → YieldAt Fence.wide 0 P l args A fun e B => Turn W1.heap.size (fun k => M k ∨ k = l) A B ∧ ((e = .returned (.bool true) ∧ J (pre ++ [x]) B) ∨ (e = .returned (.bool false) ∧ X B))) →
    J [] W1 → CallsIn Fence.wide 0 P gf (#[.func (.yield l) #[] #[]] ++ lb) W1 fun e B => (∃ v, e = .returned v) ∧ (J xs B ∨ X B)

theorem wide_any (k : Nat) : Fence.wide.depth.isSome = true → 1 ≤ k := fun h => by cases h
theorem CallsIn.wide {n m : Nat} {P : Program} {f : FuncId} {args : Array Value} {w : World} {R : Ending → World → Prop} (h : CallsIn Fence.wide n P f args w R) : CallsIn Fence.wide m P f args w R :=
  callsIn_wide.2 (callsIn_wide.1 h)
theorem RoundIn.wide {m m' : Nat} {P : Program} {l : Nat} {f : FuncId} {tmps : Array Value} {assign body : Code} {w : World} {R : Ending → World → Prop}
    (h : RoundIn Fence.wide m P l f tmps assign body w R) : RoundIn Fence.wide m' P l f tmps assign body w R := ⟨h.1, fun c cs _ => h.2 c cs (room_wide _)⟩

/-- How a round's body may end, for the rule. -/
def roundEnd (n : Nat) (M : Nat → Prop) (A : World) (Jn Xr : World → Prop) : Exit → Act → World → Prop
  | .normal, _, B => Turn n M A B ∧ Jn B
  | .ret, _, B => Turn n M A B ∧ Xr B
  | _, _, _ => False

/-- **THE STATEMENT 'for .. := range g'.** -/
theorem wp_range {P : Program} {α : Type} {g : Operand} {ps : Array Tmp} {assign body : Code} {Q : Exit → Act → World → Prop} {a : Act} {w : World}
    (gf : Nat) (lb : Array Value) (hg : a.eval g = .func (.func gf) #[] lb) (eg : ∀ args w, (callFunc gf args).run P w = .ok (.enter gf args) w)
    {RA : World → Array Value → α → Prop} {xs : List α} {M : Nat → Prop} (hseq : SeqOf P gf lb RA xs M w) (hps : ∀ A args x, RA A args x → args.size = ps.size) (hM : ∀ k, M k → k < w.heap.size)
    (J : List α → World → Prop) (X : World → Prop) (hJ : ∀ pre, Stable w.heap.size (J pre)) (hX : Stable w.heap.size X) (h0 : J [] w)
    (hround : ∀ (l : Nat) (pre : List α) (x : α) (A : World) (args : Array Value), w.heap.size ≤ l → l < A.heap.size → pre ++ [x] <+: xs → J pre A → RA A args x → w.heap.size + 2 ≤ A.heap.size →
      assign.wpIn (Fence.wide.inRound l) 0 P (Exit.then (fun a1 A1 => Calm A.heap.size A A1 ∧ ∀ A2, Calm w.heap.size A1 A2 → A2.heap.size = A1.heap.size → body.wpIn (Fence.wide.inRound l) 0 P (roundEnd (w.heap.size + 2) M A2 (J (pre ++ [x])) X) a1 A2) (fun _ _ _ => False))
        { tmps := (ps.zip args).foldl (fun t (p, v) => t.setIfInBounds p v) a.tmps, defers := [] } A)
    (hdone : ∀ B, J xs B → B.heap[w.heap.size]? = some (.deferred (some [])) → w.heap.size + 2 ≤ B.heap.size → Q .normal { a with defers := { target := .collected w.heap.size, args := #[] } :: a.defers } B)
    (hstop : ∀ B, X B → B.heap[w.heap.size]? = some (.deferred (some [])) → w.heap.size + 2 ≤ B.heap.size → Q .ret { a with defers := { target := .collected w.heap.size, args := #[] } :: a.defers } B) :
    (Code.rangeFunc g ps assign body).wp P Q a w := by
  refine (wpIn_wide (n := 0)).1 (wpIn_rangeFunc ?_)
  intro fn hfn
  obtain ⟨rec, hrec⟩ : ∃ rec : LoopState → Option Code → Loop, rec = fun st pe => { state := st, pending := pe, fn, tmps := a.tmps, params := ps, assign, body, defers := w.heap.size } := ⟨_, rfl⟩
  obtain ⟨W1, hW1⟩ : ∃ W1, (w.alloc (.deferred (some []))).alloc (.loop (rec .ready none)) = W1 := ⟨_, rfl⟩
  have hz1 : W1.heap.size = w.heap.size + 2 := by rw [← hW1]; simp
  have hL1 : W1.heap[w.heap.size + 1]? = some (.loop (rec .ready none)) := by
    rw [← hW1]; have := World.alloc_heap_new (w.alloc (.deferred (some []))) (.loop (rec .ready none)); rwa [World.size_alloc] at this
  have hK1 : W1.heap[w.heap.size]? = some (.deferred (some [])) := by
    rw [← hW1]; exact (Below.heap_alloc _ _ _ (by simp)).trans (World.alloc_heap_new w _)
  have hc1 : Calm w.heap.size w W1 := by
    rw [← hW1]; exact (((Same.refl w).alloc _).alloc _).calm (Nat.le_refl _)
  refine ⟨w.heap.size + 1, [{ target := .collected w.heap.size, args := #[] }], W1, { target := .fn (.func gf) lb, args := #[.func (.yield (w.heap.size + 1)) #[] #[]] }, W1, gf,
    #[.func (.yield (w.heap.size + 1)) #[] #[]] ++ lb, W1, ?_, ?_, ?_, ?_, (fun h => by cases h), ?_⟩
  · rw [← hW1, hrec]; exact run_enterLoop_outer _ _ _ _ _
  · simp only [resolve, hg]
    simp [go_sem]
  · intro f' hf'; exact trivial
  · simp [invoke, go_sem, eg]
  · refine CallsIn.mono (CallsIn.wide (hseq (w.heap.size + 1) W1
      (fun pre A => J pre A ∧ A.heap[w.heap.size + 1]? = some (.loop (rec .ready none)) ∧ A.heap[w.heap.size]? = some (.deferred (some [])))
      (fun A => X A ∧ A.heap[w.heap.size + 1]? = some (.loop (rec .done (some .ret))) ∧ A.heap[w.heap.size]? = some (.deferred (some [])))
      hc1 (by omega) (by omega) ?_ ?_ ?_ ⟨hJ [] w W1 h0 (Nat.le_refl _) hc1, hL1, hK1⟩)) ?_
    · intro pre A B ⟨h1, h2, h3⟩ hs hc
      exact ⟨hJ pre A B h1 (by omega) (hc.mono (by omega)), (hc.low _ (by omega)).trans h2, (hc.low _ (by omega)).trans h3⟩
    · intro A B ⟨h1, h2, h3⟩ hs hc
      exact ⟨hX A B h1 (by omega) (hc.mono (by omega)), (hc.low _ (by omega)).trans h2, (hc.low _ (by omega)).trans h3⟩
    · rintro pre x A args hpre ⟨hi, hl, hk⟩ hra
      have hlt : w.heap.size + 1 < A.heap.size := (Array.getElem?_eq_some_iff.1 hl).1
      have hy := run_yield (P := P) (args := args) hl (by rw [hrec]; exact hps A args x hra)
      rw [hrec] at hy
      refine ⟨fn, _, assign, body, hy, roundIn_of_wpIn trivial (wpIn_mono (hround (w.heap.size + 1) pre x A args (by omega) hlt hpre hi hra (by omega)) ?_)⟩
      rintro e a1 A1 hp
      cases e with
      | normal =>
        obtain ⟨hcA, hbody⟩ := hp
        have hl1 : A1.heap[w.heap.size + 1]? = some (.loop (rec .ready none)) := (hcA.low _ hlt).trans hl
        have hk1 : A1.heap[w.heap.size]? = some (.deferred (some [])) := (hcA.low _ (by omega)).trans hk
        have hlt1 : w.heap.size + 1 < A1.heap.size := (Array.getElem?_eq_some_iff.1 hl1).1
        refine ⟨_, run_beginRound hl1 (by rw [hrec]), ?_⟩
        have hl2 : (A1.putObj (w.heap.size + 1) (.loop { rec .ready none with state := .busy })).heap[w.heap.size + 1]? = some (.loop { rec .ready none with state := .busy }) := World.putObj_heap_same hlt1
        have hk2 : (A1.putObj (w.heap.size + 1) (.loop { rec .ready none with state := .busy })).heap[w.heap.size]? = some (.deferred (some [])) := (World.putObj_heap_other (by omega)).trans hk1
        have hcA2 : Calm w.heap.size A1 (A1.putObj (w.heap.size + 1) (.loop { rec .ready none with state := .busy })) := Calm.putObj _ hl1 rfl (by omega)
        refine wpIn_mono (hbody _ hcA2 (by simp)) ?_
        have fin : ∀ (jump : Option Code) (W3 : World), Turn (w.heap.size + 2) M (A1.putObj (w.heap.size + 1) (.loop { rec .ready none with state := .busy })) W3 →
            (Instr.endRound (w.heap.size + 1) jump).run P W3 = .ok (.bool jump.isNone) (W3.putObj (w.heap.size + 1) (.loop (rec (if jump.isNone then .ready else .done) jump))) ∧
            Calm w.heap.size W3 (W3.putObj (w.heap.size + 1) (.loop (rec (if jump.isNone then .ready else .done) jump))) ∧ w.heap.size ≤ W3.heap.size ∧
            (W3.putObj (w.heap.size + 1) (.loop (rec (if jump.isNone then .ready else .done) jump))).heap[w.heap.size + 1]? = some (.loop (rec (if jump.isNone then .ready else .done) jump)) ∧
            (W3.putObj (w.heap.size + 1) (.loop (rec (if jump.isNone then .ready else .done) jump))).heap[w.heap.size]? = some (.deferred (some [])) ∧
            Turn W1.heap.size (fun k => M k ∨ k = w.heap.size + 1) A (W3.putObj (w.heap.size + 1) (.loop (rec (if jump.isNone then .ready else .done) jump))) := fun jump W3 ht => by
          have hl3 : W3.heap[w.heap.size + 1]? = some (.loop { rec .ready none with state := .busy }) := (ht.same _ (by omega) (fun h => by have := hM _ h; omega)).trans hl2
          have hk3 : W3.heap[w.heap.size]? = some (.deferred (some [])) := (ht.same _ (by omega) (fun h => by have := hM _ h; omega)).trans hk2
          have hlt3 : w.heap.size + 1 < W3.heap.size := (Array.getElem?_eq_some_iff.1 hl3).1
          have := run_endRound (P := P) jump hl3
          rw [hrec] at this hl3
          refine ⟨?_, Calm.putObj _ hl3 rfl (by omega), by omega, World.putObj_heap_same hlt3, (World.putObj_heap_other (by omega)).trans hk3, ?_⟩
          · rw [hrec]; exact this
          · rw [hz1]
            exact (((hcA.mono (by omega)).turn (M := fun k => M k ∨ k = w.heap.size + 1)).trans (Turn.putObj A1 _ (.inr (.inr rfl)))).trans ((ht.mono (Nat.le_refl _) (fun k hk => .inl hk)).trans (Turn.putObj W3 _ (.inr (.inr rfl))))
        rintro e a3 W3 hp
        cases e with
        | normal =>
          obtain ⟨ht, hi3⟩ := hp
          obtain ⟨hr, hcal, hz3, hl4, hk4, hT⟩ := fin none W3 ht
          exact ⟨_, _, hr, hT, .inl ⟨rfl, hJ _ _ _ hi3 hz3 hcal, hl4, hk4⟩⟩
        | ret =>
          obtain ⟨ht, hi3⟩ := hp
          obtain ⟨hr, hcal, hz3, hl4, hk4, hT⟩ := fin (some .ret) W3 ht
          exact ⟨_, _, hr, hT, .inr ⟨rfl, hX _ _ hi3 hz3 hcal, hl4, hk4⟩⟩
        | exit id => exact hp.elim
        | goto t => exact hp.elim
        | panic ch => exact hp.elim
        | outgrown => exact hp.elim
      | ret => exact hp.elim
      | exit id => exact hp.elim
      | goto t => exact hp.elim
      | panic ch => exact hp.elim
      | outgrown => exact hp.elim
    · rintro e W2 ⟨⟨v, rfl⟩, (⟨hi, hl, hk⟩ | ⟨hi, hl, hk⟩)⟩
      · have hlt : w.heap.size + 1 < W2.heap.size := (Array.getElem?_eq_some_iff.1 hl).1
        have hend := run_endLoop (P := P) hl (by rw [hrec]; simp)
        rw [hrec] at hend hl
        refine ⟨none, _, hend, hdone _ (hJ _ _ _ hi (by omega) (Calm.putObj _ hl rfl (by omega))) ((World.putObj_heap_other (by omega)).trans hk) (by simp; omega)⟩
      · have hlt : w.heap.size + 1 < W2.heap.size := (Array.getElem?_eq_some_iff.1 hl).1
        have hend := run_endLoop (P := P) hl (by rw [hrec]; simp)
        rw [hrec] at hend hl
        refine ⟨some .ret, _, hend, wpIn_ret (hstop _ (hX _ _ hi (by omega) (Calm.putObj _ hl rfl (by omega))) ((World.putObj_heap_other (by omega)).trans hk) (by simp; omega))⟩

/-- A function whose body holds such a statement. -/
theorem calls_of_marks {P : Program} {f : FuncId} {fn : Func} {c : Code} {args : Array Value} {w : World} {R : Ending → World → Prop}
    (hf : P.funcs[f]? = some fn) (hb : fn.body = some c)
    (h : c.wp P (bodyPostM Fence.wide 0 P fn R) { tmps := args ++ Array.replicate (fn.ntmps - args.size) undef, defers := [] } w) : Calls P f args w R :=
  (callsIn_wide (n := 0)).1 (callsIn_of_wp_marks hf hb trivial ((wpIn_wide (n := 0)).2 h))
section
variable {P : Program} {F : Fence} {n : Nat} {Q : Exit → Act → World → Prop} {a : Act} {w : World}
theorem stepR_scope {b : Frame} {k : List Item} {cs : List Frame} {c : Code} : step P (lone (b.atR a (.code (.scope c) :: k)) cs w) = .next (lone (b.atR a (.code c :: .inScope c :: k)) cs w) :=
  step_lone_go (by simp [stepG, stepG.exec, Frame.atR])
theorem stepR_inScope {b : Frame} {k : List Item} {cs : List Frame} {c : Code} : step P (lone (b.atR a (.inScope c :: k)) cs w) = .next (lone (b.atR a k) cs w) :=
  step_lone_go (by simp [stepG, stepG.exec, Frame.atR])
theorem wpIn_scope_straight {c : Code} (h : c.wpIn F n P (Exit.noGoto Q) a w) : (Code.scope c).wpIn F n P Q a w := by
  intro b k cs hro hb hr
  have h0 : (lone (b.atR a (.code (.scope c) :: k)) cs w).fenced P F := fenced_calm hb hr rfl
  obtain ⟨e, a₁, w₁, hq, harr⟩ := h b (.inScope c :: k) cs hro hb hr
  cases e with
  | normal => exact ⟨.normal, a₁, w₁, hq, .head h0 stepR_scope (StepsIn.trans harr (.one (fenced_calm hb hr rfl) stepR_inScope))⟩
  | exit id =>
    refine ⟨.exit id, a₁, w₁, hq, fun k' hk => .head h0 stepR_scope (harr.1 k' (by simp [exitTo, hk])), fun hr' hk => ?_⟩
    obtain ⟨k₁, h1, h2⟩ := harr.2 hr' (by simp [exitTo, hk])
    exact ⟨k₁, h1, .head h0 stepR_scope h2⟩
  | goto l => exact hq.elim
  | ret => exact ⟨_, a₁, w₁, hq, .of_steps (.one h0 stepR_scope) harr⟩
  | panic ch => exact ⟨_, a₁, w₁, hq, .of_steps (.one h0 stepR_scope) harr⟩
  | outgrown => exact ⟨_, a₁, w₁, hq, .of_steps (b := b) (k := k) (cs := cs) (e := .outgrown) (.one h0 stepR_scope) harr⟩
end
/-- The return of a function that has no deferred call. -/
theorem postM_ret {P : Program} {fn : Func} {R : Ending → World → Prop} {a : Act} {w : World} {v : Value} (hd : a.defers = []) (hr : (results fn a.tmps).run P w = .ok v w) (h : R (.returned v) w) :
    bodyPostM Fence.wide 0 P fn R .ret a w := by
  simp only [bodyPostM, hd, LeavesInM, LeavesIn]
  exact ⟨v, hr, h⟩
/-- The return of a function behind a range over a function. -/
theorem postM_mark {P : Program} {fn : Func} {R : Ending → World → Prop} {a : Act} {w : World} {v : Value} {D : Nat} (hd : a.defers = [{ target := .collected D, args := #[] }]) (hD : w.heap[D]? = some (.deferred (some [])))
    (hr : (results fn a.tmps).run P (w.putObj D (.deferred none)) = .ok v (w.putObj D (.deferred none))) (h : R (.returned v) (w.putObj D (.deferred none))) : bodyPostM Fence.wide 0 P fn R .ret a w := by
  simp only [bodyPostM, hd, LeavesInM, LeavesIn]
  exact ⟨by simp, .inl ⟨D, _, rfl, run_takeDeferred hD, v, hr, h⟩⟩
theorem Boxed.putObj {w : World} {b D : Nat} {t : TypeId} {v : Value} {o o' : Obj} (h : Boxed w b t v) (hD : w.heap[D]? = some o) (ho : o.isCells = false) : Boxed (w.putObj D o') b t v := by
  unfold Boxed at h ⊢
  rw [World.putObj_heap_other]
  · exact h
  · rintro rfl
    rw [h] at hD
    cases hD
    cases ho
theorem Same.putObj {w W : World} {D : Nat} {o' : Obj} (h : Same w W) (hD : w.heap.size ≤ D) : Same w (W.putObj D o') := by
  refine ⟨h.out.os, h.out.tape, h.out.output, by simpa using h.size, fun k hk => ?_⟩
  rw [World.putObj_heap_other (by omega)]
  exact h.out.block k hk
/-- Steady: what stands under calm steps, of a box. -/
theorem stable_boxed (n b : Nat) (t : TypeId) (v : Value) : Stable n fun A => Boxed A b t v := fun A B h _ hc => hc.same _ _ h rfl
theorem stable_pure (n : Nat) (p : Prop) : Stable n fun _ => p := fun _ _ h _ _ => h
theorem stable_turn (n : Nat) (M : Nat → Prop) (w : World) : Stable n fun A => Turn n M w A := fun A B h _ hc => h.trans hc.turn
end Go.Proofs.Ytmnpbopkhpbhiaa
