/- Arguments that came in: a formula, a list of numbers, a list of lists, as the form reads them. -/
import Derived.Test.YtmnpbopkhpbhiaaGate
import Derived.Test.YtmnpbopkhpbhiaaProg
import Derived.ChangeArms
import Derived.SizedLaws
import Derived.ProofKit
import Derived.Lib.SmallJoins
set_option linter.unusedVariables false
set_option linter.unusedSimpArgs false
namespace Go.Proofs.Ytmnpbopkhpbhiaa
open Go.RowKit
set_option maxRecDepth 100000
section
variable {H : Type} {enc : TypeId × Value → H} {W : World} {base : Nat} {spare : Nat → Bool} {held : Bool}
theorem cellsOf_gate : Try.prog.cellsOf 24 = 3 := by kernel_rfl
theorem cellsOf_int : Try.prog.cellsOf 3 = 1 := by kernel_rfl
theorem cellsOf_gates : Try.prog.cellsOf 22 = 1 := by kernel_rfl
theorem cellsOf_ints : Try.prog.cellsOf 25 = 1 := by kernel_rfl
theorem bytesOf_gate : Try.prog.bytesOf 24 = 40 := by kernel_rfl
theorem bytesOf_int : Try.prog.bytesOf 3 = 8 := by kernel_rfl
theorem bytesOf_ints : Try.prog.bytesOf 25 = 24 := by kernel_rfl
theorem weightsAll_mem {P : Program} {e : TypeId} : ∀ {ds : List (DataW H)} {d : DataW H}, d ∈ ds → ∀ n ∈ d.weights P e, n ∈ DataW.weightsAll P e ds
  | d0 :: ds, d, hd, n, hn => by
    simp only [DataW.weightsAll, List.mem_append]
    rcases List.mem_cons.1 hd with rfl | hd
    · exact .inl hn
    · exact .inr (weightsAll_mem hd n hn)
theorem gs_of {len : Nat} {p : Nat → Gt → Prop} (h : ∀ i, i < len → ∃ g, p i g) : ∃ gs : List Gt, gs.length = len ∧ ∀ i (hi : i < gs.length), p i gs[i] := by
  induction len with
  | zero => exact ⟨[], rfl, fun i hi => by simp at hi⟩
  | succ n ih =>
    obtain ⟨gs, hl, hp⟩ := ih fun i hi => h i (by omega)
    obtain ⟨g, hg⟩ := h n (by omega)
    refine ⟨gs ++ [g], by simp [hl], fun i hi => ?_⟩
    by_cases hlt : i < gs.length
    · rw [List.getElem_append_left hlt]; exact hp i hlt
    · have : i = n := by simp at hi; omega
      subst this
      rw [List.getElem_append_right (by omega)]
      simpa [hl] using hg
theorem reach_le : reachBytes = 140737488351232 := by rfl
theorem gate_fuel (k : Nat) : ∀ (fuel : Nat) (cs : List Value) (x : DataW H × List MemPlace), fuel ≤ k → DataW.trod enc Try.prog W base spare held fuel 24 cs = some x →
    (∀ n ∈ x.1.weights Try.prog 24, n ≤ reachBytes) → ∃ (g : Gt) (v : Value), cs = [.int .i64 g.p, .int .i64 g.n, v] ∧ g.At W v := by
  induction k with
  | zero =>
    intro fuel cs x hk h
    obtain rfl : fuel = 0 := by omega
    simp [DataW.trod] at h
  | succ k ih =>
    intro fuel cs x hk h hw
    obtain ⟨xs, n, rfl, rfl, hl, hlen, hf⟩ := DataW.trod_struct Try.underlying24 h
    rw [cellsOf_gate] at hl
    match cs, hl with
    | [c0, c1, c2], _ =>
      match xs, hlen with
      | [y0, y1, y2], _ =>
        have h0 := hf 0 _ rfl
        have h1 := hf 1 _ rfl
        have h2 := hf 2 _ rfl
        simp [cellsOf_int, cellsOf_gates] at h0 h1 h2
        obtain ⟨a, e0, rfl, wa⟩ := DataW.trod_int Try.underlying3 h0
        obtain ⟨b, e1, rfl, wb⟩ := DataW.trod_int Try.underlying3 h1
        simp only [List.cons.injEq, and_true] at e0 e1
        subst e0 e1
        rcases DataW.trod_slice Try.underlying22 h2 with ⟨e2, rfl⟩ | ⟨ad, len, cap, elems, rest, m, rfl, e2, rfl, hb, hlc, hm, hel, hin, hsp, hns⟩
        · simp only [List.cons.injEq, and_true] at e2
          subst e2
          refine ⟨.mk a b [], _, rfl, ?_⟩
          simp only [Gt.At]
          exact ⟨none, 0, rfl, Nat.le_refl _, by simp, by simp only [GsAt]⟩
        · simp only [List.cons.injEq, and_true] at e2
          subst e2
          have hws : ∀ n ∈ DataW.weights Try.prog 22 (DataW.slice (elems.map (·.1)) (rest.map (·.1))), n ≤ reachBytes := by
            intro n hn
            refine hw n ?_
            simp only [DataW.weights, Try.underlying24, DataW.weightsEach, List.map_cons, List.map_nil, List.append_nil, List.nil_append, List.append_nil]
            exact hn
          simp only [DataW.weights, Try.underlying22, bytesOf_gate] at hws
          have hsz := hws _ (List.mem_cons_self ..)
          rw [reach_le] at hsz
          simp only [List.length_map] at hsz
          have key : ∀ i, i < len → ∃ g : Gt, ∃ v, W.cell? (ad.add (i * 3)) = some (.int .i64 g.p) ∧ W.cell? ((ad.add (i * 3)).add 1) = some (.int .i64 g.n) ∧ W.cell? ((ad.add (i * 3)).add 2) = some v ∧ g.At W v := by
            intro i hi
            have hx := hin i hi
            rw [List.getElem?_eq_getElem (by omega)] at hx
            obtain ⟨cs', hc, ht⟩ := Option.bind_eq_some_iff.1 hx
            obtain ⟨g, v, rfl, hat⟩ := ih _ _ _ (by omega) ht (fun n hn => hws n (by
              refine List.mem_cons_of_mem _ (List.mem_append.2 (.inl ?_))
              exact weightsAll_mem (List.mem_map.2 ⟨elems[i], List.getElem_mem _, rfl⟩) n hn))
            rw [cellsOf_gate] at hc
            obtain ⟨_, _, hcc⟩ := World.cells?_some hc
            have q0 := hcc 0 (by omega)
            have q1 := hcc 1 (by omega)
            have q2 := hcc 2 (by omega)
            rw [show (ad.add (i * 3)).add 0 = ad.add (i * 3) from by unfold Addr.add; simp] at q0
            exact ⟨g, v, q0, q1, q2, hat⟩
          obtain ⟨gs, hgl, hgs⟩ := gs_of key
          refine ⟨.mk a b gs, _, rfl, ?_⟩
          simp only [Gt.At]
          refine ⟨some ad, cap, by rw [hgl], by omega, by omega, GsAt.mk fun j hj => ?_⟩
          obtain ⟨v, k0, k1, k2, k3⟩ := hgs j hj
          rw [Nat.zero_add]
          exact ⟨ad, v, rfl, k0, k1, k2, k3⟩
theorem open_gate {r : Reach} {b0 : Nat} {v : Value} {d : DataW H} {p : List MemPlace} (hv : Value.okWide Try.prog W r b0 24 v) (h : DataW.Trod enc Try.prog W base spare held 24 v d p)
    (hw : ∀ n ∈ d.weights Try.prog 24, n ≤ reachBytes) : ∃ g, IsG W g v := by
  obtain ⟨cs, rfl, hsz⟩ := Go.WideShapes.okWide_struct Try.underlying24 hv
  obtain ⟨fuel, hf⟩ := h
  obtain ⟨g, u, hcs, hat⟩ := gate_fuel fuel fuel _ _ (Nat.le_refl _) hf hw
  refine ⟨g, u, ?_, hat⟩
  have : cs.toList = [.int .i64 g.p, .int .i64 g.n, u] := by simpa [Value.cells] using hcs
  congr 1
  exact Array.ext' (by simpa using this)
theorem ints_fuel {fuel : Nat} {cs : List Value} {x : DataW H × List MemPlace} (h : DataW.trod enc Try.prog W base spare held fuel 25 cs = some x) (hw : ∀ n ∈ x.1.weights Try.prog 25, n ≤ reachBytes) :
    ∃ (v : Value) (xs : List Int), cs = [v] ∧ Ints W v xs ∧ ∀ y ∈ xs, (Lit.int .i64 y).wf = true := by
  rcases DataW.trod_slice Try.underlying25 h with ⟨e2, rfl⟩ | ⟨ad, len, cap, elems, rest, m, rfl, e2, rfl, hb, hlc, hm, hel, hin, hsp, hns⟩
  · exact ⟨_, [], e2, ⟨none, 0, rfl, by simp, by simp, fun i hi => by simp at hi⟩, fun y hy => by simp at hy⟩
  · simp only [DataW.weights, Try.underlying25, bytesOf_int] at hw
    have hsz := hw _ (List.mem_cons_self ..)
    rw [reach_le] at hsz
    simp only [List.length_map] at hsz
    have key : ∀ n, n ≤ len → ∃ xs : List Int, xs.length = n ∧ (∀ j (hj : j < xs.length), W.cell? (ad.add j) = some (.int .i64 xs[j])) ∧ ∀ y ∈ xs, (Lit.int .i64 y).wf = true := by
      intro n
      induction n with
      | zero => intro _; exact ⟨[], rfl, fun j hj => by simp at hj, fun y hy => by simp at hy⟩
      | succ n ih =>
        intro hn
        obtain ⟨xs, hl, hc, hwf⟩ := ih (by omega)
        have hx := hin n (by omega)
        rw [List.getElem?_eq_getElem (by omega)] at hx
        obtain ⟨cs', hcs, ht⟩ := Option.bind_eq_some_iff.1 hx
        obtain ⟨y, rfl, _, wy⟩ := DataW.trod_int Try.underlying3 ht
        rw [cellsOf_int, Nat.mul_one] at hcs
        obtain ⟨_, _, hcc⟩ := World.cells?_some hcs
        have q0 := hcc 0 (by omega)
        rw [show (ad.add n).add 0 = ad.add n from by unfold Addr.add; simp] at q0
        refine ⟨xs ++ [y], by simp [hl], fun j hj => ?_, fun z hz => ?_⟩
        · by_cases hlt : j < xs.length
          · rw [List.getElem_append_left hlt]; exact hc j hlt
          · have : j = n := by simp at hj; omega
            subst this
            rw [List.getElem_append_right (by omega)]
            simpa [hl] using q0
        · rcases List.mem_append.1 hz with hz | hz
          · exact hwf z hz
          · rw [List.mem_singleton.1 hz]; exact wy
    obtain ⟨xs, hl, hc, hwf⟩ := key len (Nat.le_refl _)
    exact ⟨_, xs, e2, ⟨some ad, cap, by rw [hl], by omega, by omega, fun j hj => ⟨ad, _, rfl, hc j hj, rfl⟩⟩, hwf⟩
theorem intss_fuel {fuel : Nat} {cs : List Value} {x : DataW H × List MemPlace} (h : DataW.trod enc Try.prog W base spare held fuel 40 cs = some x) (hw : ∀ n ∈ x.1.weights Try.prog 40, n ≤ reachBytes) :
    ∃ (v : Value) (xss : List (List Int)), cs = [v] ∧ Intss W v xss := by
  rcases DataW.trod_slice Try.underlying40 h with ⟨e2, rfl⟩ | ⟨ad, len, cap, elems, rest, m, rfl, e2, rfl, hb, hlc, hm, hel, hin, hsp, hns⟩
  · exact ⟨_, [], e2, ⟨none, 0, rfl, by simp, by simp, fun i hi => by simp at hi⟩⟩
  · simp only [DataW.weights, Try.underlying40, bytesOf_ints] at hw
    have hsz := hw _ (List.mem_cons_self ..)
    rw [reach_le] at hsz
    simp only [List.length_map] at hsz
    have key : ∀ n, n ≤ len → ∃ xss : List (List Int), xss.length = n ∧ (∀ j (hj : j < xss.length), ∃ u, W.cell? (ad.add j) = some u ∧ Ints W u xss[j]) := by
      intro n
      induction n with
      | zero => intro _; exact ⟨[], rfl, fun j hj => by simp at hj⟩
      | succ n ih =>
        intro hn
        obtain ⟨xss, hl, hc⟩ := ih (by omega)
        have hx := hin n (by omega)
        rw [List.getElem?_eq_getElem (by omega)] at hx
        obtain ⟨cs', hcs, ht⟩ := Option.bind_eq_some_iff.1 hx
        obtain ⟨u, y, rfl, hy, _⟩ := ints_fuel ht (fun n' hn' => hw n' (by
          refine List.mem_cons_of_mem _ (List.mem_append.2 (.inl ?_))
          exact weightsAll_mem (List.mem_map.2 ⟨elems[n], List.getElem_mem _, rfl⟩) n' hn'))
        rw [cellsOf_ints, Nat.mul_one] at hcs
        obtain ⟨_, _, hcc⟩ := World.cells?_some hcs
        have q0 := hcc 0 (by omega)
        rw [show (ad.add n).add 0 = ad.add n from by unfold Addr.add; simp] at q0
        refine ⟨xss ++ [y], by simp [hl], fun j hj => ?_⟩
        by_cases hlt : j < xss.length
        · rw [List.getElem_append_left hlt]; exact hc j hlt
        · have : j = n := by simp at hj; omega
          subst this
          rw [List.getElem_append_right (by omega)]
          exact ⟨u, by simpa [hl] using q0, by simpa [hl] using hy⟩
    obtain ⟨xss, hl, hc⟩ := key len (Nat.le_refl _)
    exact ⟨_, xss, e2, ⟨some ad, cap, by rw [hl], by omega, by omega, fun j hj => by obtain ⟨u, h1, h2⟩ := hc j hj; exact ⟨ad, u, rfl, h1, h2⟩⟩⟩
theorem open_ints_list {r : Reach} {b0 : Nat} {v : Value} {d : DataW H} {p : List MemPlace} (hv : Value.okWide Try.prog W r b0 25 v) (h : DataW.Trod enc Try.prog W base spare held 25 v d p)
    (hw : ∀ n ∈ d.weights Try.prog 25, n ≤ reachBytes) : ∃ xs, Ints W v xs ∧ ∀ y ∈ xs, (Lit.int .i64 y).wf = true := by
  obtain ⟨a, l, c, rfl⟩ := Go.WideShapes.okWide_slice Try.underlying25 hv
  obtain ⟨fuel, hf⟩ := h
  obtain ⟨u, xs, hcs, hi, hwf⟩ := ints_fuel hf hw
  simp [Value.cells] at hcs
  subst hcs
  exact ⟨xs, hi, hwf⟩
theorem open_intss {r : Reach} {b0 : Nat} {v : Value} {d : DataW H} {p : List MemPlace} (hv : Value.okWide Try.prog W r b0 40 v) (h : DataW.Trod enc Try.prog W base spare held 40 v d p)
    (hw : ∀ n ∈ d.weights Try.prog 40, n ≤ reachBytes) : ∃ xss, Intss W v xss := by
  obtain ⟨a, l, c, rfl⟩ := Go.WideShapes.okWide_slice Try.underlying40 hv
  obtain ⟨fuel, hf⟩ := h
  obtain ⟨u, xss, hcs, hi⟩ := intss_fuel hf hw
  simp [Value.cells] at hcs
  subst hcs
  exact ⟨xss, hi⟩
end
end Go.Proofs.Ytmnpbopkhpbhiaa
