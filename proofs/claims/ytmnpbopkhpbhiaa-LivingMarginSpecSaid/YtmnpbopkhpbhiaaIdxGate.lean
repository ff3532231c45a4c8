/- slices.IndexFunc, slices.ContainsFunc over formulas, with any function value that keeps the formulas. -/
import Derived.Test.YtmnpbopkhpbhiaaProg
import Derived.Test.YtmnpbopkhpbhiaaGate
set_option linter.unusedVariables false
set_option linter.unusedSimpArgs false
namespace Go.Proofs.Ytmnpbopkhpbhiaa
open Go.RowKit
set_option maxHeartbeats 400000 in
theorem idx_gate (v : Value) (gs : List Gt) (gf : Nat) (lb : Array Value) (eg : ∀ args w, (callFunc gf args).run Try.prog w = .ok (.enter gf args) w) (I : List Gt → World → Prop) (X : World → Prop)
    (w0 : World) (hgs : Gs w0 v gs) (hI : ∀ pre W, I pre W → Keep w0 W)
    (hf : ∀ pre x rest val W, gs = pre ++ x :: rest → I pre W → IsG w0 x val → Calls Try.prog gf (#[val] ++ lb) W fun e W' => (e = .returned (.bool true) ∧ X W') ∨ (e = .returned (.bool false) ∧ I (pre ++ [x]) W'))
    (w : World) (h0 : I [] w) :
    Calls Try.prog 154 #[v, .func (.func gf) #[] lb] w fun e W' => (e = .returned (.int .i64 (-1)) ∧ I gs W') ∨ (∃ i : Nat, e = .returned (.int .i64 i) ∧ X W') := by
  obtain ⟨a, cap, rfl, hcap, hmax, hgs⟩ := hgs
  go_enter Try.func154, Try.ntmps154
  go_wp2_with fail
  go_loopw [8] (fun i wr => ∃ k : Nat, k ≤ gs.length ∧ i = .int .i64 k ∧ I (gs.take k) wr) (fun i _ => gs.length - (intOf i).toNat)
  case atStart => exact ⟨0, Nat.zero_le _, rfl, by simpa using h0⟩
  case round =>
    obtain ⟨k, hk, rfl, hi⟩ := hrel
    by_cases hlt : k < gs.length
    · obtain ⟨ad, u, rfl, c0, c1, c2, hg⟩ := hgs.get k hlt
      rw [Nat.zero_add] at c0 c1 c2
      have hK := hI _ _ hi
      have c0 := hK.cell c0
      have c1 := hK.cell c1
      have c2 := hK.cell c2
      clear hgs hK
      rw [add_add_pos _ _ _ (by omega)] at c1 c2
      have hsp : gs = gs.take k ++ gs[k] :: gs.drop (k + 1) := by rw [List.getElem_cons_drop, List.take_append_drop]
      have hstep := hf _ _ _ (.agg #[.int .i64 gs[k].p, .int .i64 gs[k].n, u]) wr hsp hi ⟨u, rfl, hg⟩
      have htk : gs.take k ++ [gs[k]] = gs.take (k + 1) := by simp
      have Htk := Lib.hid htk
      clear hsp htk hI hf hg
      go_wp2_with fail
      refine hstep.mono ?_
      clear hstep
      rintro e W' (⟨rfl, hx⟩ | ⟨rfl, hi'⟩)
      · go_wp2_with fail
        go_ret
        exact .inr ⟨k, rfl, hx⟩
      · rw [Htk.out] at hi'
        go_wp2_with fail
        go_roundw
        case rel => exact ⟨k + 1, by omega, by go_num, hi'⟩
        case measure => simp [intOf]; omega
    · obtain rfl : k = gs.length := by omega
      rw [List.take_length] at hi
      go_wp2_with fail
      go_ret
      exact .inl ⟨rfl, hi⟩
set_option maxHeartbeats 400000 in
theorem contains_gate (v : Value) (gs : List Gt) (gf : Nat) (lb : Array Value) (eg : ∀ args w, (callFunc gf args).run Try.prog w = .ok (.enter gf args) w) (I : List Gt → World → Prop) (X : World → Prop)
    (w0 : World) (hgs : Gs w0 v gs) (hI : ∀ pre W, I pre W → Keep w0 W)
    (hf : ∀ pre x rest val W, gs = pre ++ x :: rest → I pre W → IsG w0 x val → Calls Try.prog gf (#[val] ++ lb) W fun e W' => (e = .returned (.bool true) ∧ X W') ∨ (e = .returned (.bool false) ∧ I (pre ++ [x]) W'))
    (w : World) (h0 : I [] w) :
    Calls Try.prog 133 #[v, .func (.func gf) #[] lb] w fun e W' => (e = .returned (.bool false) ∧ I gs W') ∨ (e = .returned (.bool true) ∧ X W') := by
  have H := idx_gate v gs gf lb eg I X w0 hgs hI hf w h0
  clear hI hf
  go_enter Try.func133, Try.ntmps133
  go_wp2_with fail
  refine H.mono ?_
  clear H
  rintro e W' (⟨rfl, hx⟩ | ⟨i, rfl, hx⟩)
  · go_wp2_with fail
    go_ret
    exact .inl ⟨rfl, hx⟩
  · go_wp2_with fail
    go_ret
    exact .inr ⟨rfl, hx⟩
theorem contains_gate_pure (w : World) (v : Value) (gs : List Gt) (h : Gs w v gs) (gf : Nat) (lb : Array Value) (eg : ∀ args w, (callFunc gf args).run Try.prog w = .ok (.enter gf args) w) (p : Gt → Bool)
    (hf : ∀ x, x ∈ gs → ∀ val W, Same w W → IsG w x val → Calls Try.prog gf (#[val] ++ lb) W fun e W' => e = .returned (.bool (p x)) ∧ Same W W') :
    Calls Try.prog 133 #[v, .func (.func gf) #[] lb] w fun e W' => e = .returned (.bool (gs.any p)) ∧ Same w W' := by
  refine (contains_gate v gs gf lb eg (fun pre W => Same w W ∧ ∀ x ∈ pre, p x = false) (fun W => Same w W ∧ gs.any p = true) w h (fun pre W hi => hi.1.keep) ?_ w ⟨Same.refl w, by simp⟩).mono ?_
  · rintro pre x rest val W rfl ⟨hs, hp⟩ hg
    refine (hf x (by simp) val W hs hg).mono ?_
    rintro e W' ⟨rfl, hs'⟩
    cases hx : p x with
    | true => exact .inl ⟨rfl, hs.trans hs', by simp [hx]⟩
    | false =>
      refine .inr ⟨rfl, hs.trans hs', fun y hy => ?_⟩
      rcases List.mem_append.1 hy with hy | hy
      · exact hp y hy
      · obtain rfl : y = x := by simpa using hy
        exact hx
  · rintro e W' (⟨rfl, hs, hp⟩ | ⟨rfl, hs, hp⟩)
    · exact ⟨by rw [show gs.any p = false by simpa using hp], hs⟩
    · exact ⟨by rw [hp], hs⟩
end Go.Proofs.Ytmnpbopkhpbhiaa
