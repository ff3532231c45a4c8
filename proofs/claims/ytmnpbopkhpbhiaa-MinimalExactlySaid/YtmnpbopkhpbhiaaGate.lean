/- Formulas as trees (Gt), and how they lie in memory. slices.IndexFunc, slices.ContainsFunc over formulas, with any function value that keeps the formulas. -/
import Derived.Test.YtmnpbopkhpbhiaaBase
import Derived.Test.YtmnpbopkhpbhiaaProg
set_option linter.unusedVariables false
set_option linter.unusedSimpArgs false
namespace Go.Proofs.Ytmnpbopkhpbhiaa
section
open Go.RowKit

/-- A formula: a person, or at least n of l. -/
inductive Gt where
  | mk (p n : Int) (l : List Gt)
def Gt.p : Gt → Int | .mk p _ _ => p
def Gt.n : Gt → Int | .mk _ n _ => n
def Gt.l : Gt → List Gt | .mk _ _ l => l
@[simp] theorem Gt.p_mk (p n : Int) (l : List Gt) : (Gt.mk p n l).p = p := rfl
@[simp] theorem Gt.n_mk (p n : Int) (l : List Gt) : (Gt.mk p n l).n = n := rfl
@[simp] theorem Gt.l_mk (p n : Int) (l : List Gt) : (Gt.mk p n l).l = l := rfl

mutual
/-- v is the slice of g's elements. -/
def Gt.At (w : World) : Gt → Value → Prop
  | .mk _ _ l, v => ∃ a cap, v = .slice a l.length cap ∧ l.length ≤ cap ∧ l.length ≤ 3518437208883 ∧ GsAt w l a 0
def GsAt (w : World) : List Gt → Option Addr → Nat → Prop
  | [], _, _ => True
  | g :: gs, a, i => (∃ ad v, a = some ad ∧ w.cell? (ad.add (i * 3)) = some (.int .i64 g.p) ∧ w.cell? ((ad.add (i * 3)).add 1) = some (.int .i64 g.n) ∧ w.cell? ((ad.add (i * 3)).add 2) = some v ∧ Gt.At w g v) ∧ GsAt w gs a (i + 1)
end

/-- val is the value of the formula g. -/
def IsG (w : World) (g : Gt) (val : Value) : Prop := ∃ v, val = .agg #[.int .i64 g.p, .int .i64 g.n, v] ∧ g.At w v

mutual
theorem Gt.At.keep {w W : World} (h : Keep w W) : ∀ {g : Gt} {v : Value}, g.At w v → g.At W v
  | .mk _ _ l, v, hv => by
    simp only [Gt.At] at hv ⊢
    obtain ⟨a, cap, e, h1, h2, h3⟩ := hv
    exact ⟨a, cap, e, h1, h2, GsAt.keep h h3⟩
theorem GsAt.keep {w W : World} (h : Keep w W) : ∀ {gs : List Gt} {a : Option Addr} {i : Nat}, GsAt w gs a i → GsAt W gs a i
  | [], _, _, _ => by simp only [GsAt]
  | g :: gs, a, i, hv => by
    simp only [GsAt] at hv ⊢
    obtain ⟨⟨ad, v, e, c0, c1, c2, hg⟩, hs⟩ := hv
    exact ⟨⟨ad, v, e, h.cell c0, h.cell c1, h.cell c2, Gt.At.keep h hg⟩, GsAt.keep h hs⟩
end
theorem IsG.keep {w W : World} (h : Keep w W) {g : Gt} {val : Value} (hg : IsG w g val) : IsG W g val := by
  obtain ⟨v, e, hv⟩ := hg
  exact ⟨v, e, hv.keep h⟩
/-- The j-th of the formulas. -/
theorem GsAt.get {w : World} : ∀ {gs : List Gt} {a : Option Addr} {i : Nat}, GsAt w gs a i → ∀ (j : Nat) (h : j < gs.length),
    ∃ ad v, a = some ad ∧ w.cell? (ad.add ((i + j) * 3)) = some (.int .i64 gs[j].p) ∧ w.cell? ((ad.add ((i + j) * 3)).add 1) = some (.int .i64 gs[j].n) ∧ w.cell? ((ad.add ((i + j) * 3)).add 2) = some v ∧ gs[j].At w v
  | [], _, _, _, j, h => by simp at h
  | g :: gs, a, i, hv, 0, _ => by
    simp only [GsAt] at hv
    simpa using hv.1
  | g :: gs, a, i, hv, j + 1, h => by
    simp only [GsAt] at hv
    have := GsAt.get hv.2 j (by simpa using h)
    simpa [Nat.add_assoc, Nat.add_comm 1 j] using this
theorem GsAt.mk {w : World} : ∀ {gs : List Gt} {a : Option Addr} {i : Nat}, (∀ (j : Nat) (h : j < gs.length),
    ∃ ad v, a = some ad ∧ w.cell? (ad.add ((i + j) * 3)) = some (.int .i64 gs[j].p) ∧ w.cell? ((ad.add ((i + j) * 3)).add 1) = some (.int .i64 gs[j].n) ∧ w.cell? ((ad.add ((i + j) * 3)).add 2) = some v ∧ gs[j].At w v) → GsAt w gs a i
  | [], _, _, _ => by simp only [GsAt]
  | g :: gs, a, i, hv => by
    simp only [GsAt]
    refine ⟨hv 0 (Nat.zero_lt_succ _), GsAt.mk fun j h => ?_⟩
    have := hv (j + 1) (Nat.succ_lt_succ h)
    rw [show i + 1 + j = i + (j + 1) from by omega]
    exact this
theorem add_add_pos (ad : Addr) (m j : Nat) (hj : 0 < j) : (ad.add m).add j = ⟨(ad.add m).block, (ad.add m).off + j, none⟩ := by
  unfold Addr.add
  by_cases hm : m = 0
  · subst hm
    simp [Nat.ne_of_gt hj]
  · simp [hm, Nat.ne_of_gt hj, Nat.add_assoc]
/-- A slice of formulas. -/
def Gs (w : World) (v : Value) (gs : List Gt) : Prop := ∃ a cap, v = .slice a gs.length cap ∧ gs.length ≤ cap ∧ gs.length ≤ 3518437208883 ∧ GsAt w gs a 0
theorem Gs.keep {w W : World} (h : Keep w W) {v : Value} {gs : List Gt} (hs : Gs w v gs) : Gs W v gs := by
  obtain ⟨a, cap, e, h1, h2, h3⟩ := hs
  exact ⟨a, cap, e, h1, h2, h3.keep h⟩
theorem Gt.At.gs {w : World} {g : Gt} {v : Value} (h : g.At w v) : Gs w v g.l := by
  cases g
  simpa only [Gt.At, Gs, Gt.l_mk] using h
theorem Gs.at {w : World} {p n : Int} {l : List Gt} {v : Value} (h : Gs w v l) : (Gt.mk p n l).At w v := by
  simpa only [Gt.At, Gs, Gt.l_mk] using h
end
section
open Go.RowKit
set_option maxHeartbeats 400000 in
theorem idx_gate (v : Value) (gs : List Gt) (gf : Nat) (lb : Array Value) (eg : ∀ args w, (callFunc gf args).run Try.prog w = .ok (.enter gf args) w) (I : List Gt → World → Prop) (X : World → Prop)
    (w0 : World) (hgs : Gs w0 v gs) (hI : ∀ pre W, I pre W → Keep w0 W)
    (hf : ∀ pre x rest val W, gs = pre ++ x :: rest → I pre W → IsG w0 x val → Calls Try.prog gf (#[val] ++ lb) W fun e W' => (e = .returned (.bool true) ∧ X W') ∨ (e = .returned (.bool false) ∧ I (pre ++ [x]) W'))
    (w : World) (h0 : I [] w) :
    Calls Try.prog 154 #[v, .func (.func gf) #[] lb] w fun e W' => (e = .returned (.int .i64 (-1)) ∧ I gs W') ∨ (∃ i : Nat, e = .returned (.int .i64 i) ∧ X W') := by
  obtain ⟨a, cap, rfl, hcap, hmax, hgs⟩ := hgs
  go_enter Try.func154, Try.ntmps154
  go_wp2_with fail
  go_loopw [8] (fun i wr => ∃ k : Nat, k ≤ gs.length ∧ i = .int .i64 k ∧ I (gs.take k) wr) (fun i _ => gs.length - (intOf i).toNat)
  case atStart => exact ⟨0, Nat.zero_le _, rfl, by simpa using h0⟩
  case round =>
    obtain ⟨k, hk, rfl, hi⟩ := hrel
    by_cases hlt : k < gs.length
    · obtain ⟨ad, u, rfl, c0, c1, c2, hg⟩ := hgs.get k hlt
      rw [Nat.zero_add] at c0 c1 c2
      have hK := hI _ _ hi
      have c0 := hK.cell c0
      have c1 := hK.cell c1
      have c2 := hK.cell c2
      clear hgs hK
      rw [add_add_pos _ _ _ (by omega)] at c1 c2
      have hsp : gs = gs.take k ++ gs[k] :: gs.drop (k + 1) := by rw [List.getElem_cons_drop, List.take_append_drop]
      have hstep := hf _ _ _ (.agg #[.int .i64 gs[k].p, .int .i64 gs[k].n, u]) wr hsp hi ⟨u, rfl, hg⟩
      have htk : gs.take k ++ [gs[k]] = gs.take (k + 1) := by simp
      have Htk := Lib.hid htk
      clear hsp htk hI hf hg
      go_wp2_with fail
      refine hstep.mono ?_
      clear hstep
      rintro e W' (⟨rfl, hx⟩ | ⟨rfl, hi'⟩)
      · go_wp2_with fail
        go_ret
        exact .inr ⟨k, rfl, hx⟩
      · rw [Htk.out] at hi'
        go_wp2_with fail
        go_roundw
        case rel => exact ⟨k + 1, by omega, by go_num, hi'⟩
        case measure => simp [intOf]; omega
    · obtain rfl : k = gs.length := by omega
      rw [List.take_length] at hi
      go_wp2_with fail
      go_ret
      exact .inl ⟨rfl, hi⟩
set_option maxHeartbeats 400000 in
theorem contains_gate (v : Value) (gs : List Gt) (gf : Nat) (lb : Array Value) (eg : ∀ args w, (callFunc gf args).run Try.prog w = .ok (.enter gf args) w) (I : List Gt → World → Prop) (X : World → Prop)
    (w0 : World) (hgs : Gs w0 v gs) (hI : ∀ pre W, I pre W → Keep w0 W)
    (hf : ∀ pre x rest val W, gs = pre ++ x :: rest → I pre W → IsG w0 x val → Calls Try.prog gf (#[val] ++ lb) W fun e W' => (e = .returned (.bool true) ∧ X W') ∨ (e = .returned (.bool false) ∧ I (pre ++ [x]) W'))
    (w : World) (h0 : I [] w) :
    Calls Try.prog 133 #[v, .func (.func gf) #[] lb] w fun e W' => (e = .returned (.bool false) ∧ I gs W') ∨ (e = .returned (.bool true) ∧ X W') := by
  have H := idx_gate v gs gf lb eg I X w0 hgs hI hf w h0
  clear hI hf
  go_enter Try.func133, Try.ntmps133
  go_wp2_with fail
  refine H.mono ?_
  clear H
  rintro e W' (⟨rfl, hx⟩ | ⟨i, rfl, hx⟩)
  · go_wp2_with fail
    go_ret
    exact .inl ⟨rfl, hx⟩
  · go_wp2_with fail
    go_ret
    exact .inr ⟨rfl, hx⟩
theorem contains_gate_pure (w : World) (v : Value) (gs : List Gt) (h : Gs w v gs) (gf : Nat) (lb : Array Value) (eg : ∀ args w, (callFunc gf args).run Try.prog w = .ok (.enter gf args) w) (p : Gt → Bool)
    (hf : ∀ x, x ∈ gs → ∀ val W, Same w W → IsG w x val → Calls Try.prog gf (#[val] ++ lb) W fun e W' => e = .returned (.bool (p x)) ∧ Same W W') :
    Calls Try.prog 133 #[v, .func (.func gf) #[] lb] w fun e W' => e = .returned (.bool (gs.any p)) ∧ Same w W' := by
  refine (contains_gate v gs gf lb eg (fun pre W => Same w W ∧ ∀ x ∈ pre, p x = false) (fun W => Same w W ∧ gs.any p = true) w h (fun pre W hi => hi.1.keep) ?_ w ⟨Same.refl w, by simp⟩).mono ?_
  · rintro pre x rest val W rfl ⟨hs, hp⟩ hg
    refine (hf x (by simp) val W hs hg).mono ?_
    rintro e W' ⟨rfl, hs'⟩
    cases hx : p x with
    | true => exact .inl ⟨rfl, hs.trans hs', by simp [hx]⟩
    | false =>
      refine .inr ⟨rfl, hs.trans hs', fun y hy => ?_⟩
      rcases List.mem_append.1 hy with hy | hy
      · exact hp y hy
      · obtain rfl : y = x := by simpa using hy
        exact hx
  · rintro e W' (⟨rfl, hs, hp⟩ | ⟨rfl, hs, hp⟩)
    · exact ⟨by rw [show gs.any p = false by simpa using hp], hs⟩
    · exact ⟨by rw [hp], hs⟩
end
end Go.Proofs.Ytmnpbopkhpbhiaa
