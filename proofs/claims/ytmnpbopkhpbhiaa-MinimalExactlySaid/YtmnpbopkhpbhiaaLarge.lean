/- formulas.large, formulas.Check. -/
import Derived.Test.YtmnpbopkhpbhiaaRight
import Derived.Test.YtmnpbopkhpbhiaaRange
set_option linter.unusedVariables false
set_option linter.unusedSimpArgs false
namespace Go.Proofs.Ytmnpbopkhpbhiaa
open Go.RowKit
mutual
/-- What large's walk answers, and how many leaves are left. -/
def Gt.walk : Gt → Int → Int → Bool × Int
  | .mk _ _ l, d, c => if 16 < d then (true, c) else if l.isEmpty then (decide (c - 1 < 0), c - 1) else walkL l (d + 1) c
def walkL : List Gt → Int → Int → Bool × Int
  | [], _, c => (false, c)
  | g :: gs, d, c => if (g.walk d c).1 then g.walk d c else walkL gs d (g.walk d c).2
end
theorem walkL_append_false (d : Int) : ∀ (pre : List Gt) (rest : List Gt) (c c' : Int), walkL pre d c = (false, c') → walkL (pre ++ rest) d c = walkL rest d c'
  | [], rest, c, c', h => by simp only [walkL] at h; cases h; rfl
  | g :: gs, rest, c, c', h => by
    simp only [walkL, List.cons_append] at h ⊢
    split at h
    · rename_i h1
      rw [h] at h1
      cases h1
    · rename_i h1
      rw [if_neg h1]
      exact walkL_append_false d gs rest _ _ h
/-- Block b holds v, and all else that w held stands. -/
structure Put (w W : World) (b : Nat) (t : TypeId) (v : Value) : Prop where
  grown : w.grownBy W (some b)
  box : Boxed W b t v
theorem Put.refl {w : World} {b : Nat} {t : TypeId} {v : Value} (h : Boxed w b t v) : Put w w b t v := ⟨World.grownBy.refl _ _, h⟩
theorem Put.trans {a b c : World} {k : Nat} {t t' : TypeId} {v v' : Value} (h : Put a b k t v) (h' : Put b c k t' v') : Put a c k t' v' := ⟨World.grownBy.trans h.grown h'.grown, h'.box⟩
theorem Same.grownBy {w W : World} (h : Same w W) (row : Option Nat) : w.grownBy W row := ⟨h.out.os, h.out.tape, h.out.output, h.out.size, fun k hk _ => h.out.block k hk⟩
theorem Boxed.same {w W : World} (h : Same w W) {b : Nat} {t : TypeId} {v : Value} (hb : Boxed w b t v) : Boxed W b t v := by
  have := hb.lt
  unfold Boxed at hb ⊢
  rw [h.out.block b this]; exact hb
theorem Same.put {w W : World} (h : Same w W) {b : Nat} {t : TypeId} {v : Value} (hb : Boxed w b t v) : Put w W b t v := ⟨h.grownBy _, Boxed.same h hb⟩
theorem Put.boxed {w W : World} {b k : Nat} {t u : TypeId} {v x : Value} (h : Put w W b t v) (hk : Boxed w k u x) (hne : k ≠ b) : Boxed W k u x := by
  have := hk.lt
  unfold Boxed at hk ⊢
  rw [h.grown.block k this (fun e => hne (by injection e))]; exact hk
theorem keep_grown {w W W' : World} (h : Keep w W) {b : Nat} (hg : W.grownBy W' (some b)) (hb : w.heap.size ≤ b) : Keep w W' := by
  refine ⟨Nat.le_trans h.size hg.size, fun k o hk ho => ?_⟩
  have hlt : k < w.heap.size := (Array.getElem?_eq_some_iff.1 hk).1
  rw [hg.block k (Nat.lt_of_lt_of_le hlt h.size) (by intro e; injection e with e; omega)]
  exact h.same k o hk ho
mutual
theorem walk_range : ∀ (g : Gt) (d c : Int), 0 ≤ c → (g.walk d c).1 = false → 0 ≤ (g.walk d c).2 ∧ (g.walk d c).2 ≤ c
  | .mk p n l, d, c, hc, h => by
    simp only [Gt.walk] at h ⊢
    split at h
    · cases h
    · rename_i hd
      rw [if_neg hd]
      split at h
      · rename_i hl
        rw [if_pos hl]
        simp only [decide_eq_false_iff_not] at h
        simp only
        omega
      · rename_i hl
        rw [if_neg hl]
        exact walkL_range l _ c hc h
theorem walkL_range : ∀ (l : List Gt) (d c : Int), 0 ≤ c → (walkL l d c).1 = false → 0 ≤ (walkL l d c).2 ∧ (walkL l d c).2 ≤ c
  | [], d, c, hc, h => by simp only [walkL] at h ⊢; omega
  | g :: gs, d, c, hc, h => by
    simp only [walkL] at h ⊢
    split at h
    · rename_i h1
      rw [h] at h1
      cases h1
    · rename_i h1
      rw [if_neg h1]
      have h2 := walk_range g d c hc (by simpa using h1)
      have h3 := walkL_range gs d _ h2.1 h
      omega
end
theorem enters_large11 : ∀ args w, (callFunc 134 args).run Try.prog w = .ok (.enter 134 args) w :=
  enters_of Try.func134 (by kernel_rfl) rfl
theorem enters_large1 : ∀ args w, (callFunc 132 args).run Try.prog w = .ok (.enter 132 args) w :=
  enters_of Try.func132 (by kernel_rfl) rfl
abbrev ptr (b : Nat) : Value := .pointer (some ⟨b, 0, none⟩)
set_option maxHeartbeats 1000000 in
theorem large1_all (k : Nat) : ∀ (g : Gt) (d c : Int) (w0 W : World) (val : Value) (Bl Bw : Nat), SizeOf.sizeOf g < k → IsG w0 g val → Keep w0 W → w0.heap.size ≤ Bl → Bl ≠ Bw →
    Boxed W Bl 3 (.int .i64 c) → Boxed W Bw 141 (.func (.func 132) #[] #[ptr Bl, ptr Bw]) → 1 ≤ d → d ≤ 17 → 0 ≤ c → c ≤ 256 →
    Calls Try.prog 132 #[val, .int .i64 d, ptr Bl, ptr Bw] W fun e W' => e = .returned (.bool (g.walk d c).1) ∧ Put W W' Bl 3 (.int .i64 (g.walk d c).2) := by
  induction k with
  | zero => intro g d c w0 W val Bl Bw hk; omega
  | succ k ih =>
    intro g d c w0 W val Bl Bw hk hg hK hBl hne bl bw hd1 hd2 hc1 hc2
    obtain ⟨v, rfl, hv⟩ := hg
    obtain ⟨p, n, l⟩ := g
    obtain ⟨a, cap, rfl, hcap, hmax, hl⟩ := hv.gs
    simp only [Gt.p_mk, Gt.n_mk, Gt.l_mk] at *
    have hgs : Gs w0 (.slice a l.length cap) l := ⟨a, cap, rfl, hcap, hmax, hl⟩
    clear hl hv
    have hS2 : Same W ((W.alloc (.cells #[.int .i64 p, .int .i64 n, .slice a l.length cap] 24)).alloc (.cells #[.int .i64 d] 3)) := ((Same.refl W).alloc _).alloc _
    by_cases h16 : 16 < d
    · clear ih
      have hr : (Gt.mk p n l).walk d c = (true, c) := by rw [Gt.walk, if_pos h16]
      have Hr := Lib.hid hr
      clear hr
      go_enter Try.func132, Try.ntmps132
      go_wp2_with fail
      go_ret
      exact ⟨by rw [Hr.out]; rfl, by rw [Hr.out]; exact hS2.put bl⟩
    · by_cases hle : l = []
      · clear ih
        subst hle
        have hr : (Gt.mk p n []).walk d c = (decide (c - 1 < 0), c - 1) := by rw [Gt.walk, if_neg h16]; rfl
        have Hr := Lib.hid hr
        have hcl := bl.cell
        have hfl := bl.frozen
        clear hr
        have hlt := bl.lt
        go_enter Try.func132, Try.ntmps132
        go_wp2_with fail
        go_ret
        refine ⟨by rw [Hr.out]; rfl, ?_⟩
        rw [Hr.out]
        exact ⟨World.grownBy.trans (grownBy_setCell' _ _ _) (World.grownBy.trans (World.grownBy_alloc _ _ _) (World.grownBy_alloc _ _ _)), ((bl.set _).alloc _).alloc _⟩
      · have hr : (Gt.mk p n l).walk d c = walkL l (d + 1) c := by
          rw [Gt.walk, if_neg h16, if_neg (by simpa using hle)]
        have Hr := Lib.hid hr
        clear hr
        have hn : ¬ (l.length = 0) := by simpa using hle
        have hW2 : ∃ W2, ((W.alloc (.cells #[.int .i64 p, .int .i64 n, .slice a l.length cap] 24)).alloc (.cells #[.int .i64 d] 3)) = W2 := ⟨_, rfl⟩
        obtain ⟨W2, hW2⟩ := hW2
        have bd : Boxed W2 (W.heap.size + 1) 3 (.int .i64 d) := by
          rw [← hW2]
          have := Boxed.new (W.alloc (.cells #[.int .i64 p, .int .i64 n, .slice a l.length cap] 24)) 3 (.int .i64 d)
          rwa [World.size_alloc] at this
        rw [hW2] at hS2
        have hlb := bl.lt
        have H := contains_gate (.slice a l.length cap) l 134 #[ptr Bw, ptr (W.heap.size + 1)] enters_large11
          (fun pre A => ∃ c', walkL pre (d + 1) c = (false, c') ∧ 0 ≤ c' ∧ c' ≤ 256 ∧ Put W2 A Bl 3 (.int .i64 c'))
          (fun A => ∃ c', walkL l (d + 1) c = (true, c') ∧ Put W2 A Bl 3 (.int .i64 c')) w0 hgs
          (fun pre A hA => by obtain ⟨c', _, _, _, hp⟩ := hA; exact keep_grown (hK.trans hS2.keep) hp.grown hBl) ?_ W2
          ⟨c, by simp only [walkL], hc1, hc2, Put.refl (Boxed.same hS2 bl)⟩
        · rw [← hW2] at H hS2
          have HW := Lib.hid hW2
          clear hW2
          go_enter Try.func132, Try.ntmps132
          go_wp2_with fail
          refine H.mono ?_
          clear H
          rintro e w1 (⟨rfl, c', h1, h2, h3, h4⟩ | ⟨rfl, c', h1, h4⟩)
          all_goals have H1 := Lib.hid h1
          all_goals clear h1
          all_goals go_wp2_with fail
          all_goals go_ret
          all_goals refine ⟨by rw [Hr.out, H1.out]; rfl, by rw [Hr.out, H1.out]; exact ⟨World.grownBy.trans (hS2.grownBy _) h4.grown, h4.box⟩⟩
        · rintro pre x rest val A rfl ⟨c', hw, h1, h2, hp⟩ hxg
          have hlt : SizeOf.sizeOf x < k := by
            have : SizeOf.sizeOf x < SizeOf.sizeOf (pre ++ x :: rest) := List.sizeOf_lt_of_mem (by simp)
            simp only [Gt.mk.sizeOf_spec] at hk
            omega
          have bwA : Boxed A Bw 141 (.func (.func 132) #[] #[ptr Bl, ptr Bw]) := hp.boxed (Boxed.same hS2 bw) (Ne.symm hne)
          have bdA : Boxed A (W.heap.size + 1) 3 (.int .i64 d) := hp.boxed bd (by omega)
          obtain ⟨v', rfl, hv'⟩ := hxg
          have hKA : Keep w0 A := keep_grown (hK.trans hS2.keep) hp.grown hBl
          have hAA : Same A (A.alloc (.cells #[.int .i64 x.p, .int .i64 x.n, v'] 24)) := (Same.refl A).alloc _
          have H := ih x (d + 1) c' w0 (A.alloc (.cells #[.int .i64 x.p, .int .i64 x.n, v'] 24)) (.agg #[.int .i64 x.p, .int .i64 x.n, v']) Bl Bw hlt ⟨v', rfl, hv'⟩ (hKA.trans hAA.keep) hBl hne (Boxed.same hAA hp.box) (Boxed.same hAA bwA) (by omega) (by omega) h1 h2
          have hnext := walkL_append_false (d + 1) pre [x] c c' hw
          have hrg := walk_range x (d + 1) c' h1
          have hall := walkL_append_false (d + 1) pre (x :: rest) c c' hw
          have c1 := bwA.cell
          have c2 := bdA.cell
          have l1 := bwA.lt
          have l2 := bdA.lt
          have HA := Lib.hid hnext
          have HB := Lib.hid hrg
          have HC := Lib.hid hall
          have HW := Lib.hid hW2
          clear hnext hrg hall hW2 hw ih Hr
          have hd16 : d ≤ 16 := by omega
          go_enter Try.func134, Try.ntmps134
          go_wp2_with fail
          refine H.mono ?_
          clear H
          rintro e w1 ⟨rfl, h4⟩
          go_wp2_with fail
          go_ret
          have hP : Put W2 w1 Bl 3 (.int .i64 (x.walk (d + 1) c').2) := ⟨World.grownBy.trans (World.grownBy.trans hp.grown (hAA.grownBy _)) h4.grown, h4.box⟩
          cases hx : (x.walk (d + 1) c').1 with
          | true =>
            refine .inl ⟨rfl, (x.walk (d + 1) c').2, ?_, hP⟩
            rw [HC.out, walkL, if_pos hx, ← hx]
          | false =>
            obtain ⟨h5, h6⟩ := HB.out hx
            refine .inr ⟨rfl, (x.walk (d + 1) c').2, ?_, h5, by omega, hP⟩
            rw [HA.out, walkL, if_neg (by simp [hx])]
            simp only [walkL]
theorem Put.same {w W w' : World} {b : Nat} {t : TypeId} {v : Value} (h : Same w W) (hp : Put W w' b t v) (hb : w.heap.size ≤ b) : Same w w' := h.grown hp.grown (fun k e => by injection e with e; omega)
set_option maxHeartbeats 1000000 in
theorem large_spec (w : World) (g : Gt) (val : Value) (hg : IsG w g val) :
    Calls Try.prog 107 #[val] w fun e w' => e = .returned (.bool (g.walk 1 256).1) ∧ Same w w' := by
  obtain ⟨v, rfl, hv⟩ := hg
  obtain ⟨W3, hW3⟩ : ∃ W3, (((w.alloc (.cells #[.int .i64 g.p, .int .i64 g.n, v] 24)).alloc (.cells #[.int .i64 256] 3)).alloc (.cells #[.func (.func 132) #[] #[ptr (w.heap.size + 1), ptr (w.heap.size + 1 + 1)]] 141)) = W3 := ⟨_, rfl⟩
  have hS3 : Same w W3 := by rw [← hW3]; exact (((Same.refl w).alloc _).alloc _).alloc _
  have bl : Boxed W3 (w.heap.size + 1) 3 (.int .i64 256) := by
    rw [← hW3]
    have := (Boxed.new (w.alloc (.cells #[.int .i64 g.p, .int .i64 g.n, v] 24)) 3 (.int .i64 256)).alloc (.cells #[.func (.func 132) #[] #[ptr (w.heap.size + 1), ptr (w.heap.size + 1 + 1)]] 141)
    rwa [World.size_alloc] at this
  have bw : Boxed W3 (w.heap.size + 1 + 1) 141 (.func (.func 132) #[] #[ptr (w.heap.size + 1), ptr (w.heap.size + 1 + 1)]) := by
    rw [← hW3]
    have := Boxed.new ((w.alloc (.cells #[.int .i64 g.p, .int .i64 g.n, v] 24)).alloc (.cells #[.int .i64 256] 3)) 141 (.func (.func 132) #[] #[ptr (w.heap.size + 1), ptr (w.heap.size + 1 + 1)])
    rwa [World.size_alloc, World.size_alloc] at this
  have H := large1_all (SizeOf.sizeOf g + 1) g 1 256 w W3 (.agg #[.int .i64 g.p, .int .i64 g.n, v]) (w.heap.size + 1) (w.heap.size + 1 + 1) (by omega) ⟨v, rfl, hv⟩ hS3.keep (by omega) (by omega) bl bw (by omega) (by omega) (by omega) (by omega)
  rw [← hW3] at H hS3
  clear hW3 bl bw
  have e1 := enters_large1
  go_enter Try.func107, Try.ntmps107
  go_wp2_with fail
  refine H.mono ?_
  clear H
  rintro e w1 ⟨rfl, h4⟩
  go_wp2_with fail
  go_ret
  exact ⟨rfl, Put.same hS3 h4 (by omega)⟩
/-- What Check answers. -/
def Gt.check (g : Gt) : Int := if (g.walk 1 256).1 then 2 else if g.right then 0 else 220
set_option maxHeartbeats 1000000 in
theorem check_spec (w : World) (g : Gt) (val : Value) (hg : IsG w g val) :
    Calls Try.prog 66 #[val] w fun e w' => e = .returned (.int .i64 g.check) ∧ Same w w' := by
  have H1 := fun W (h : Same w W) => large_spec W g val (hg.keep h.keep)
  have H2 := fun W (h : Same w W) => right_all (SizeOf.sizeOf g + 1) g W val (by omega) (hg.keep h.keep)
  obtain ⟨v, rfl, hv⟩ := hg
  have hz : Same w (w.alloc (.cells #[.int .i64 g.p, .int .i64 g.n, v] 24)) := (Same.refl w).alloc _
  go_enter Try.func66, Try.ntmps66
  go_wp2_with fail
  refine (H1 _ hz).mono ?_
  clear H1
  rintro e w1 ⟨rfl, h1⟩
  have hS1 := hz.trans h1
  obtain ⟨hc, hf⟩ := h1.cells
  have H3 := H2 w1 hS1
  clear H2
  cases hx : (g.walk 1 256).1 with
  | true =>
    go_wp2_with fail
    go_ret
    exact ⟨ret_int (by simp [Gt.check, hx]), hS1⟩
  | false =>
    go_wp2_with fail
    refine H3.mono ?_
    clear H3
    rintro e w2 ⟨rfl, h2⟩
    cases hy : g.right with
    | true =>
      go_wp2_with fail
      go_ret
      exact ⟨ret_int (by simp [Gt.check, hx, hy]), hS1.trans h2⟩
    | false =>
      go_wp2_with fail
      go_ret
      exact ⟨ret_int (by simp [Gt.check, hx, hy]), hS1.trans h2⟩
end Go.Proofs.Ytmnpbopkhpbhiaa
