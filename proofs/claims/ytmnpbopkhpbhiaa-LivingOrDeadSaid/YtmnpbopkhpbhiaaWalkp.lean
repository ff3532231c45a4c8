/- living.check's walk: the people of a formula, into a map. -/
import Derived.Test.YtmnpbopkhpbhiaaHoldsFn
set_option linter.unusedVariables false
set_option linter.unusedSimpArgs false
namespace Go.Proofs.Ytmnpbopkhpbhiaa
open Go.RowKit
mutual
/-- The people of a formula, as they come. -/
def Gt.leafs : Gt → List Int
  | .mk p _ l => (if 0 ≤ p then [p] else []) ++ leafsL l
def leafsL : List Gt → List Int
  | [] => []
  | g :: gs => g.leafs ++ leafsL gs
end
theorem leafsL_append : ∀ (a b : List Gt), leafsL (a ++ b) = leafsL a ++ leafsL b
  | [], b => rfl
  | g :: gs, b => by simp [leafsL, leafsL_append gs b]
/-- Keys added one after the other. -/
def addKeys (ks : List Int) (xs : List Int) : List Int := xs.foldl addKey ks
theorem addKeys_append (ks a b : List Int) : addKeys ks (a ++ b) = addKeys (addKeys ks a) b := List.foldl_append
theorem MapSet.grown {w W : World} {m : Nat} {ks : List Int} {val : Value} (h : MapSet w m ks val) {r : Nat} (hg : w.grownBy W (some r)) (hne : m ≠ r) : MapSet W m ks val :=
  ⟨h.1, (hg.block m h.lt (fun e => hne (by injection e))).trans h.2⟩
theorem Boxed.grown {w W : World} {b : Nat} {t : TypeId} {v : Value} (h : Boxed w b t v) {r : Nat} (hg : w.grownBy W (some r)) (hne : b ≠ r) : Boxed W b t v := by
  have := h.lt
  unfold Boxed at h ⊢
  rw [hg.block b this (fun e => hne (by injection e))]; exact h
theorem enters_walkp : ∀ args w, (callFunc 97 args).run Try.prog w = .ok (.enter 97 args) w :=
  enters_of Try.func97 (by kernel_rfl) rfl
set_option maxRecDepth 100000 in
set_option maxHeartbeats 2000000 in
theorem walkp_all (k : Nat) : ∀ (g : Gt) (w0 W : World) (val : Value) (Bm Bb Bw : Nat) (ks : List Int), SizeOf.sizeOf g < k → IsG w0 g val → Keep w0 W → w0.heap.size ≤ Bm → Bm ≠ Bb → Bm ≠ Bw →
    Boxed W Bb 110 (.map (some Bm)) → Boxed W Bw 111 (.func (.func 97) #[] #[ptr Bb, ptr Bw]) → MapSet W Bm ks (.bool true) →
    Calls Try.prog 97 #[val, ptr Bb, ptr Bw] W fun e W' => e = .returned (.tuple #[]) ∧ MapSet W' Bm (addKeys ks g.leafs) (.bool true) ∧ W.grownBy W' (some Bm) := by
  induction k with
  | zero => intro g w0 W val Bm Bb Bw ks hk; omega
  | succ k ih =>
    intro g w0 W val Bm Bb Bw ks hk hg hK hBm hne1 hne2 bb bw hms
    obtain ⟨v, rfl, hv⟩ := hg
    obtain ⟨p, n, l⟩ := g
    obtain ⟨a, cap, rfl, hcap, hmax, hl⟩ := hv.gs
    simp only [Gt.p_mk, Gt.n_mk, Gt.l_mk] at *
    clear hv
    obtain ⟨W1, hW1⟩ : ∃ W1, W1 = W.alloc (.cells #[.int .i64 p, .int .i64 n, .slice a l.length cap] 24) := ⟨_, rfl⟩
    have hS1 : Same W W1 := by rw [hW1]; exact (Same.refl W).alloc _
    have hz1 : W1.heap.size = W.heap.size + 1 := by rw [hW1]; simp
    have hc0 : ∀ W2, W1.grownBy W2 (some Bm) → W2.cell? ⟨W.heap.size, 2, none⟩ = some (.slice a l.length cap) := by
      intro W2 hg
      refine World.grownBy.cell hg (a := ⟨W.heap.size, 2, none⟩) ?_ (by intro e; injection e with e; have := hms.lt; simp at e; omega)
      rw [hW1]
      unfold World.cell?
      rw [World.alloc_heap_new]
      rfl
    have hm1 := hms.keep hS1.keep
    have bb1 := Boxed.same hS1 bb
    have bw1 := Boxed.same hS1 bw
    -- the first step: the person
    have hstep : ∃ W2, (∀ Q : World → Prop, Q W2 → True) ∧ W1.grownBy W2 (some Bm) ∧ MapSet W2 Bm (addKeys ks (if 0 ≤ p then [p] else [])) (.bool true) ∧
        (0 ≤ p → (Instr.mapUpdate 110 (.map (some Bm)) (.int .i64 p) (.bool true)).run Try.prog W1 = .ok () W2) ∧ (¬ 0 ≤ p → W2 = W1) := by
      by_cases hp : 0 ≤ p
      · obtain ⟨w', h1, h2, h3⟩ := run_mapUpdate_set (P := Try.prog) Try.underlying110 Try.underlying3 hm1 p
        exact ⟨w', fun _ _ => trivial, h3, by rw [if_pos hp]; exact h2, fun _ => h1, fun h => absurd hp h⟩
      · exact ⟨W1, fun _ _ => trivial, World.grownBy.refl _ _, by rw [if_neg hp]; exact hm1, fun h => absurd h hp, fun _ => rfl⟩
    obtain ⟨W2, -, hg2, hm2, hyes, hno⟩ := hstep
    have cb1 := bb1.cell
    have lb1 := bb1.lt
    have cW := hc0 W2 hg2
    have HC0 := Lib.hid hc0
    have HIH := Lib.hid ih
    have Hz1 := Lib.hid hz1
    clear hc0 ih hz1
    have e97 := enters_walkp
    have HLE := Lib.hid hl
    have bwlt := bw.lt
    clear hl
    generalize hpl : (if 0 ≤ p then [p] else []) = pl at hm2
    have hleafs : (Gt.mk p n l).leafs = pl ++ leafsL l := by rw [Gt.leafs, hpl]
    have HPL := Lib.hid hleafs
    clear hleafs hpl
    refine Calls.mono (R := fun e W' => e = .returned (.tuple #[]) ∧ MapSet W' Bm (addKeys ks (pl ++ leafsL l)) (.bool true) ∧ W1.grownBy W' (some Bm)) ?_ (fun e W' h => ⟨h.1, by rw [HPL.out]; exact h.2.1, World.grownBy.trans (hS1.grownBy _) h.2.2⟩)
    have hstart : ∃ (T : Array Value), True := ⟨#[], trivial⟩
    by_cases hp : 0 ≤ p
    · have hup := hyes hp
      clear hyes hno
      rw [hW1] at hup
      have HW1 := Lib.hid hW1
      clear hW1 lb1 cb1
      have lb := bb.lt
      have cb := bb.cell
      go_enter Try.func97, Try.ntmps97
      go_wp2_with fail
      go_loopw [15] (fun i wr => ∃ j : Nat, j ≤ l.length ∧ i = .int .i64 j ∧ MapSet wr Bm (addKeys ks (pl ++ leafsL (l.take j))) (.bool true) ∧ W1.grownBy wr (some Bm)) (fun i _ => l.length - (intOf i).toNat)
      case atStart => exact ⟨0, Nat.zero_le _, rfl, by simpa [leafsL] using hm2, hg2⟩
      case round =>
        obtain ⟨j, hj, rfl, hmr, hgr⟩ := hrel
        by_cases hlt : j < l.length
        · obtain ⟨ad, u, rfl, c0, c1, c2, hat⟩ := HLE.out.get j hlt
          rw [Nat.zero_add] at c0 c1 c2
          obtain ⟨au, cu, hu, -, -, -⟩ := hat.gs
          have hKr : Keep w0 wr := keep_grown (hK.trans hS1.keep) hgr hBm
          have d0 := hKr.cell c0
          have d1 := hKr.cell c1
          have d2 := hKr.cell c2
          rw [add_add_pos _ _ _ (by omega)] at d1 d2
          have bbr := Boxed.grown bb1 hgr (Ne.symm hne1)
          have bwr := Boxed.grown bw1 hgr (Ne.symm hne2)
          have hA : Same wr (wr.alloc (.cells #[.int .i64 l[j].p, .int .i64 l[j].n, u] 24)) := (Same.refl wr).alloc _
          have hsz : SizeOf.sizeOf l[j] < k := by
            have := List.sizeOf_lt_of_mem (List.getElem_mem hlt)
            simp only [Gt.mk.sizeOf_spec] at hk
            omega
          have Hc := HIH.out l[j] w0 (wr.alloc (.cells #[.int .i64 l[j].p, .int .i64 l[j].n, u] 24)) (.agg #[.int .i64 l[j].p, .int .i64 l[j].n, u]) Bm Bb Bw _ hsz ⟨u, rfl, hat⟩ (hKr.trans hA.keep) hBm hne1 hne2 (Boxed.same hA bbr) (Boxed.same hA bwr) (hmr.keep hA.keep)
          have htk : leafsL (l.take (j + 1)) = leafsL (l.take j) ++ l[j].leafs := by
            rw [List.take_succ_eq_append_getElem hlt, leafsL_append]
            simp [leafsL]
          have hnext : addKeys ks (pl ++ leafsL (l.take (j + 1))) = addKeys (addKeys ks (pl ++ leafsL (l.take j))) l[j].leafs := by
            rw [htk, ← List.append_assoc, addKeys_append]
          have HN := Lib.hid hnext
          have cw := bwr.cell
          have lw := bwr.lt
          clear c0 c1 c2 hat htk hnext
          generalize hlu : l[j].l.length = lu at hu
          subst hu
          have HLU := Lib.hid hlu
          clear hlu
          go_wp2_with fail
          refine Hc.mono ?_
          clear Hc
          rintro e w2 ⟨rfl, hm3, hg3⟩
          go_wp2_with fail
          go_roundw
          case rel => exact ⟨j + 1, by omega, by go_num, by rw [HN.out]; exact hm3, World.grownBy.trans hgr (World.grownBy.trans (hA.grownBy _) hg3)⟩
          case measure => simp [intOf]; omega
        · obtain rfl : j = l.length := by omega
          rw [List.take_length] at hmr
          go_wp2_with fail
          go_end0
          exact ⟨rfl, hmr, hgr⟩
    · have hno := hno hp
      clear hyes
      have HW1 := Lib.hid hW1
      have HNO := Lib.hid hno
      have lb := bb.lt
      have cb := bb.cell
      clear hW1 lb1 cb1 cW hno
      go_enter Try.func97, Try.ntmps97
      go_wp2_with fail
      rw [← HW1.out, ← HNO.out]
      go_loopw [15] (fun i wr => ∃ j : Nat, j ≤ l.length ∧ i = .int .i64 j ∧ MapSet wr Bm (addKeys ks (pl ++ leafsL (l.take j))) (.bool true) ∧ W1.grownBy wr (some Bm)) (fun i _ => l.length - (intOf i).toNat)
      case atStart => exact ⟨0, Nat.zero_le _, rfl, by simpa [leafsL] using hm2, hg2⟩
      case round =>
        obtain ⟨j, hj, rfl, hmr, hgr⟩ := hrel
        by_cases hlt : j < l.length
        · obtain ⟨ad, u, rfl, c0, c1, c2, hat⟩ := HLE.out.get j hlt
          rw [Nat.zero_add] at c0 c1 c2
          obtain ⟨au, cu, hu, -, -, -⟩ := hat.gs
          have hKr : Keep w0 wr := keep_grown (hK.trans hS1.keep) hgr hBm
          have d0 := hKr.cell c0
          have d1 := hKr.cell c1
          have d2 := hKr.cell c2
          rw [add_add_pos _ _ _ (by omega)] at d1 d2
          have bbr := Boxed.grown bb1 hgr (Ne.symm hne1)
          have bwr := Boxed.grown bw1 hgr (Ne.symm hne2)
          have hA : Same wr (wr.alloc (.cells #[.int .i64 l[j].p, .int .i64 l[j].n, u] 24)) := (Same.refl wr).alloc _
          have hsz : SizeOf.sizeOf l[j] < k := by
            have := List.sizeOf_lt_of_mem (List.getElem_mem hlt)
            simp only [Gt.mk.sizeOf_spec] at hk
            omega
          have Hc := HIH.out l[j] w0 (wr.alloc (.cells #[.int .i64 l[j].p, .int .i64 l[j].n, u] 24)) (.agg #[.int .i64 l[j].p, .int .i64 l[j].n, u]) Bm Bb Bw _ hsz ⟨u, rfl, hat⟩ (hKr.trans hA.keep) hBm hne1 hne2 (Boxed.same hA bbr) (Boxed.same hA bwr) (hmr.keep hA.keep)
          have htk : leafsL (l.take (j + 1)) = leafsL (l.take j) ++ l[j].leafs := by
            rw [List.take_succ_eq_append_getElem hlt, leafsL_append]
            simp [leafsL]
          have hnext : addKeys ks (pl ++ leafsL (l.take (j + 1))) = addKeys (addKeys ks (pl ++ leafsL (l.take j))) l[j].leafs := by
            rw [htk, ← List.append_assoc, addKeys_append]
          have HN := Lib.hid hnext
          have cw := bwr.cell
          have lw := bwr.lt
          clear c0 c1 c2 hat htk hnext
          generalize hlu : l[j].l.length = lu at hu
          subst hu
          have HLU := Lib.hid hlu
          clear hlu
          go_wp2_with fail
          refine Hc.mono ?_
          clear Hc
          rintro e w2 ⟨rfl, hm3, hg3⟩
          go_wp2_with fail
          go_roundw
          case rel => exact ⟨j + 1, by omega, by go_num, by rw [HN.out]; exact hm3, World.grownBy.trans hgr (World.grownBy.trans (hA.grownBy _) hg3)⟩
          case measure => simp [intOf]; omega
        · obtain rfl : j = l.length := by omega
          rw [List.take_length] at hmr
          go_wp2_with fail
          go_end0
          exact ⟨rfl, hmr, hgr⟩
end Go.Proofs.Ytmnpbopkhpbhiaa
