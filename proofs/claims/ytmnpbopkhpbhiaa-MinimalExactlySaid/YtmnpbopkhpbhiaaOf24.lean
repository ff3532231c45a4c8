/- signatorylaw24.of. -/
import Derived.Test.YtmnpbopkhpbhiaaGateRows
import Derived.Test.YtmnpbopkhpbhiaaRecs
set_option linter.unusedVariables false
set_option linter.unusedSimpArgs false
namespace Go.Proofs.Ytmnpbopkhpbhiaa
open Go.RowKit
set_option maxRecDepth 100000
theorem Rec.set3a {w : World} {b : Nat} {t : TypeId} {c0 c1 c2 : Value} (h : Rec w b t #[c0, c1, c2]) (u0 u1 u2 : Value) :
    Rec (((w.setCell ⟨b, 0, none⟩ u0).setCell ⟨b, 1, none⟩ u1).setCell ⟨b, 2, none⟩ u2) b t #[u0, u1, u2] := by
  simpa using ((h.set 0 u0).set 1 u1).set 2 u2
/-- At least n of some people. -/
def ofG (n : Int) (ps : List Int) : Gt := .mk (-1) n (ps.map lf)
set_option maxHeartbeats 4000000 in
theorem of24_spec (w : World) (n : Int) (v : Value) (ps : List Int) (hv : Ints w v ps) (hb : ps.length ≤ 1000) :
    Calls Try.prog 71 #[.int .i64 n, v] w fun e w' => ∃ a m c, e = .returned (.agg #[.int .i64 (-1), .int .i64 n, .slice a m c]) ∧ (ofG n ps).At w' (.slice a m c) ∧ Same w w' := by
  obtain ⟨a, cap, rfl, -, hmax, hc⟩ := hv
  have HC := Lib.hid hc
  obtain ⟨W2, hW2⟩ : ∃ W2, W2 = (w.alloc (.cells #[.int .i64 0, .int .i64 0, .slice none 0 0] 24)).alloc (.cells #[.int .i64 (-1), .int .i64 n, .slice none 0 0] 24) := ⟨_, rfl⟩
  have hS2 : Same w W2 := by rw [hW2]; exact ((Same.refl w).alloc _).alloc _
  have hz2 : W2.heap.size = w.heap.size + 1 + 1 := by rw [hW2]; simp
  have r0 : Rec W2 w.heap.size 24 #[.int .i64 0, .int .i64 0, .slice none 0 0] := by rw [hW2]; exact Rec.same ((Same.refl _).alloc _) (Rec.new w _ _)
  have r1 : Rec W2 (w.heap.size + 1) 24 #[.int .i64 (-1), .int .i64 n, .slice none 0 0] := by
    rw [hW2]; have := Rec.new (w.alloc (.cells #[.int .i64 0, .int .i64 0, .slice none 0 0] 24)) 24 #[.int .i64 (-1), .int .i64 n, .slice none 0 0]
    rw [World.size_alloc] at this; exact this
  have HW2 := Lib.hid hW2
  clear hc hW2
  go_enter Try.func71, Try.ntmps71
  go_wp2_with fail
  rw [← HW2.out]
  go_loopw [12] (fun i wr => ∃ (j : Nat) (ax : Option Addr) (nx cx : Nat), j ≤ ps.length ∧ i = .int .i64 j ∧ Hid (Rec wr w.heap.size 24 #[.int .i64 0, .int .i64 0, .slice none 0 0]) ∧ Hid (Rec wr (w.heap.size + 1) 24 #[.int .i64 (-1), .int .i64 n, .slice ax nx cx]) ∧
    Hid (GOwn wr W2.heap.size (.slice ax nx cx) (leafV (ps.take j))) ∧ Same w wr ∧ W2.heap.size ≤ wr.heap.size) (fun i _ => ps.length - (intOf i).toNat)
  case atStart => exact ⟨0, none, 0, 0, Nat.zero_le _, rfl, Lib.hid r0, Lib.hid r1, Lib.hid (GOwn.nil _ _), hS2, Nat.le_refl _⟩
  case round =>
    obtain ⟨j, ax, nx, cx, hj, rfl, HR0, HR1, HX, hS, hzw⟩ := hrel
    have q0 := HR1.out.cell 0
    have q1 := HR1.out.cell 1
    have q2 := HR1.out.cell 2
    have f0 := HR1.out.frozen 0
    have f1 := HR1.out.frozen 1
    have f2 := HR1.out.frozen 2
    have k0 := HR1.out.lt
    have p0 := HR0.out.cell 0
    have p1 := HR0.out.cell 1
    have p2 := HR0.out.cell 2
    have g0 := HR0.out.frozen 0
    have g1 := HR0.out.frozen 1
    have g2 := HR0.out.frozen 2
    have k1 := HR0.out.lt
    simp at q0 q1 q2 p0 p1 p2
    by_cases hlt : j < ps.length
    · obtain ⟨ad, u, rfl, hu, hr⟩ := HC.out j hlt
      unfold RInt at hr
      subst hr
      have hur := hS.keep.cell hu
      have htk : leafV (ps.take (j + 1)) = leafV (ps.take j) ++ [(ps[j], 0, .slice none 0 0)] := by
        rw [List.take_succ_eq_append_getElem hlt, leafV, List.map_append]; rfl
      have HTK := Lib.hid htk
      have hvl : (leafV (ps.take j)).length ≤ 1000000 := by simp [leafV]; omega
      have HVL := Lib.hid hvl
      clear hu htk hvl p0 p1 p2 g0 g1 g2 k1
      generalize ps[j] = x at *
      have HG := Lib.hid (HX.out.keep ((Same.refl wr).alloc (.cells #[.int .i64 x, .int .i64 0, .slice none 0 0] 24)).keep)
      have hSa : Same wr (wr.alloc (.cells #[.int .i64 x, .int .i64 0, .slice none 0 0] 24)) := (Same.refl wr).alloc _
      have HZ := Lib.hid (Nat.le_trans hzw hSa.size)
      clear hSa
      go_wp2_with (at_builtin; refine wpList_append_gate rfl _ _ rfl HG.out rfl rfl (h_new _ _) rfl HVL.out HZ.out ?_)
      rintro a7 n7 c7 w7 hO7 hG7 hB7
      have hne : ∀ q, q < W2.heap.size → some q ≠ Value.ownBlock (.slice ax nx cx) := fun q hq e => by have := hB7 q e.symm; omega
      have r07 := Rec.grown hG7 (Rec.same ((Same.refl wr).alloc _) HR0.out) (hne _ (by omega))
      have r17 := Rec.grown hG7 (Rec.same ((Same.refl wr).alloc _) HR1.out) (hne _ (by omega))
      have hS7 := Same.grown (hS.alloc (.cells #[.int .i64 x, .int .i64 0, .slice none 0 0] 24)) hG7 (fun q hq => by have := hB7 q hq; omega)
      have q07 := r17.cell 2
      have f07 := r17.frozen 2
      have k07 := r17.lt
      simp at q07
      have HO7 := Lib.hid hO7
      have HR07 := Lib.hid r07
      have HR17 := Lib.hid r17
      have hz7 : W2.heap.size ≤ w7.heap.size := by have := hG7.size; simp at this; omega
      clear hO7 hG7 hB7 r07 r17 hne q0 q1 q2 f0 f1 f2 k0
      go_wp2_with fail
      go_roundw
      case rel => exact ⟨j + 1, a7, n7, c7, by omega, by go_num, Lib.hid (Rec.other HR07.out (p := ⟨w.heap.size + 1, 2, none⟩) (by simp) _), Lib.hid (by have := Rec.set HR17.out 2 (.slice a7 n7 c7); simpa using this), Lib.hid (by rw [HTK.out, hz2]; exact HO7.out.set (p := ⟨w.heap.size + 1, 2, none⟩) (by show w.heap.size + 1 < _; omega) _), hS7.setCell (by show w.heap.size ≤ w.heap.size + 1; omega) _, by simpa [World.setCell] using hz7⟩
      case measure => simp [intOf]; omega
    · obtain rfl : j = ps.length := by omega
      go_wp2_with fail
      have r3 := HR0.out.set3a (.int .i64 (-1)) (.int .i64 n) (.slice ax nx cx)
      have e0 := r3.cell 0
      have e1 := r3.cell 1
      have e2 := r3.cell 2
      simp at e0 e1 e2
      refine bodyPost_ret (v := .agg #[.int .i64 (-1), .int .i64 n, .slice ax nx cx]) (by simp [results, Try.results71, go_sem, e0, e1, e2]) rfl ?_
      have hX := HX.out
      rw [List.take_length] at hX
      have hY := ((hX.set (p := ⟨w.heap.size, 0, none⟩) (by show w.heap.size < _; omega) (.int .i64 (-1))).set (p := ⟨w.heap.size, 1, none⟩) (by show w.heap.size < _; omega) (.int .i64 n)).set (p := ⟨w.heap.size, 2, none⟩) (by show w.heap.size < _; omega) (.slice ax nx cx)
      exact ⟨ax, nx, cx, rfl, (leaf_gs hY (by omega)).at, ((hS.setCell (Nat.le_refl _) _).setCell (Nat.le_refl _) _).setCell (Nat.le_refl _) _⟩
end Go.Proofs.Ytmnpbopkhpbhiaa
