/- signatoryref24.choose. -/
import Derived.Test.YtmnpbopkhpbhiaaOwnRows
set_option linter.unusedVariables false
set_option linter.unusedSimpArgs false
namespace Go.Proofs.Ytmnpbopkhpbhiaa
open Go.RowKit
set_option maxRecDepth 100000
/-- All lists with so many of some people, in order. -/
def chooseL : Nat → List Int → List (List Int)
  | 0, _ => [[]]
  | _ + 1, [] => []
  | m + 1, x :: xs => (chooseL m xs).map (x :: ·) ++ chooseL (m + 1) xs
theorem chooseL_short : ∀ (m : Nat) (xs : List Int), xs.length < m → chooseL m xs = []
  | 0, _, h => by simp at h
  | m + 1, [], _ => rfl
  | m + 1, x :: xs, h => by
    rw [chooseL, chooseL_short m xs (by simp at h; omega), chooseL_short (m + 1) xs (by simp at h; omega)]
    rfl
theorem chooseL_count : ∀ (xs : List Int) (m : Nat), (chooseL m xs).length ≤ 2 ^ xs.length
  | [], 0 => by simp [chooseL]
  | [], m + 1 => by simp [chooseL]
  | x :: xs, 0 => by simp [chooseL]; exact Nat.one_le_two_pow
  | x :: xs, m + 1 => by
    have h1 := chooseL_count xs m
    have h2 := chooseL_count xs (m + 1)
    simp only [chooseL, List.length_append, List.length_map, List.length_cons, Nat.pow_succ]
    omega
theorem chooseL_len : ∀ (xs : List Int) (m : Nat) (y : List Int), y ∈ chooseL m xs → y.length = m
  | _, 0, y, h => by simp [chooseL] at h; simp [h]
  | [], m + 1, y, h => by simp [chooseL] at h
  | x :: xs, m + 1, y, h => by
    simp only [chooseL, List.mem_append, List.mem_map] at h
    rcases h with ⟨z, hz, rfl⟩ | h
    · simp [chooseL_len xs m z hz]
    · exact chooseL_len xs (m + 1) y h
theorem count12 {xs : List Int} (h : xs.length ≤ 12) (m : Nat) : (chooseL m xs).length ≤ 4096 :=
  Nat.le_trans (chooseL_count xs m) (Nat.pow_le_pow_right (by omega) h : 2 ^ xs.length ≤ 2 ^ 12)
theorem add_succ (ad : Addr) (j : Nat) : ad.add (j + 1) = ⟨ad.block, ad.off + (j + 1), none⟩ := by unfold Addr.add; simp
set_option maxHeartbeats 4000000 in
theorem choose_all (k : Nat) : ∀ (many : Nat) (w : World) (v : Value) (xs : List Int), many < k → Ints w v xs → xs.length ≤ 12 → many ≤ 100 →
    Calls Try.prog 105 #[v, .int .i64 many] w fun e w' => ∃ v' us, e = .returned v' ∧ Own w' w.heap.size 25 v' us ∧ Rows w' w.heap.size us (chooseL many xs) ∧ Same w w' := by
  induction k with
  | zero => intro many w v xs hk; omega
  | succ k ih =>
    intro many w v xs hk hx hlen hm
    cases many with
    | zero =>
      obtain ⟨a, n, c, rfl, -⟩ := hx.slice
      go_enter Try.func105, Try.ntmps105
      go_wp2_with fail
      go_ret
      have h0 : ((w.alloc (.cells #[] 3)).alloc (.cells #[.slice (some ⟨w.heap.size, 0, none⟩) 0 0] 25)).heap[w.heap.size]? = some (.cells #[] 3 (0, 0)) := h_old (h_new _ _) _
      exact ⟨_, [.slice (some ⟨w.heap.size, 0, none⟩) 0 0], rfl, own_one (h_new' _ (by simp)) (Nat.le_succ _), by rw [show chooseL 0 xs = [[]] from by simp [chooseL]]; exact Rows.one (x := []) (own_zero h0 (Nat.le_refl _)), ((Same.refl w).alloc _).alloc _⟩
    | succ m =>
      obtain ⟨a, nx, cap, rfl, hnx⟩ := hx.slice
      have HX := Lib.hid hx
      obtain ⟨_, _, e', hcap, -, hc⟩ := hx
      injection e' with e1 e2 e3
      subst e1 e2 e3
      clear hnx
      have HC := Lib.hid hc
      have HIH := Lib.hid ih
      obtain ⟨M, hM⟩ : ∃ M : Int, M = ((m + 1 : Nat) : Int) := ⟨_, rfl⟩
      have hM1 : M - 1 = (m : Int) := by omega
      have hz : (M == 0) = false := by simp; omega
      have hMa : M ≤ (m : Int) + 1 := by omega
      have hMb : (m : Int) + 1 ≤ M := by omega
      rw [← hM]
      have HM1 := Lib.hid hM1
      clear hc ih hM hM1
      go_enter Try.func105, Try.ntmps105
      go_wp2_with fail
      go_loopw [5, 6] (fun u i wr => ∃ (j : Nat) (ax : Option Addr) (nx cx : Nat) (us : List Value) (acc : List (List Int)), j ≤ xs.length + 1 ∧ i = .int .i64 j ∧ u = .slice ax nx cx ∧ Hid (Own wr w.heap.size 25 (.slice ax nx cx) us ∧ Rows wr w.heap.size us acc ∧ acc ++ chooseL (m + 1) (xs.drop j) = chooseL (m + 1) xs) ∧ Same w wr) (fun _ i _ => xs.length + 1 - (intOf i).toNat)
      case atStart => exact ⟨0, _, _, _, [], [], by omega, rfl, rfl, Lib.hid ⟨own_zero (h_new _ _) (Nat.le_refl _), Rows.nil _ _, by simp⟩, (Same.refl w).alloc _⟩
      case round =>
        obtain ⟨j, ax, nx, cx, us, acc, hj, rfl, rfl, HI, hS⟩ := hrel
        by_cases hlt : j + (m + 1) ≤ xs.length
        · have hj1 : j < xs.length := by omega
          obtain ⟨ad, u, rfl, hu, hr⟩ := HC.out j hj1
          unfold RInt at hr
          subst hr
          obtain ⟨vd, hvd⟩ : ∃ vd : Value, vd = .slice (if cap = j + 1 then some ad else some (ad.add (j + 1))) (xs.length - (j + 1)) (cap - (j + 1)) := ⟨_, rfl⟩
          have hid : Ints wr vd (xs.drop (j + 1)) := by
            have h := (HX.out.keep hS.keep).drop (j + 1) (by omega)
            rw [hvd]
            by_cases hcj : cap = j + 1
            · rw [if_pos hcj, List.drop_eq_nil_of_le (by omega), show xs.length - (j + 1) = 0 from by omega]
              exact Ints.nil_of 0 rfl
            · rw [if_neg hcj]; exact h
          have H := HIH.out m wr vd (xs.drop (j + 1)) (by omega) hid (by rw [List.length_drop]; omega) (by omega)
          rw [← HM1.out] at H
          have hux := hS.keep.cell hu
          have z0 : (0 : Int) ≤ (j : Int) + 1 := by omega
          have z1 : (j : Int) + 1 ≤ (xs.length : Int) := by omega
          have z2 : (xs.length : Int) ≤ (cap : Int) := by omega
          have z3 : (j : Int) + 1 ≤ (cap : Int) := by omega
          clear hid hu
          rw [hvd] at H
          clear hvd
          have HROW := Lib.hid (show ∃ r, r = Value.ownBlock (.slice ax nx cx) from ⟨_, rfl⟩)
          by_cases hcj : cap = j + 1
          case' pos =>
            subst hcj
            rw [if_pos rfl, Nat.sub_self, show xs.length - (j + 1) = 0 from by omega] at H
          case' neg => rw [if_neg hcj, add_succ] at H
          all_goals
            go_wp2_with fail
            ((with_reducible refine H.mono ?_))
            clear H
            rintro e W2 ⟨vr, ur, rfl, hor, hrr, hs2⟩
            obtain ⟨ar, nr, cr, rfl, hnr⟩ := hor.slice
            obtain ⟨row, hrow⟩ := HROW.out
            have hS2 := hS.trans hs2
            have hI2 : Own W2 w.heap.size 25 (.slice ax nx cx) us ∧ Rows W2 w.heap.size us acc := ⟨own_keep hs2.keep HI.out.1, HI.out.2.1.keep hs2.keep⟩
            have hsep : ∀ b, Value.ownBlock (.slice ar nr cr) = some b → row ≠ some b := fun b hb e => by
              rw [hrow] at e
              have h1 := (own_base hor hb).1
              have h2 := (own_base HI.out.1 e).2
              omega
            have hrl : ur.length ≤ 4096 := by rw [hrr.1]; exact count12 (by rw [List.length_drop]; omega) m
            have hal : us.length ≤ 4096 := by
              have h := congrArg List.length HI.out.2.2
              rw [List.length_append, ← HI.out.2.1.1] at h
              have := count12 hlen (m + 1)
              omega
            have HO := Lib.hid hor
            have HRR := Lib.hid hrr
            have HI2 := Lib.hid hI2
            have HSEP := Lib.hid hsep
            have HRW := Lib.hid hrow
            clear hor hrr hI2 hsep hrow HROW hux
            go_wp2_with fail
            obtain ⟨wo, rfl⟩ : ∃ wo : World, wo = wr := ⟨_, rfl⟩
            go_loopw [5, 8] (fun u i w3 => ∃ (q : Nat) (ay : Option Addr) (ny cy : Nat) (us2 : List Value), q ≤ nr ∧ i = .int .i64 q ∧ u = .slice ay ny cy ∧
                Hid (Own w3 w.heap.size 25 (.slice ay ny cy) us2 ∧ Rows w3 w.heap.size us2 (acc ++ ((chooseL m (xs.drop (j + 1))).take q).map (xs[j] :: ·)) ∧ W2.grownBy w3 row ∧ (Value.ownBlock (.slice ay ny cy) = row ∨ ∃ b, Value.ownBlock (.slice ay ny cy) = some b ∧ W2.heap.size ≤ b)) ∧ Same w w3) (fun _ i _ => nr - (intOf i).toNat)
            case atStart => exact ⟨0, ax, nx, cx, us, Nat.zero_le _, rfl, rfl, Lib.hid ⟨HI2.out.1, by simpa using HI2.out.2, World.grownBy.refl _ _, .inl HRW.out.symm⟩, hS2⟩
            case round =>
              obtain ⟨q, ay, ny, cy, us2, hq, rfl, rfl, HJ, hS3⟩ := hrel
              by_cases hqr : q < nr
              · obtain ⟨ar', cr', er, _, hcr⟩ := HO.out.cells
                injection er with e1 e2 e3
                subst e1 e3
                have hqu : q < ur.length := by omega
                obtain ⟨adr, eadr, hcq⟩ := hcr q hqu
                subst eadr
                obtain ⟨uq, huq⟩ : ∃ uq, uq = ur[q] := ⟨_, rfl⟩
                rw [← huq] at hcq
                have hqc : q < (chooseL m (xs.drop (j + 1))).length := by have := HRR.out.1; omega
                obtain ⟨y, hy⟩ : ∃ y, y = (chooseL m (xs.drop (j + 1)))[q] := ⟨_, rfl⟩
                have hoq : Own W2 wo.heap.size 3 uq (intVs y) := by rw [huq, hy]; exact HRR.out.2 q hqu hqc
                have hbq : adr.block < W2.heap.size := by
                  rcases HO.out.2 with ⟨h, _⟩ | ⟨g, _, _, h, _, hh, _⟩
                  · cases h
                  · injection h with h1 h2 h3
                    injection h1 with h1
                    rw [h1]
                    exact (Array.getElem?_eq_some_iff.1 hh).1
                have hne : some adr.block ≠ row := fun e => HSEP.out adr.block rfl e.symm
                have hab : (adr.add q).block = adr.block := by unfold Addr.add; split <;> rfl
                have hq3 : wr.cell? (adr.add q) = some uq := by rw [HJ.out.2.2.1.cell_far _ (by rw [hab]; exact hbq) (by rw [hab]; exact hne)]; exact hcq
                have hneo : some (adr.add q).block ≠ Value.ownBlock (.slice ay ny cy) := by
                  rw [hab]
                  rcases HJ.out.2.2.2 with h | ⟨b, h, hb⟩
                  · rw [h]; exact hne
                  · rw [h]; intro e; injection e with e; omega
                have hlt3 : (adr.add q).block < wr.heap.size := by rw [hab]; exact Nat.lt_of_lt_of_le hbq HJ.out.2.2.1.size
                have hoq3 : Own wr wo.heap.size 3 uq (intVs y) := by
                  refine own_other (w := W2) (base' := w.heap.size) (v := .slice ax nx cx) hoq (us := us) HI2.out.1 int_ne ?_
                  rw [← HRW.out]; exact HJ.out.2.2.1
                obtain ⟨_, _, e7, hux0⟩ := HC.out j hj1
                injection e7 with e7
                subst e7
                obtain ⟨hu0, hr0⟩ := hux0
                unfold RInt at hr0
                subst hr0
                have hx3 := hS3.keep.cell hu0
                have hyl : y.length ≤ 12 := by
                  have := chooseL_len (xs.drop (j + 1)) m y (by rw [hy]; exact List.getElem_mem _)
                  omega
                have hus2 : us2.length ≤ 8192 := by
                  have h := HJ.out.2.1.1
                  rw [List.length_append, List.length_map, List.length_take, ← HI.out.2.1.1] at h
                  have := HRR.out.1
                  omega
                have htk : ((chooseL m (xs.drop (j + 1))).take (q + 1)).map (xs[j] :: ·) = ((chooseL m (xs.drop (j + 1))).take q).map (xs[j] :: ·) ++ [xs[j] :: y] := by
                  rw [List.take_succ_eq_append_getElem hqc, List.map_append, hy]; rfl
                have HTK := Lib.hid htk
                have HOQ := Lib.hid hoq3.cells
                have HU0 := Lib.hid hu0
                have HNEO := Lib.hid hneo
                have HNE := Lib.hid hne
                have z8 : (0 : Int) ≤ (q : Int) := by omega
                have z9 : (q : Int) < (ur.length : Int) := by omega
                clear hoq hoq3 hbq hab hcq huq hy hqc htk hneo hu0 hne
                generalize xs[j] = xj at *
                go_wp2_with fail
                go_region_held3 (fun W => W.cell? (ad.add j) = some (.int .i64 xj) ∧ W.cell? (adr.add q) = some uq ∧ Same w W)
                  (((try go_split_ands); refine ⟨?_, ?_, ?_⟩ <;> repeat (first | assumption | exact Same.refl _ | apply Same.drew | apply Same.alloc | apply cell_drew | apply cell_alloc)))
                  (first
                    | ((refine step_append_src (base := wr.heap.size) (by rfl) (.tmp 40) (.tmp 44) 25 (by rfl) Try.underlying25 info_int (by rfl) (own_one (b := wr.heap.size) (u := .int .i64 xj) (by exact h_new' _ (by first | rfl | (simp; done))) (Nat.le_refl _)) (by rfl) (HOQ.out.keep (Same.keep (by repeat (first | assumption | exact Same.refl _ | apply Same.drew | apply Same.alloc)))) (by rfl) (one_ints _) (by (simp [intVs_len]; omega)) (by decide) (Same.size (by repeat (first | assumption | exact Same.refl _ | apply Same.drew | apply Same.alloc))) ?_; intro a5 n5 c5 w5 hO5 hG5 hB5 hW5; have hS5 : Same wr w5 := Same.grown (by repeat (first | assumption | exact Same.refl _ | apply Same.drew | apply Same.alloc)) hG5 hB5; have hx5 := hS5.keep.cell hx3; have hq5 := hS5.keep.cell hq3; have hS5' := hS3.trans hS5))
                    | ((refine step_append_src (base := w.heap.size) (by rfl) (.tmp 35) (.tmp 46) 40 (by rfl) Try.underlying40 info_ints (by rfl) (own_keep (w := wr) (Same.keep (by repeat (first | assumption | exact Same.refl _ | apply Same.drew | apply Same.alloc))) HJ.out.1) (by rfl) (cells_one (u := .slice a5 n5 c5) (by exact h_new' _ (by first | rfl | (simp; done)))) (by rfl) (by (simp [Value.oneCell']; done)) (by (simp; omega)) (by decide) (Same.size (a := w) (by repeat (first | assumption | exact Same.refl _ | apply Same.drew | apply Same.alloc))) ?_; intro a7 n7 c7 w7 hO7 hG7 hB7 hW7; have hS7 : Same w w7 := Same.grown (by repeat (first | assumption | exact Same.refl _ | apply Same.drew | apply Same.alloc)) hG7 hB7; have hx7 := hS7.keep.cell HU0.out; have hq7 : w7.cell? (adr.add q) = some uq := (hG7.cell_far _ (Nat.lt_of_lt_of_le hlt3 (Same.size (by repeat (first | assumption | exact Same.refl _ | apply Same.drew | apply Same.alloc)))) HNEO.out).trans (by repeat (first | assumption | apply cell_drew | apply cell_alloc))))
                    | (fail))
                have hR7 := app_rows (x := xj :: y) hS5 ((Same.refl _).alloc _) HJ.out.1 HJ.out.2.1 hS3.size hO5 hG7
                have hg7 := grown_row (World.grownBy.trans HJ.out.2.2.1 (Same.grownBy (hS5.alloc _) row)) HJ.out.2.2.2 hG7
                have hat7 := grown_at (World.grownBy.trans HJ.out.2.2.1 (Same.grownBy (hS5.alloc _) row)) HJ.out.2.2.2 hW7
                rw [List.append_assoc, ← HTK.out] at hR7
                have HR7 := Lib.hid hR7
                have HO7 := Lib.hid hO7
                have HG7 := Lib.hid hg7
                have HAT := Lib.hid hat7
                clear hR7 hO7 hg7 hat7 hG7 hB7 hW7 hO5 hG5 hB5 hW5 hx5 hq5 hx7 hq7 hq3 hx3
                go_wp2_with fail
                go_roundw
                case rel => exact ⟨q + 1, a7, n7, c7, _, by omega, by go_num, rfl, Lib.hid ⟨HO7.out, HR7.out, HG7.out, HAT.out⟩, hS7⟩
                case measure => simp [intOf]; omega
              · obtain rfl : q = nr := by omega
                have hfin : acc ++ ((chooseL m (xs.drop (j + 1))).take q).map (xs[j] :: ·) ++ chooseL (m + 1) (xs.drop (j + 1)) = chooseL (m + 1) xs := by
                  have h := HI.out.2.2
                  rw [← List.getElem_cons_drop hj1, chooseL] at h
                  rw [hnr, HRR.out.1, List.take_length]
                  rw [← h, List.append_assoc]
                have HF := Lib.hid hfin
                clear hfin
                go_wp2_with fail
                go_roundw
                case rel => exact ⟨j + 1, ay, ny, cy, us2, _, by omega, by go_num, rfl, Lib.hid ⟨HJ.out.1, HJ.out.2.1, HF.out⟩, hS3⟩
                case measure => simp [intOf]; omega
        · have hend : acc = chooseL (m + 1) xs := by
            have h := HI.out.2.2
            rw [chooseL_short (m + 1) (xs.drop j) (by rw [List.length_drop]; omega), List.append_nil] at h
            exact h
          have HE := Lib.hid hend
          clear hend
          go_wp2_with fail
          go_ret
          exact ⟨_, us, rfl, HI.out.1, by rw [← HE.out]; exact HI.out.2.1, hS⟩
end Go.Proofs.Ytmnpbopkhpbhiaa
