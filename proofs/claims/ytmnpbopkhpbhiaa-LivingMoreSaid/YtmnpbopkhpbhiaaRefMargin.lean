/- signatoryref51.Margin. -/
import Derived.Test.YtmnpbopkhpbhiaaRefLiving
set_option linter.unusedVariables false
set_option linter.unusedSimpArgs false
namespace Go.Proofs.Ytmnpbopkhpbhiaa
open Go.RowKit
set_option maxRecDepth 100000
/-- What the reference's Margin answers. -/
def Gt.rMargin (g : Gt) (alive : List Int) : List Int × Bool × Int :=
  if g.rerr51 alive ≠ 0 then ([], false, g.rerr51 alive) else if (g.rHolds alive).1 = false then ([], false, 0) else foundR (allR (both g.rpeople alive)) (fun x => !(g.rHolds (minus (both g.rpeople alive) x)).1)
set_option maxHeartbeats 4000000 in
theorem refMargin_spec (w : World) (g : Gt) (val v : Value) (alive : List Int) (hg : IsG w g val) (hv : Ints w v alive) :
    Calls Try.prog 24 #[val, v] w fun e w' => ∃ v', e = .returned (.tuple #[v', .bool (g.rMargin alive).2.1, .int .i64 (g.rMargin alive).2.2]) ∧ Ints w' v' (g.rMargin alive).1 ∧ Same w w' := by
  obtain ⟨vg, rfl, hat⟩ := hg
  obtain ⟨a, n, c, rfl⟩ := hat.form
  obtain ⟨av, nv, cv, rfl, -⟩ := hv.slice
  obtain ⟨W1, hW1⟩ : ∃ W1, W1 = w.alloc (.cells #[.int .i64 g.p, .int .i64 g.n, .slice a n c] 24) := ⟨_, rfl⟩
  have hS1 : Same w W1 := by rw [hW1]; exact (Same.refl w).alloc _
  have hgb : ∀ W, Same W1 W → _ := fun W h => gbox (w := w) (W := W) (by rw [← hW1]; exact h)
  have hG := fun W (h : Same W1 W) => (⟨_, rfl, hat.keep (hS1.trans h).keep⟩ : IsG W g (.agg #[.int .i64 g.p, .int .i64 g.n, .slice a n c]))
  have HG := Lib.hid hG
  have HV := Lib.hid hv
  have HGB := Lib.hid hgb
  have H1 := rerr51_spec W1 g _ _ alive (hG W1 (Same.refl _)) (hv.keep hS1.keep)
  have hL : g.rMargin alive = if g.rerr51 alive ≠ 0 then ([], false, g.rerr51 alive) else if (g.rHolds alive).1 = false then ([], false, 0) else foundR (allR (both g.rpeople alive)) (fun x => !(g.rHolds (minus (both g.rpeople alive) x)).1) := rfl
  have HL := Lib.hid hL
  have hE : g.rerr51 alive = 0 → g.rerr = 0 := rerr51_rerr
  have HE := Lib.hid hE
  have HW1 := Lib.hid hW1
  rw [hW1] at H1
  clear hW1 hat hv hgb hG hL hE
  generalize hrc : g.rerr51 alive = rc at *
  clear hrc
  go_enter Try.func24, Try.ntmps24
  go_wp2_with fail
  refine H1.mono ?_
  clear H1
  rintro e w2 ⟨rfl, hs2⟩
  rw [← HW1.out] at hs2
  obtain ⟨q0, q1, q2, lt⟩ := HGB.out _ hs2
  by_cases hc : rc = 0
  · subst hc
    have Hp := permits_spec w2 g _ _ alive (HG.out w2 hs2) (HV.out.keep (hS1.trans hs2).keep)
    generalize hpa : (g.rHolds alive).1 = pa at *
    clear hpa
    go_wp2_with fail
    refine Hp.mono ?_
    clear Hp
    rintro e w2' ⟨rfl, hs2'⟩
    have hs2 := hs2.trans hs2'
    clear q0 q1 q2 lt
    obtain ⟨q0, q1, q2, lt⟩ := HGB.out _ hs2
    cases pa with
    | false =>
      go_wp2_with fail
      go_ret3
      have hRES : g.rMargin alive = ([], false, 0) := by rw [HL.out]; simp
      exact ⟨.slice none 0 0, by rw [hRES]; rfl, by rw [hRES]; exact Ints.nil' _ _, hS1.trans hs2⟩
    | true =>
      have hre : g.rerr = 0 := HE.out (by simp)
      have hp12 := rerr_ppl hre
      have H2 := refPeopleOf_spec w2' g _ (HG.out w2' hs2) (by have := ppl_check (rerr_check hre); omega)
      have HP12 := Lib.hid hp12
      clear hre hp12
      go_wp2_with fail
      refine H2.mono ?_
      clear H2
      rintro e w3 ⟨v3, rfl, hi3, hs3⟩
      obtain ⟨a3, n3, c3, rfl, -⟩ := hi3.slice
      have hs3 := hs2.trans hs3
      have H3 := Both_spec w3 _ _ _ alive hi3 (HV.out.keep (hS1.trans hs3).keep)
      clear hi3
      go_wp2_with fail
      refine H3.mono ?_
      clear H3
      rintro e w4 ⟨v4, rfl, hi4, hs4⟩
      obtain ⟨a4, n4, c4, rfl, -⟩ := hi4.slice
      have hs4 := hs3.trans hs4
      have hb12 : (both g.rpeople alive).length ≤ 12 := Nat.le_trans (both_length _ _) HP12.out
      have H4 := all_spec w4 _ _ hi4 hb12
      have HB12 := Lib.hid hb12
      have HOWN := Lib.hid hi4
      clear hi4 hb12
      go_wp2_with fail
      refine H4.mono ?_
      clear H4
      rintro e w5 ⟨v5, us, rfl, ho5, hr5, hs5⟩
      obtain ⟨a5, n5, c5, rfl, rfl⟩ := ho5.slice
      have hs45 := hs5
      have hs5 := hs4.trans hs5
      have hus : us.length ≤ 60000 := by rw [hr5.1]; exact allR_count HB12.out
      have HO := Lib.hid ho5
      have HR := Lib.hid hr5
      clear ho5 hr5
      go_wp2_with fail
      go_loopw [10] (fun i wr => ∃ k : Nat, k ≤ us.length ∧ i = .int .i64 k ∧ Hid (∀ x ∈ (allR (both g.rpeople alive)).take k, (!(g.rHolds (minus (both g.rpeople alive) x)).1) = false) ∧ Same w5 wr) (fun i _ => us.length - (intOf i).toNat)
      case atStart => exact ⟨0, Nat.zero_le _, rfl, Lib.hid (by simp), Same.refl _⟩
      case round =>
        obtain ⟨k, hk, rfl, hno, hS⟩ := hrel
        have hS' := hs5.trans hS
        obtain ⟨q0, q1, q2, lt⟩ := HGB.out _ hS'
        by_cases hlt : k < us.length
        · obtain ⟨a5', c5', e5, _, hcc⟩ := HO.out.cells
          injection e5 with e51 e52 e53
          subst e51 e53
          obtain ⟨ad, ead, hck⟩ := hcc k hlt
          subst ead
          have hkl : k < (allR (both g.rpeople alive)).length := by rw [← HR.out.1]; exact hlt
          obtain ⟨y, hy⟩ : ∃ y, y = (allR (both g.rpeople alive))[k] := ⟨_, rfl⟩
          have hyl : y.length ≤ 13 := allR_len HB12.out (by rw [hy]; exact List.getElem_mem _)
          have hiy : Ints w5 us[k] y := by rw [hy]; exact own_ints (HR.out.2 k hlt hkl) (by rw [← hy]; omega)
          have hckr := hS.keep.cell hck
          have HIY := Lib.hid hiy
          have hnx : (!(g.rHolds (minus (both g.rpeople alive) y)).1) = false → ∀ x ∈ (allR (both g.rpeople alive)).take (k + 1), (!(g.rHolds (minus (both g.rpeople alive) x)).1) = false := by
            intro h x hx
            rw [List.take_succ_eq_append_getElem hkl, List.mem_append, List.mem_singleton, ← hy] at hx
            rcases hx with hx | rfl
            · exact hno.out x hx
            · exact h
          have HNX := Lib.hid hnx
          have hft : (!(g.rHolds (minus (both g.rpeople alive) y)).1) = true → foundR (allR (both g.rpeople alive)) (fun x => !(g.rHolds (minus (both g.rpeople alive) x)).1) = (y, true, 0) := by
            intro h
            rw [hy]
            exact foundR_at hkl hno.out (by rw [← hy]; exact h)
          have HFT := Lib.hid hft
          have Hc := fun W v (hi : Ints W v (minus (both g.rpeople alive) y)) (h : Same w5 W) => permits_spec W g _ v (minus (both g.rpeople alive) y) (HG.out W (hs5.trans h)) hi
          have z8 : (0 : Int) ≤ (k : Int) := by omega
          have z9 : (k : Int) < (us.length : Int) := by omega
          clear hy hkl hyl hck hcc hnx hft hno
          generalize us[k] = uk at *
          obtain ⟨au, nu, cu, rfl, -⟩ := hiy.slice
          clear hiy
          cases hrh : (g.rHolds (minus (both g.rpeople alive) y)).1 with
          | false =>
            have HRH := Lib.hid (HFT.out (by rw [hrh]; rfl))
            rw [hrh] at Hc
            clear hrh HNX HFT
            go_wp2_with fail
            go_region_held3 (fun W => W.cell? ⟨w.heap.size, 0, none⟩ = some (.int .i64 g.p) ∧ W.cell? ⟨w.heap.size, 1, none⟩ = some (.int .i64 g.n) ∧ W.cell? ⟨w.heap.size, 2, none⟩ = some (.slice a n c) ∧ W.cell? (ad.add k) = some (.slice au nu cu) ∧ Same w5 W)
              (((try go_split_ands); refine ⟨?_, ?_, ?_, ?_, ?_⟩ <;> repeat (first | assumption | exact Same.refl _ | apply Same.drew | apply Same.alloc | apply cell_drew | apply cell_alloc)))
              (first
                | ((go_at_call 31; (try go_split_ands); refine (Without_spec _ (.slice a4 n4 c4) _ (both g.rpeople alive) y (HOWN.out.keep (Same.keep (Same.trans hs45 (by repeat (first | assumption | apply Same.drew))))) (HIY.out.keep (Same.keep (by repeat (first | assumption | apply Same.drew))))).mono ?_; rintro e w6 ⟨v6, rfl, hi6, hs6⟩; obtain ⟨a6, n6, c6, rfl, -⟩ := hi6.slice; have hS6 : Same w5 w6 := Same.trans (by repeat (first | assumption | apply Same.drew)) hs6; obtain ⟨r0, r1, r2, lt6⟩ := HGB.out _ (hs5.trans hS6); have r3 := hs6.keep.cell hckr))
                | ((go_at_call 63; (try go_split_ands); refine (Hc _ (.slice a6 n6 c6) (Ints.keep (Same.keep (by repeat (first | exact Same.refl _ | apply Same.drew))) hi6) (by repeat (first | assumption | apply Same.drew))).mono ?_; rintro e w7 ⟨rfl, hs7⟩; have hS7 : Same w5 w7 := Same.trans (by repeat (first | assumption | apply Same.drew)) hs7; obtain ⟨s0, s1, s2, lt7⟩ := HGB.out _ (hs5.trans hS7); have s3 := hs7.keep.cell r3))
                | (fail))
            go_wp2_with fail
            go_ret3
            exact ⟨_, by rw [HL.out, if_neg (by simp), if_neg (by simp), HRH.out]; rfl, by rw [HL.out, if_neg (by simp), if_neg (by simp), HRH.out]; exact HIY.out.keep hS7.keep, hS1.trans (hs5.trans hS7)⟩
          | true =>
            have HRH := Lib.hid (HNX.out (by rw [hrh]; rfl))
            rw [hrh] at Hc
            clear hrh HNX HFT
            go_wp2_with fail
            go_region_held3 (fun W => W.cell? ⟨w.heap.size, 0, none⟩ = some (.int .i64 g.p) ∧ W.cell? ⟨w.heap.size, 1, none⟩ = some (.int .i64 g.n) ∧ W.cell? ⟨w.heap.size, 2, none⟩ = some (.slice a n c) ∧ W.cell? (ad.add k) = some (.slice au nu cu) ∧ Same w5 W)
              (((try go_split_ands); refine ⟨?_, ?_, ?_, ?_, ?_⟩ <;> repeat (first | assumption | exact Same.refl _ | apply Same.drew | apply Same.alloc | apply cell_drew | apply cell_alloc)))
              (first
                | ((go_at_call 31; (try go_split_ands); refine (Without_spec _ (.slice a4 n4 c4) _ (both g.rpeople alive) y (HOWN.out.keep (Same.keep (Same.trans hs45 (by repeat (first | assumption | apply Same.drew))))) (HIY.out.keep (Same.keep (by repeat (first | assumption | apply Same.drew))))).mono ?_; rintro e w6 ⟨v6, rfl, hi6, hs6⟩; obtain ⟨a6, n6, c6, rfl, -⟩ := hi6.slice; have hS6 : Same w5 w6 := Same.trans (by repeat (first | assumption | apply Same.drew)) hs6; obtain ⟨r0, r1, r2, lt6⟩ := HGB.out _ (hs5.trans hS6); have r3 := hs6.keep.cell hckr))
                | ((go_at_call 63; (try go_split_ands); refine (Hc _ (.slice a6 n6 c6) (Ints.keep (Same.keep (by repeat (first | exact Same.refl _ | apply Same.drew))) hi6) (by repeat (first | assumption | apply Same.drew))).mono ?_; rintro e w7 ⟨rfl, hs7⟩; have hS7 : Same w5 w7 := Same.trans (by repeat (first | assumption | apply Same.drew)) hs7; obtain ⟨s0, s1, s2, lt7⟩ := HGB.out _ (hs5.trans hS7); have s3 := hs7.keep.cell r3))
                | (fail))
            go_wp2_with fail
            go_roundw
            case rel => exact ⟨k + 1, by omega, by go_num, HRH, hS7⟩
            case measure => simp [intOf]; omega
        · obtain rfl : k = us.length := by omega
          have hnn : foundR (allR (both g.rpeople alive)) (fun x => !(g.rHolds (minus (both g.rpeople alive) x)).1) = ([], false, 0) := by
            refine foundR_none fun x hx => hno.out x ?_
            rw [List.take_of_length_le (Nat.le_of_eq HR.out.1.symm)]; exact hx
          have HNN := Lib.hid hnn
          clear hnn hno
          go_wp2_with fail
          go_ret3
          exact ⟨.slice none 0 0, by rw [HL.out, if_neg (by simp), if_neg (by simp), HNN.out]; rfl, by rw [HL.out, if_neg (by simp), if_neg (by simp), HNN.out]; exact Ints.nil' _ _, hS1.trans hS'⟩
  · have hb : (rc != 0) = true := by simpa using hc
    have HC := Lib.hid hc
    clear hc
    go_wp2_with fail
    go_ret3
    exact ⟨.slice none 0 0, by rw [HL.out, if_pos HC.out]; rfl, by rw [HL.out, if_pos HC.out]; exact Ints.nil' _ _, hS1.trans hs2⟩
end Go.Proofs.Ytmnpbopkhpbhiaa
