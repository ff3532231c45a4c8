/- minimal.Agree. -/
import Derived.Test.YtmnpbopkhpbhiaaMinQsets
set_option linter.unusedVariables false
set_option linter.unusedSimpArgs false
namespace Go.Proofs.Ytmnpbopkhpbhiaa
open Go.RowKit
set_option maxRecDepth 100000
/-- What Agree answers. -/
def Gt.agr (g : Gt) (l m : List (List Int)) : Bool := if g.rerr ≠ 0 then false else agreeB g.rpeople g.holds g.hB l m
def coverB (ps : List Int) (l m : List (List Int)) (s : Nat) : Bool := someB l (selI ps s) || someB m (minus ps (selI ps s))
theorem cover_all {ps : List Int} (l m : List (List Int)) (h : ∀ s, s < 2 ^ ps.length → coverB ps l m s = true) : ((allR ps).all fun s => someB l s || someB m (minus ps s)) = true := by
  rw [List.all_eq_true]
  intro x hx
  obtain ⟨s, hs, rfl⟩ := selI_surj ps x ((allR_mem _ _).1 hx)
  exact h s hs
theorem cover_not {ps : List Int} (l m : List (List Int)) (s : Nat) (h : coverB ps l m s = false) : ((allR ps).all fun s => someB l s || someB m (minus ps s)) = false := by
  rw [List.all_eq_false]
  exact ⟨selI ps s, (allR_mem _ _).2 (selI_sub _ _), by unfold coverB at h; rw [h]; simp⟩
theorem rpeople_pos {g : Gt} (h : g.rcheck = 0) : ∀ p ∈ g.rpeople, 0 ≤ p := fun p hp => (ppl_range g (rcheck_right h) p ((rpeople_mem g p).1 hp)).1
set_option maxHeartbeats 8000000 in
theorem Agree_spec (w : World) (g : Gt) (val vl vm : Value) (l m : List (List Int)) (hg : IsG w g val) (hl : Intss w vl l) (hm : Intss w vm m) :
    Calls Try.prog 42 #[val, vl, vm] w fun e w' => e = .returned (.tuple #[.bool (g.agr l m), .int .i64 g.rerr]) ∧ Same w w' := by
  obtain ⟨vg, rfl, hat⟩ := hg
  obtain ⟨a, n, c, rfl⟩ := hat.form
  have HVL := Lib.hid hl
  have HVM := Lib.hid hm
  obtain ⟨al, cl, rfl, -, hlm, -⟩ := hl
  obtain ⟨am, cm, rfl, -, hmm, -⟩ := hm
  obtain ⟨W1, hW1⟩ : ∃ W1, W1 = w.alloc (.cells #[.int .i64 g.p, .int .i64 g.n, .slice a n c] 24) := ⟨_, rfl⟩
  have hS1 : Same w W1 := by rw [hW1]; exact (Same.refl w).alloc _
  have H1 := ask_spec W1 g _ (⟨_, rfl, hat.keep hS1.keep⟩ : IsG W1 g (.agg #[.int .i64 g.p, .int .i64 g.n, .slice a n c]))
  have hA : g.agr l m = if g.rerr ≠ 0 then false else agreeB g.rpeople g.holds g.hB l m := rfl
  have HA := Lib.hid hA
  have hRE : g.rerr = 0 → g.rcheck = 0 ∧ g.rpeople.length ≤ 12 := fun h => ⟨rerr_check h, rerr_ppl h⟩
  have HRE := Lib.hid hRE
  have HW1 := Lib.hid hW1
  rw [hW1] at H1
  clear hW1 hat hA hRE
  generalize hrc : g.rerr = rc at *
  clear hrc
  go_enter Try.func42, Try.ntmps42
  go_wp2_with fail
  refine H1.mono ?_
  clear H1
  rintro e w2 ⟨q, rfl, ⟨aq, nq, cq, uq, fq, rfl, hfq⟩, hq, hs2⟩
  rw [← HW1.out] at hs2
  have HQ := Lib.hid hq
  clear hq
  by_cases hc : rc = 0
  · subst hc
    have hq := HQ.out rfl
    obtain ⟨hck, hp12⟩ := HRE.out rfl
    obtain ⟨kf, fst, lb, rfl⟩ := hq.fine.form
    obtain ⟨w3, hw3⟩ : ∃ w3, w3 = w2.alloc (.cells #[.slice aq nq cq, .int .u64 uq, .func (.func kf) fst lb] 87) := ⟨_, rfl⟩
    have hs3 : Same w2 w3 := by rw [hw3]; exact (Same.refl w2).alloc _
    have r3 : Rec w3 w2.heap.size 87 #[.slice aq nq cq, .int .u64 uq, .func (.func kf) fst lb] := by rw [hw3]; exact Rec.new w2 _ _
    have hS3 := (hS1.trans hs2).trans hs3
    have hq3 := hq.keep hs3.keep
    have hsort := rpeople_sorted g
    have HC1 := qsets_spec w3 g.rpeople g.qF g.qF g.holds _ _ _ l hq3 hsort (rpeople_pos hck) (HVL.out.keep hS3.keep) hq3.fine (fun s _ => rfl)
    have hu : uq = ((2 ^ g.rpeople.length - 1 : Nat) : Int) := by obtain ⟨_, _, _, e, -⟩ := hq; simp at e; exact e.2.1
    have HU := Lib.hid hu
    have HQ3 := Lib.hid hq3
    have HR3 := Lib.hid r3
    have HW3 := Lib.hid hw3
    have HP12 := Lib.hid hp12
    have HCK := Lib.hid hck
    have HSR := Lib.hid hsort
    rw [hw3] at HC1
    clear hq hq3 r3 hw3 hp12 hck hsort hu hfq
    have hAG : agreeB g.rpeople g.holds g.hB l m = (okFrom g.rpeople g.holds [] l && (okFrom g.rpeople g.hB [] m && (allR g.rpeople).all fun s => someB l s || someB m (minus g.rpeople s))) := rfl
    have HAG := Lib.hid hAG
    clear hAG
    cases hk1 : okFrom g.rpeople g.holds [] l with
    | false =>
      rw [hk1] at HC1
      have hres : g.agr l m = false := by rw [HA.out, if_neg (by simp), HAG.out, hk1]; rfl
      have HRES := Lib.hid hres
      clear hres hk1
      go_wp2_with fail
      refine HC1.mono ?_
      clear HC1
      rintro e w4 ⟨v4, rfl, ⟨a4, n4, c4, rfl⟩, -, hs4⟩
      rw [← HW3.out] at hs4
      go_wp2_with fail
      go_ret2
      exact ⟨by rw [HRES.out]; rfl, hS3.trans hs4⟩
    | true =>
      rw [hk1] at HC1
      have HK1 := Lib.hid hk1
      clear hk1
      go_wp2_with fail
      refine HC1.mono ?_
      clear HC1
      rintro e w4 ⟨v4, rfl, ⟨a4, n4, c4, rfl⟩, hset1, hs4⟩
      rw [← HW3.out] at hs4
      have HSET1 := Lib.hid (hset1 rfl)
      have r4 := Rec.same hs4 HR3.out
      have q0 := r4.cell 0
      have q1 := r4.cell 1
      have q2 := r4.cell 2
      have k0 := r4.lt
      simp at q0 q1 q2
      have hq4 := HQ3.out.keep hs4.keep
      have HC2 := qsets_spec w4 g.rpeople g.qF (fun s => !g.qF (2 ^ g.rpeople.length - 1 - s)) g.hB _ _ _ m hq4 HSR.out (rpeople_pos HCK.out) (HVM.out.keep (hS3.trans hs4).keep) hq4.fineB (fun s hs => by simp only [Gt.qF, Gt.hB]; rw [selI_but _ HSR.out s hs])
      have HR4 := Lib.hid r4
      clear hset1 r4 hq4
      cases hk2 : okFrom g.rpeople g.hB [] m with
      | false =>
        rw [hk2] at HC2
        have hres : g.agr l m = false := by rw [HA.out, if_neg (by simp), HAG.out, hk2, Bool.false_and, Bool.and_false]
        have HRES := Lib.hid hres
        clear hres hk2
        go_wp2_with fail
        refine HC2.mono ?_
        clear HC2
        rintro e w5 ⟨v5, rfl, ⟨a5, n5, c5, rfl⟩, -, hs5⟩
        go_wp2_with fail
        go_ret2
        exact ⟨by rw [HRES.out]; rfl, hS3.trans (hs4.trans hs5)⟩
      | true =>
        rw [hk2] at HC2
        have hres : g.agr l m = (allR g.rpeople).all fun s => someB l s || someB m (minus g.rpeople s) := by rw [HA.out, if_neg (by simp), HAG.out, HK1.out, hk2, Bool.true_and, Bool.true_and]
        have HRES := Lib.hid hres
        clear hres hk2
        go_wp2_with fail
        refine HC2.mono ?_
        clear HC2
        rintro e w5 ⟨v5, rfl, ⟨a5, n5, c5, rfl⟩, hset2, hs5⟩
        have HSET2 := Lib.hid (hset2 rfl)
        obtain ⟨N, hN⟩ : ∃ N : Nat, N = 2 ^ g.rpeople.length := ⟨_, rfl⟩
        have hN1 : 1 ≤ N := by rw [hN]; exact Nat.one_le_two_pow
        have hN2 : N ≤ 4096 := by rw [hN]; exact pow_le HP12.out
        have hun : uq = (N : Int) - 1 := by rw [HU.out, ← hN]; omega
        have HN := Lib.hid hN
        subst hun
        clear hset2 hN q0 q1 q2 k0
        go_wp2_with fail
        go_loopw [11] (fun i wr => ∃ s : Nat, s ≤ N ∧ i = .int .u64 s ∧ Hid (∀ t, t < s → coverB g.rpeople l m t = true) ∧ Same w5 wr) (fun i _ => N - (intOf i).toNat)
        case atStart => exact ⟨0, Nat.zero_le _, rfl, Lib.hid (by intro t h; omega), Same.refl _⟩
        case round =>
          obtain ⟨s, hs, rfl, hcv, hS⟩ := hrel
          have r5 := Rec.same (hs5.trans hS) HR4.out
          have q1 := r5.cell 1
          have k0 := r5.lt
          simp at q1
          clear r5
          by_cases hlt : s < N
          · obtain ⟨ss1, o1, m1, b1⟩ := HSET1.out
            obtain ⟨ss2, o2, m2, b2⟩ := HSET2.out
            have hsn : s < 2 ^ g.rpeople.length := by rw [← HN.out]; exact hlt
            have hrn : N - 1 - s < 2 ^ g.rpeople.length := by rw [← HN.out]; omega
            have hb4 : ∀ (ss : List Nat), (∀ s ∈ ss, s < 2 ^ g.rpeople.length) → ∀ s ∈ ss, s < 4096 := fun ss h s hs => by have := h s hs; rw [← HN.out] at this; omega
            have hl1 : ss1.length ≤ 17592186044416 := by have := congrArg List.length m1; rw [List.length_map] at this; omega
            have hl2 : ss2.length ≤ 17592186044416 := by have := congrArg List.length m2; rw [List.length_map] at this; omega
            have H1 := containsSet_spec wr _ _ ss1 s (own_keep (hs5.trans hS).keep o1) (hb4 ss1 b1) (by omega) hl1
            have H2 := fun W (h : Same wr W) => containsSet_spec W _ _ ss2 (N - 1 - s) (own_keep (hS.trans h).keep o2) (hb4 ss2 b2) (by omega) hl2
            have e1 := anyHas_some HSR.out ss1 s hsn b1
            have e2 := anyHas_some HSR.out ss2 (N - 1 - s) hrn b2
            have hbb := bits_but g.rpeople.length (by have := HP12.out; omega) s hsn
            rw [← HN.out] at hbb
            have e3 : selI g.rpeople (N - 1 - s) = minus g.rpeople (selI g.rpeople s) := by rw [HN.out]; exact selI_but _ HSR.out s hsn
            rw [m1] at e1
            rw [m2, e3] at e2
            rw [e1] at H1
            rw [e2] at H2
            have hbn : ((N - 1 : Nat) : Int) = (N : Int) - 1 := by omega
            rw [hbn] at hbb
            have hcs : coverB g.rpeople l m s = (someB l (selI g.rpeople s) || someB m (minus g.rpeople (selI g.rpeople s))) := rfl
            have HCS := Lib.hid hcs
            have z1 : (s : Int) ≤ (N : Int) - 1 := by omega
            clear o1 m1 b1 o2 m2 b2 hsn hrn hb4 hl1 hl2 e1 e2 e3 hbn hcs
            generalize someB l (selI g.rpeople s) = x1 at *
            generalize someB m (minus g.rpeople (selI g.rpeople s)) = x2 at *
            generalize N - 1 - s = r at *
            cases x1 with
            | true =>
              go_wp2_with fail
              refine H1.mono ?_
              clear H1 H2
              rintro e w6 ⟨rfl, rfl⟩
              go_wp2_with fail
              go_roundw
              case rel => exact ⟨s + 1, by omega, by go_num, Lib.hid (by
                intro t ht
                by_cases e : t = s
                · subst e; rw [HCS.out]; rfl
                · exact hcv.out t (by omega)), hS⟩
              case measure => simp [intOf]; omega
            | false =>
              have H2 := H2 wr (Same.refl _)
              cases x2 with
              | true =>
                go_wp2_with fail
                refine H1.mono ?_
                clear H1
                rintro e w6 ⟨rfl, rfl⟩
                go_wp2_with fail
                refine H2.mono ?_
                clear H2
                rintro e w6 ⟨rfl, rfl⟩
                go_wp2_with fail
                go_roundw
                case rel => exact ⟨s + 1, by omega, by go_num, Lib.hid (by
                  intro t ht
                  by_cases e : t = s
                  · subst e; rw [HCS.out]; rfl
                  · exact hcv.out t (by omega)), hS⟩
                case measure => simp [intOf]; omega
              | false =>
                go_wp2_with fail
                refine H1.mono ?_
                clear H1
                rintro e w6 ⟨rfl, rfl⟩
                go_wp2_with fail
                refine H2.mono ?_
                clear H2
                rintro e w6 ⟨rfl, rfl⟩
                go_wp2_with fail
                go_ret2
                exact ⟨by rw [HRES.out, cover_not l m s (by rw [HCS.out]; rfl)]; rfl, hS3.trans (hs4.trans (hs5.trans hS))⟩
          · obtain rfl : N = s := by omega
            have z1 : ¬ (N : Int) ≤ (N : Int) - 1 := by omega
            go_wp2_with fail
            go_ret2
            exact ⟨by rw [HRES.out, cover_all l m (fun t ht => hcv.out t (by rw [HN.out]; exact ht))]; rfl, hS3.trans (hs4.trans (hs5.trans hS))⟩
  · have hb : (rc != 0) = true := by simpa using hc
    have HC := Lib.hid hc
    clear hc
    rcases hfq with rfl | ⟨kq, fstq, lbq, rfl⟩
    · go_wp2_with fail
      go_ret2
      exact ⟨by rw [HA.out, if_pos HC.out]; rfl, hS1.trans (hs2.alloc _)⟩
    · go_wp2_with fail
      go_ret2
      exact ⟨by rw [HA.out, if_pos HC.out]; rfl, hS1.trans (hs2.alloc _)⟩
end Go.Proofs.Ytmnpbopkhpbhiaa
