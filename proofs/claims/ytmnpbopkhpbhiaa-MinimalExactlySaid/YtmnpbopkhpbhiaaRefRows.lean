/- signatoryref24: Some, FewSets, Increasing. signatoryref24: Same. -/
import Derived.Test.YtmnpbopkhpbhiaaPlainAgree
set_option linter.unusedVariables false
set_option linter.unusedSimpArgs false
namespace Go.Proofs.Ytmnpbopkhpbhiaa
section
open Go.RowKit
set_option maxRecDepth 100000
theorem inside_inB (a b : List Int) : decide (minus a b = []) = inB a b := by
  rw [Bool.eq_iff_iff, decide_eq_true_eq, inB_iff]
  refine ⟨fun h p hp => Classical.byContradiction fun hn => ?_, fun h => minus_nil h⟩
  have hm : p ∈ minus a b := (minus_mem _ _ _).2 ⟨hp, hn⟩
  rw [h] at hm
  cases hm
set_option maxHeartbeats 2000000 in
theorem some_spec (w : World) (v vo : Value) (xss : List (List Int)) (x : List Int) (h : Intss w v xss) (ho : Ints w vo x) :
    Calls Try.prog 47 #[v, vo] w fun e w' => e = .returned (.bool (someB xss x)) ∧ Same w w' := by
  obtain ⟨a, cap, rfl, -, hmax, hc⟩ := h
  obtain ⟨ao, no, co, rfl, -⟩ := Ints.slice ho
  have HC := Lib.hid hc
  have HO := Lib.hid ho
  clear hc ho
  go_enter Try.func47, Try.ntmps47
  go_wp2_with fail
  go_loopw [5] (fun i wr => ∃ k : Nat, k ≤ xss.length ∧ i = .int .i64 k ∧ Hid (someB xss x = someB (xss.drop k) x) ∧ Same w wr) (fun i _ => xss.length - (intOf i).toNat)
  case atStart => exact ⟨0, Nat.zero_le _, rfl, Lib.hid rfl, Same.refl w⟩
  case round =>
    obtain ⟨k, hk, rfl, hn, hS⟩ := hrel
    by_cases hlt : k < xss.length
    · obtain ⟨ad, u, rfl, hu, hr⟩ := HC.out k hlt
      have hux := hS.keep.cell hu
      have hd : someB (xss.drop k) x = (inB xss[k] x || someB (xss.drop (k + 1)) x) := by
        rw [← List.getElem_cons_drop hlt]; rfl
      rw [hd] at hn
      have hc := Inside_spec wr u _ xss[k] x (Ints.keep hS.keep hr) (HO.out.keep hS.keep)
      rw [inside_inB] at hc
      obtain ⟨ua, un, uc, rfl, -⟩ := Ints.slice hr
      clear hu hr hd
      generalize inB xss[k] x = b at *
      cases b with
      | true =>
        go_wp2_with fail
        refine hc.mono ?_
        clear hc
        rintro e w6 ⟨rfl, hs6⟩
        go_wp2_with fail
        go_ret
        exact ⟨ret_bool (by rw [hn.out]; rfl), hS.trans hs6⟩
      | false =>
        go_wp2_with fail
        refine hc.mono ?_
        clear hc
        rintro e w6 ⟨rfl, hs6⟩
        go_wp2_with fail
        go_roundw
        case rel => exact ⟨k + 1, by omega, by go_num, Lib.hid (by rw [hn.out]; rfl), hS.trans hs6⟩
        case measure => simp [intOf]; omega
    · obtain rfl : k = xss.length := by omega
      go_wp2_with fail
      go_ret
      exact ⟨ret_bool (by rw [hn.out, List.drop_length]; rfl), hS⟩
/-- At most 40 sets, of at most 12 people each? -/
def fewB (xss : List (List Int)) : Bool := decide (xss.length ≤ 40) && xss.all fun x => decide (x.length ≤ 12)
set_option maxHeartbeats 2000000 in
theorem fewsets_spec (w : World) (v : Value) (xss : List (List Int)) (h : Intss w v xss) :
    Calls Try.prog 41 #[v] w fun e w' => e = .returned (.bool (fewB xss)) ∧ w = w' := by
  obtain ⟨a, cap, rfl, -, hmax, hc⟩ := h
  have HC := Lib.hid hc
  clear hc
  go_enter Try.func41, Try.ntmps41
  go_wp2_with fail
  go_loop [3] (fun i => ∃ k : Nat, k ≤ xss.length ∧ i = .int .i64 k ∧ Hid (∀ x ∈ xss.take k, x.length ≤ 12)) (fun i => xss.length - (intOf i).toNat)
  case atStart => exact ⟨0, Nat.zero_le _, rfl, Lib.hid (by simp)⟩
  case round =>
    obtain ⟨k, hk, rfl, hn⟩ := hrel
    by_cases hlt : k < xss.length
    · obtain ⟨ad, u, rfl, hu, hr⟩ := HC.out k hlt
      obtain ⟨ua, un, uc, rfl, hun⟩ := Ints.slice hr
      have HUN := Lib.hid hun
      have htk := List.take_succ_eq_append_getElem hlt
      have HTK := Lib.hid htk
      clear hr hun htk
      by_cases h12 : 12 < un
      · go_wp2_with fail
        go_ret
        refine ⟨ret_bool ?_, rfl⟩
        have : fewB xss = false := by
          simp only [fewB, Bool.and_eq_false_iff, List.all_eq_false, decide_eq_true_eq]
          exact .inr ⟨xss[k], List.getElem_mem hlt, by rw [← HUN.out]; omega⟩
        rw [this]
      · go_wp2_with fail
        go_round
        case rel => exact ⟨k + 1, by omega, by go_num, Lib.hid (by
          intro x hx
          rw [HTK.out, List.mem_append, List.mem_singleton] at hx
          rcases hx with hx | rfl
          · exact hn.out x hx
          · rw [← HUN.out]; omega)⟩
        case measure => simp [intOf]; omega
    · obtain rfl : k = xss.length := by omega
      have hf : fewB xss = decide (xss.length ≤ 40) := by
        have h1 := hn.out
        rw [List.take_length] at h1
        rw [fewB, List.all_eq_true.2 (fun x hx => by simpa using h1 x hx), Bool.and_true]
      have HF := Lib.hid hf
      clear hf hn
      by_cases h40 : xss.length ≤ 40
      · go_wp2_with fail
        go_ret
        exact ⟨ret_bool (by rw [HF.out]; simp; omega), rfl⟩
      · go_wp2_with fail
        go_ret
        exact ⟨ret_bool (by rw [HF.out]; simp; omega), rfl⟩
theorem incB_take (xs : List Int) (k : Nat) (hk : k < xs.length) (h0 : 0 < k) : incB (xs.take (k + 1)) = (incB (xs.take k) && decide (xs[k - 1] < xs[k])) := by
  rw [Bool.eq_iff_iff, Bool.and_eq_true, incB_iff, incB_iff, decide_eq_true_eq, List.take_succ_eq_append_getElem hk, List.pairwise_append]
  constructor
  · rintro ⟨h1, -, h2⟩
    exact ⟨h1, h2 _ (List.mem_take_iff_getElem.2 ⟨k - 1, by omega, rfl⟩) _ (by simp)⟩
  · rintro ⟨h1, h2⟩
    refine ⟨h1, by simp, fun a ha b hb => ?_⟩
    rw [List.mem_singleton.1 hb]
    obtain ⟨j, hj, rfl⟩ := List.mem_take_iff_getElem.1 ha
    by_cases e : j = k - 1
    · subst e; exact h2
    · rw [List.pairwise_iff_getElem] at h1
      have := h1 j (k - 1) (by simp; omega) (by simp; omega) (by omega)
      simp at this
      omega
set_option maxHeartbeats 2000000 in
theorem increasing_spec (w : World) (v : Value) (xs : List Int) (h : Ints w v xs) :
    Calls Try.prog 48 #[v] w fun e w' => e = .returned (.bool (incB xs)) ∧ Same w w' := by
  obtain ⟨a, cap, rfl, -, hmax, hc⟩ := h
  have HC := Lib.hid hc
  clear hc
  go_enter Try.func48, Try.ntmps48
  go_wp2_with fail
  go_loopw [3] (fun i wr => ∃ k : Nat, 1 ≤ k ∧ (k ≤ xs.length ∨ k = 1) ∧ i = .int .i64 k ∧ Hid (incB (xs.take k) = true) ∧ Same w wr) (fun i _ => xs.length - (intOf i).toNat)
  case atStart => exact ⟨1, Nat.le_refl _, .inr rfl, rfl, Lib.hid (by rcases xs with _ | ⟨x, xs⟩ <;> simp [incB]), Same.refl w⟩
  case round =>
    obtain ⟨k, hk1, hk, rfl, hn, hS⟩ := hrel
    by_cases hlt : k < xs.length
    · obtain ⟨ad, u, rfl, hu, hr⟩ := HC.out k hlt
      obtain ⟨j, hj⟩ : ∃ j, j = k - 1 := ⟨_, rfl⟩
      have hkj : (k : Int) - 1 = (j : Int) := by omega
      have hjl : j < xs.length := by omega
      obtain ⟨ad', u', had, hu', hr'⟩ := HC.out j hjl
      injection had with had
      subst had
      unfold RInt at hr hr'
      subst hr hr'
      have ht : incB (xs.take (k + 1)) = (incB (xs.take k) && decide (xs[j] < xs[k])) := by subst hj; exact incB_take xs k hlt hk1
      rw [hn.out, Bool.true_and] at ht
      have hfin : xs[k] ≤ xs[j] → incB xs = false := fun h => by
        cases e : incB xs with
        | false => rfl
        | true =>
          have := List.pairwise_iff_getElem.1 ((incB_iff xs).1 e) j k hjl hlt (by omega)
          omega
      have c1 := hS.keep.cell hu
      have c2 := hS.keep.cell hu'
      have HT := Lib.hid ht
      have HFIN := Lib.hid hfin
      have HLT := Lib.hid hlt
      clear hn ht hu hu' hfin hj
      generalize hp : xs[j] = p at *
      generalize hq : xs[k] = q at *
      clear hp hq
      by_cases hge : q ≤ p
      · have hd : decide (q ≤ p) = true := by simpa using hge
        have HF := Lib.hid (HFIN.out hge)
        clear HFIN HT
        go_wp2_with fail
        go_quiet (fail)
        go_wp2_with fail
        go_ret
        exact ⟨ret_bool (by rw [HF.out]), hS.drewN _⟩
      · have hd : decide (q ≤ p) = false := by simpa using hge
        have HF := Lib.hid HT.out
        clear HFIN HT
        go_wp2_with fail
        go_quiet (fail)
        go_wp2_with fail
        go_roundw
        case rel => exact ⟨k + 1, by omega, by have := HLT.out; omega, by go_num, Lib.hid (by rw [HF.out]; simp; omega), hS.drewN _⟩
        case measure => have := HLT.out; simp [intOf]; omega
    · have hx : xs.take k = xs := List.take_of_length_le (by omega)
      have HF := Lib.hid (by rw [← hn.out, hx] : incB xs = true)
      clear hx hn
      go_wp2_with fail
      go_ret
      exact ⟨ret_bool (by rw [HF.out]), hS⟩
end
section
open Go.RowKit
set_option maxRecDepth 100000
set_option maxHeartbeats 2000000 in
theorem same_spec (w : World) (v vo : Value) (xss yss : List (List Int)) (h : Intss w v xss) (ho : Intss w vo yss) :
    Calls Try.prog 40 #[v, vo] w fun e w' => e = .returned (.bool (decide (xss = yss))) ∧ Same w w' := by
  obtain ⟨a, cap, rfl, -, hmax, hc⟩ := h
  obtain ⟨ao, co, rfl, -, hmo, ho⟩ := ho
  have HC := Lib.hid hc
  have HO := Lib.hid ho
  clear hc ho
  by_cases hl : xss.length = yss.length
  · have hb : ((xss.length : Int) != (yss.length : Int)) = false := by simp [hl]
    have HL := Lib.hid hl
    clear hl
    go_enter Try.func40, Try.ntmps40
    go_wp2_with fail
    go_loopw [5] (fun i wr => ∃ k : Nat, k ≤ xss.length ∧ i = .int .i64 k ∧ Hid (xss.take k = yss.take k) ∧ Same w wr) (fun i _ => xss.length - (intOf i).toNat)
    case atStart => exact ⟨0, Nat.zero_le _, rfl, Lib.hid rfl, Same.refl w⟩
    case round =>
      obtain ⟨k, hk, rfl, hn, hS⟩ := hrel
      by_cases hlt : k < xss.length
      · have hlt2 : k < yss.length := by have := HL.out; omega
        obtain ⟨ad, u, rfl, hu, hr⟩ := HC.out k hlt
        obtain ⟨ad2, u2, rfl, hu2, hr2⟩ := HO.out k hlt2
        have hux := hS.keep.cell hu
        have hux2 := hS.keep.cell hu2
        have hyes : xss[k] = yss[k] → xss.take (k + 1) = yss.take (k + 1) := fun e => by
          rw [List.take_succ_eq_append_getElem hlt, List.take_succ_eq_append_getElem hlt2, hn.out, e]
        have hno : xss[k] ≠ yss[k] → xss ≠ yss := fun h e => by subst e; exact h rfl
        have HY := Lib.hid hyes
        have HNO := Lib.hid hno
        have hc : ∀ W, Same w W → _ := fun W h => SameInts_spec W u u2 xss[k] yss[k] (Ints.keep h.keep hr) (Ints.keep h.keep hr2)
        obtain ⟨ua, un, uc, rfl, -⟩ := Ints.slice hr
        obtain ⟨ub, um, ud, rfl, -⟩ := Ints.slice hr2
        have z8 : (0 : Int) ≤ (k : Int) := by omega
        have z9 : (k : Int) < (xss.length : Int) := by omega
        have z10 : (k : Int) < (yss.length : Int) := by omega
        clear hu hu2 hr hr2 hyes hno hn
        by_cases he : xss[k] = yss[k]
        · have HE := Lib.hid he
          rw [show decide (xss[k] = yss[k]) = true from by simp [he]] at hc
          clear he
          go_wp2_with fail
          go_region_held3 (fun W => W.cell? (ad.add k) = some (.slice ua un uc) ∧ W.cell? (ad2.add k) = some (.slice ub um ud) ∧ Same w W)
            (((try go_split_ands); refine ⟨?_, ?_, ?_⟩ <;> repeat (first | assumption | exact Same.refl _ | apply Same.drew | apply cell_drew)))
            (first
              | ((go_at_call 22; (try go_split_ands); refine (hc _ (by repeat (first | assumption | apply Same.drew))).mono ?_; rintro e w6 ⟨rfl, hs6⟩; have hS6 : Same w w6 := Same.trans (by repeat (first | assumption | apply Same.drew)) hs6; have r1 := hs6.keep.cell hux; have r2 := hs6.keep.cell hux2))
              | (fail))
          go_wp2_with fail
          go_roundw
          case rel => exact ⟨k + 1, by omega, by go_num, Lib.hid (HY.out HE.out), hS6⟩
          case measure => simp [intOf]; omega
        · have HE := Lib.hid he
          rw [show decide (xss[k] = yss[k]) = false from by simp [he]] at hc
          clear he
          go_wp2_with fail
          go_region_held3 (fun W => W.cell? (ad.add k) = some (.slice ua un uc) ∧ W.cell? (ad2.add k) = some (.slice ub um ud) ∧ Same w W)
            (((try go_split_ands); refine ⟨?_, ?_, ?_⟩ <;> repeat (first | assumption | exact Same.refl _ | apply Same.drew | apply cell_drew)))
            (first
              | ((go_at_call 22; (try go_split_ands); refine (hc _ (by repeat (first | assumption | apply Same.drew))).mono ?_; rintro e w6 ⟨rfl, hs6⟩; have hS6 : Same w w6 := Same.trans (by repeat (first | assumption | apply Same.drew)) hs6; have r1 := hs6.keep.cell hux; have r2 := hs6.keep.cell hux2))
              | (fail))
          go_wp2_with fail
          go_ret
          exact ⟨ret_bool (by simpa using HNO.out HE.out), hS6⟩
      · obtain rfl : k = xss.length := by omega
        have he : xss = yss := by have := hn.out; rwa [List.take_length, HL.out, List.take_length] at this
        have HE := Lib.hid he
        clear he hn
        go_wp2_with fail
        go_ret
        exact ⟨ret_bool (by simpa using HE.out), hS⟩
  · have hb : ((xss.length : Int) != (yss.length : Int)) = true := by simp; omega
    have hne : xss ≠ yss := fun e => hl (by rw [e])
    have HE := Lib.hid hne
    clear hne hl
    go_enter Try.func40, Try.ntmps40
    go_wp2_with fail
    go_ret
    exact ⟨ret_bool (by simpa using HE.out), Same.refl _⟩
end
end Go.Proofs.Ytmnpbopkhpbhiaa
