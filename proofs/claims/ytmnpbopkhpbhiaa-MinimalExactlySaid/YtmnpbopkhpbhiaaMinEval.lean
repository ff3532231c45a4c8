/- minimal.ask$1: a formula evaluated for a set of its people. -/
import Derived.Test.YtmnpbopkhpbhiaaCompactI
import Derived.Test.YtmnpbopkhpbhiaaMinGather
import Derived.Test.YtmnpbopkhpbhiaaRefHolds
set_option linter.unusedVariables false
set_option linter.unusedSimpArgs false
namespace Go.Proofs.Ytmnpbopkhpbhiaa
open Go.RowKit
set_option maxRecDepth 100000
/-- The people whose bits are set; the lowest bit is the first one's. -/
def selI : List Int → Nat → List Int
  | [], _ => []
  | p :: ps, s => (if s % 2 = 1 then [p] else []) ++ selI ps (s / 2)
theorem selI_mem : ∀ (ps : List Int), ps.Nodup → ∀ (s : Nat) (p : Int), p ∈ ps → (p ∈ selI ps s ↔ s / 2 ^ ps.idxOf p % 2 = 1)
  | [], _, _, _, h => by simp at h
  | q :: ps, hn, s, p, h => by
    rw [List.nodup_cons] at hn
    by_cases e : p = q
    · subst e
      rw [List.idxOf_cons_self, Nat.pow_zero, Nat.div_one, selI, List.mem_append]
      have hnot : p ∉ selI ps (s / 2) := by
        have : ∀ (l : List Int) (t : Nat), p ∈ selI l t → p ∈ l := by
          intro l
          induction l with
          | nil => intro t h; simp [selI] at h
          | cons x l ih =>
            intro t h
            rw [selI, List.mem_append] at h
            rcases h with h | h
            · split at h
              · rw [List.mem_singleton] at h; simp [h]
              · cases h
            · exact List.mem_cons_of_mem _ (ih _ h)
        exact fun hh => hn.1 (this _ _ hh)
      constructor
      · rintro (h | h)
        · split at h
          · assumption
          · cases h
        · exact absurd h hnot
      · intro h; left; rw [if_pos h]; simp
    · have hp : p ∈ ps := by
        rcases List.mem_cons.1 h with h | h
        · exact absurd h e
        · exact h
      have ih := selI_mem ps hn.2 (s / 2) p hp
      rw [List.idxOf_cons, show (q == p) = false from by simpa using fun x => e x.symm]
      simp only [cond_false]
      rw [selI, List.mem_append, ih, Nat.pow_succ, Nat.mul_comm, ← Nat.div_div_eq_div_mul]
      constructor
      · rintro (h | h)
        · split at h
          · rw [List.mem_singleton] at h; exact absurd h e
          · cases h
        · exact h
      · exact .inr
theorem selI_sub : ∀ (ps : List Int) (s : Nat), (selI ps s).Sublist ps
  | [], s => by simp [selI]
  | p :: ps, s => by
    rw [selI]
    split
    · exact (selI_sub ps (s / 2)).cons_cons p
    · exact (selI_sub ps (s / 2)).cons p
theorem bit_and_u : ∀ q : Nat, q < 4096 → bits .and .u64 (q : Int) 1 = if q % 2 = 1 then 1 else 0 := by decide +kernel
theorem enters_eval : ∀ args w, (callFunc 115 args).run Try.prog w = .ok (.enter 115 args) w :=
  enters_of Try.func115 (by kernel_rfl) rfl
theorem Boxed.keep' {w W : World} (h : Same w W) {b : Nat} {t : TypeId} {v : Value} (hb : Boxed w b t v) : Boxed W b t v := Boxed.same h hb
set_option maxHeartbeats 4000000 in
theorem eval_all (k : Nat) : ∀ (g : Gt) (W : World) (val vp : Value) (Bp Be : Nat) (ps : List Int) (s : Nat), SizeOf.sizeOf g < k → IsG W g val → (∀ p ∈ g.ppl, p ∈ ps) → ps.Nodup → ps.length ≤ 12 → s < 4096 →
    Boxed W Bp 25 vp → Ints W vp ps → Boxed W Be 122 (.func (.func 115) #[] #[ptr Bp, ptr Be]) →
    Calls Try.prog 115 #[val, .int .u64 s, ptr Bp, ptr Be] W fun e W' => e = .returned (.bool (g.holds (selI ps s))) ∧ Same W W' := by
  induction k with
  | zero => intro g W val vp Bp Be ps s hk; omega
  | succ k ih =>
    intro g W val vp Bp Be ps s hk hg hin hnd hl12 hs bp hps be
    obtain ⟨v, rfl, hv⟩ := hg
    obtain ⟨p, n, l⟩ := g
    obtain ⟨a, cap, rfl, hcap, hmax, hl⟩ := hv.gs
    obtain ⟨ap, np, cp, rfl, hnp⟩ := hps.slice
    simp only [Gt.p_mk, Gt.n_mk, Gt.l_mk] at *
    have HL := Lib.hid hl
    have HIH := Lib.hid ih
    have HIN := Lib.hid hin
    have HND := Lib.hid hnd
    have HPS := Lib.hid hps
    have HBP := Lib.hid bp
    have HBE := Lib.hid be
    clear hl ih hv hin hnd hps hnp
    obtain ⟨W1, hW1⟩ : ∃ W1, W1 = W.alloc (.cells #[.int .i64 p, .int .i64 n, .slice a l.length cap] 24) := ⟨_, rfl⟩
    have hS1 : Same W W1 := by rw [hW1]; exact (Same.refl W).alloc _
    have hgb : ∀ X, Same W1 X → _ := fun X h => gbox (w := W) (W := X) (by rw [← hW1]; exact h)
    have HGB := Lib.hid hgb
    clear hgb
    by_cases hp : 0 ≤ p
    · have hpp : (Gt.mk p n l).ppl = [p] := by rw [Gt.ppl, if_pos hp]
      have hmem : p ∈ ps := HIN.out p (by rw [hpp]; simp)
      have hix := index_spec W1 _ ps p (HPS.out.keep hS1.keep)
      have hid : idxRes p ps = (ps.idxOf p : Nat) := by rw [idxRes, if_pos hmem]
      rw [hid, hW1] at hix
      have hlt := List.idxOf_lt_length_of_mem hmem
      have hres : (Gt.mk p n l).holds (selI ps s) = decide (s / 2 ^ ps.idxOf p % 2 = 1) := by
        rw [Gt.holds, if_pos hp, decide_eq_decide]
        exact selI_mem ps HND.out s p hmem
      generalize ps.idxOf p = ix at *
      obtain ⟨q, hq⟩ : ∃ q : Nat, q = s / 2 ^ ix := ⟨_, rfl⟩
      have hq2 : (s : Int) / 2 ^ ix = (q : Int) := by rw [hq]; simp
      have hq3 : q < 4096 := by rw [hq]; exact Nat.lt_of_le_of_lt (Nat.div_le_self _ _) hs
      have hbit := bit_and_u q hq3
      rw [← hq] at hres
      have HRES := Lib.hid hres
      have cp1 := bp.cell
      have lp1 := bp.lt
      have hi12 : ix < 12 := by omega
      clear hpp hid hW1 hq hres
      go_enter Try.func115, Try.ntmps115
      go_wp2_with fail
      refine hix.mono ?_
      clear hix
      rintro e w2 ⟨rfl, rfl⟩
      by_cases hb : q % 2 = 1
      · rw [if_pos hb] at hbit
        go_wp2_with fail
        go_ret
        exact ⟨ret_bool (by rw [HRES.out]; simp [hb]), (Same.refl W).alloc _⟩
      · rw [if_neg hb] at hbit
        go_wp2_with fail
        go_ret
        exact ⟨ret_bool (by rw [HRES.out]; simp [hb]), (Same.refl W).alloc _⟩
    · have hpp : (Gt.mk p n l).ppl = pplL l := by rw [Gt.ppl, if_neg hp]
      have hres : (Gt.mk p n l).holds (selI ps s) = decide (n ≤ holdsL (selI ps s) l) := by rw [Gt.holds, if_neg hp]
      have HRES := Lib.hid hres
      have HPP := Lib.hid hpp
      have HW1 := Lib.hid hW1
      have e97 := enters_eval
      clear hpp hres hW1
      go_enter Try.func115, Try.ntmps115
      go_wp2_with fail
      rw [← HW1.out]
      go_loopw [7, 24] (fun m i wr => ∃ (j : Nat) (c : Int), j ≤ l.length ∧ i = .int .i64 j ∧ m = .int .i64 c ∧ 0 ≤ c ∧ c ≤ j ∧ Hid (c = holdsL (selI ps s) (l.take j)) ∧ Same W1 wr) (fun _ i _ => l.length - (intOf i).toNat)
      case atStart => exact ⟨0, 0, Nat.zero_le _, rfl, rfl, by omega, by omega, Lib.hid (by simp [holdsL]), Same.refl _⟩
      case round =>
        obtain ⟨j, c, hj, rfl, rfl, hc0, hc1, heq, hS⟩ := hrel
        have hSw := hS1.trans hS
        by_cases hlt : j < l.length
        · obtain ⟨ad, u, rfl, c0, c1, c2, hat⟩ := HL.out.get j hlt
          rw [Nat.zero_add] at c0 c1 c2
          obtain ⟨au, nu, cu, rfl⟩ := hat.form
          have hKr := hSw.keep
          have d0 := hKr.cell c0
          have d1 := hKr.cell c1
          have d2 := hKr.cell c2
          rw [add_add_pos _ _ _ (by omega)] at d1 d2
          have hsz : SizeOf.sizeOf l[j] < k := by
            have := List.sizeOf_lt_of_mem (List.getElem_mem hlt)
            simp only [Gt.mk.sizeOf_spec] at hk
            omega
          have hsubp : ∀ q ∈ l[j].ppl, q ∈ ps := by
            intro q hq
            refine HIN.out q ?_
            rw [HPP.out, ← List.take_append_drop j l, pplL_append, ← List.getElem_cons_drop hlt, pplL]
            exact List.mem_append.2 (.inr (List.mem_append.2 (.inl hq)))
          obtain ⟨Wb, hWb⟩ : ∃ Wb, Wb = wr.alloc (.cells #[.int .i64 l[j].p, .int .i64 l[j].n, .slice au nu cu] 24) := ⟨_, rfl⟩
          have hSb : Same wr Wb := by rw [hWb]; exact (Same.refl wr).alloc _
          have hSWb := hSw.trans hSb
          have Hc := HIH.out l[j] Wb (.agg #[.int .i64 l[j].p, .int .i64 l[j].n, .slice au nu cu]) (.slice ap np cp) Bp Be ps s hsz (IsG.keep hSWb.keep ⟨_, rfl, hat⟩) hsubp HND.out hl12 hs (Boxed.same hSWb HBP.out) (HPS.out.keep hSWb.keep) (Boxed.same hSWb HBE.out)
          have be2 := Boxed.same hSw HBE.out
          have ce2 := be2.cell
          have le2 := be2.lt
          have hsn : holdsL (selI ps s) (l.take (j + 1)) = holdsL (selI ps s) (l.take j) + (if l[j].holds (selI ps s) then 1 else 0) := by
            rw [List.take_succ_eq_append_getElem hlt, holdsL_snoc]
          have HSN := Lib.hid hsn
          have HWB := Lib.hid hWb
          rw [hWb] at Hc
          clear c0 c1 c2 hat hsn hWb hsubp be2
          cases hx : l[j].holds (selI ps s) with
          | true =>
            rw [hx] at Hc HSN
            clear hx
            go_wp2_with fail
            refine Hc.mono ?_
            clear Hc
            rintro e w2 ⟨rfl, hs2⟩
            rw [← HWB.out] at hs2
            go_wp2_with fail
            go_roundw
            case rel => exact ⟨j + 1, c + 1, by omega, by go_num, by go_num, by omega, by omega, Lib.hid (by rw [HSN.out, heq.out]; simp), hS.trans (hSb.trans hs2)⟩
            case measure => simp [intOf]; omega
          | false =>
            rw [hx] at Hc HSN
            clear hx
            go_wp2_with fail
            refine Hc.mono ?_
            clear Hc
            rintro e w2 ⟨rfl, hs2⟩
            rw [← HWB.out] at hs2
            go_wp2_with fail
            go_roundw
            case rel => exact ⟨j + 1, c, by omega, by go_num, rfl, by omega, by omega, Lib.hid (by rw [HSN.out, heq.out]; simp), hS.trans (hSb.trans hs2)⟩
            case measure => simp [intOf]; omega
        · obtain rfl : j = l.length := by omega
          have hc : c = holdsL (selI ps s) l := by have h := heq.out; rwa [List.take_length] at h
          have HC := Lib.hid hc
          obtain ⟨q0, q1, q2, lt⟩ := HGB.out _ hS
          clear hc
          go_wp2_with fail
          go_ret
          exact ⟨ret_bool (by rw [HRES.out, HC.out]), hSw⟩
end Go.Proofs.Ytmnpbopkhpbhiaa
