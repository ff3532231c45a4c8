/- signatoryref24: blocks, smallest, Sets, Blocks. -/
import Derived.Test.YtmnpbopkhpbhiaaRefRows
import Derived.Test.YtmnpbopkhpbhiaaMinSets
set_option linter.unusedVariables false
set_option linter.unusedSimpArgs false
namespace Go.Proofs.Ytmnpbopkhpbhiaa
open Go.RowKit
set_option maxRecDepth 100000
set_option maxHeartbeats 2000000 in
theorem refblocks_spec (w : World) (g : Gt) (val v : Value) (who : List Int) (hg : IsG w g val) (hv : Ints w v who) (hp : g.ppl.length ≤ 1000000) :
    Calls Try.prog 83 #[val, v] w fun e w' => e = .returned (.bool (!(g.rHolds (minus g.rpeople who)).1)) ∧ Same w w' := by
  obtain ⟨vg, rfl, hat⟩ := hg
  obtain ⟨a, n, c, rfl⟩ := hat.form
  obtain ⟨av, nv, cv, rfl, -⟩ := hv.slice
  obtain ⟨W1, hW1⟩ : ∃ W1, W1 = w.alloc (.cells #[.int .i64 g.p, .int .i64 g.n, .slice a n c] 24) := ⟨_, rfl⟩
  have hS1 : Same w W1 := by rw [hW1]; exact (Same.refl w).alloc _
  have hgb : ∀ W, Same W1 W → _ := fun W h => gbox (w := w) (W := W) (by rw [← hW1]; exact h)
  have hG := fun W (h : Same W1 W) => (⟨_, rfl, hat.keep (hS1.trans h).keep⟩ : IsG W g (.agg #[.int .i64 g.p, .int .i64 g.n, .slice a n c]))
  have HG := Lib.hid hG
  have HV := Lib.hid hv
  have HGB := Lib.hid hgb
  have HPE := fun W (h : Same W1 W) => refPeopleOf_spec W g _ (hG W h) hp
  have HPM := fun W v (hi : Ints W v (minus g.rpeople who)) (h : Same W1 W) => permits_spec W g _ v (minus g.rpeople who) (hG W h) hi
  have HS1 := Lib.hid hS1
  have HW1 := Lib.hid hW1
  clear hat hv hgb hG hp
  generalize hb : (g.rHolds (minus g.rpeople who)).1 = b at *
  clear hb
  go_enter Try.func83, Try.ntmps83
  go_wp2_with fail
  rw [← HW1.out]
  obtain ⟨q0, q1, q2, lt⟩ := HGB.out _ (Same.refl _)
  have hSS : Same W1 W1 := Same.refl _
  clear hS1 hW1
  go_region_held3 (fun W => W.cell? ⟨w.heap.size, 0, none⟩ = some (.int .i64 g.p) ∧ W.cell? ⟨w.heap.size, 1, none⟩ = some (.int .i64 g.n) ∧ W.cell? ⟨w.heap.size, 2, none⟩ = some (.slice a n c) ∧ Same W1 W)
    (((try go_split_ands); refine ⟨?_, ?_, ?_, ?_⟩ <;> repeat (first | assumption | exact Same.refl _ | apply Same.drew | apply cell_drew)))
    (first
      | ((go_at_call 29; (try go_split_ands); refine (HPE _ (by repeat (first | assumption | apply Same.drew))).mono ?_; rintro e w5 ⟨v5, rfl, hi5, hs5⟩; obtain ⟨a5, n5, c5, rfl, -⟩ := hi5.slice; have hS5 : Same W1 w5 := Same.trans (by repeat (first | assumption | apply Same.drew)) hs5; obtain ⟨p0, p1, p2, lt5⟩ := HGB.out _ hS5))
      | ((go_at_call 31; (try go_split_ands); refine (Without_spec _ _ _ g.rpeople who (Ints.keep (Same.keep (by repeat (first | exact Same.refl _ | apply Same.drew))) hi5) (HV.out.keep (Same.keep (HS1.out.trans (by repeat (first | assumption | apply Same.drew)))))).mono ?_; rintro e w6 ⟨v6, rfl, hi6, hs6⟩; obtain ⟨a6, n6, c6, rfl, -⟩ := hi6.slice; have hS6 : Same W1 w6 := Same.trans (by repeat (first | assumption | apply Same.drew)) hs6; obtain ⟨r0, r1, r2, lt6⟩ := HGB.out _ hS6))
      | ((go_at_call 63; (try go_split_ands); refine (HPM _ (.slice a6 n6 c6) (Ints.keep (Same.keep (by repeat (first | exact Same.refl _ | apply Same.drew))) hi6) (by repeat (first | assumption | apply Same.drew))).mono ?_; rintro e w7 ⟨rfl, hs7⟩; have hS7 : Same W1 w7 := Same.trans (by repeat (first | assumption | apply Same.drew)) hs7; obtain ⟨s0, s1, s2, lt7⟩ := HGB.out _ hS7))
      | (fail))
  go_wp2_with fail
  go_ret
  exact ⟨rfl, HS1.out.trans hS7⟩
theorem small_key {ps : List Int} (hn : ps.Pairwise (· < ·)) {H : List Int → Bool} (hm : Mono ps H) (k : Nat) (hk : k < (allR ps).length) :
    (H (allR ps)[k] && (((allR ps).take k).filter (minB H)).all fun y => !inB y (allR ps)[k]) = minB H (allR ps)[k] := by
  have h : (allR ps).take k ++ (allR ps)[k] :: (allR ps).drop (k + 1) = allR ps := by rw [List.getElem_cons_drop, List.take_append_drop]
  generalize (allR ps)[k] = x at *
  generalize (allR ps).take k = pre at *
  generalize (allR ps).drop (k + 1) = post at *
  have hord := allR_order hn
  have hxs : x.Sublist ps := (allR_mem ps x).1 (by rw [← h]; simp)
  have hpre : ∀ y, y.Sublist ps → y ≠ x → y.length ≤ x.length → (y.length = x.length → (∀ p ∈ y, p ∈ x)) → y ∈ pre := by
    intro y hy hne hl he
    have : y ∈ pre ++ x :: post := by rw [h]; exact (allR_mem ps y).2 hy
    rcases List.mem_append.1 this with h1 | h1
    · exact h1
    · rcases List.mem_cons.1 h1 with h1 | h1
      · exact absurd h1 hne
      · rw [← h, List.pairwise_append] at hord
        have hb := (List.pairwise_cons.1 hord.2.1).1 y h1
        have hle := beforeB_le hb
        have hlen : y.length = x.length := by omega
        have hin := he hlen
        have hsub := sorted_sub (hn.sublist hy) (hn.sublist hxs) hin
        exact absurd (hsub.eq_of_length hlen) hne
  rw [Bool.eq_iff_iff, Bool.and_eq_true, List.all_eq_true]
  constructor
  · rintro ⟨hx, hall⟩
    obtain ⟨y, hy, hyx⟩ := min_below hn x.length x (Nat.le_refl _) hxs hx
    obtain ⟨hys, hym⟩ := (setsP_mem _ _ _).1 hy
    by_cases e : y = x
    · rw [← e]; exact hym
    · have hsub := sorted_sub (hn.sublist hys) (hn.sublist hxs) hyx
      have hyp := hpre y hys e hsub.length_le fun _ => hyx
      have := hall y (List.mem_filter.2 ⟨hyp, hym⟩)
      simp only [inB, Bool.not_eq_true', decide_eq_false_iff_not] at this
      exact absurd hyx this
  · intro hx
    refine ⟨((minB_iff _ _).1 hx).1, fun y hy => ?_⟩
    obtain ⟨hyp, hym⟩ := List.mem_filter.1 hy
    simp only [inB, Bool.not_eq_true', decide_eq_false_iff_not]
    intro hyx
    have hys : y.Sublist ps := (allR_mem ps y).1 (by rw [← h]; simp [hyp])
    have e := min_anti hn hm hys ((minB_iff _ _).1 hym).1 ((setsP_mem _ _ _).2 ⟨hxs, hx⟩) hyx
    subst e
    have hnd := beforeB_nodup hord
    rw [← h, List.nodup_append] at hnd
    exact hnd.2.2 y hyp y (by simp) rfl
/-- What the reference asks of a set. -/
def Gt.rK (g : Gt) (b : Bool) (x : List Int) : Bool := if b then !(g.rHolds (minus g.rpeople x)).1 else (g.rHolds x).1
theorem rK_eq {g : Gt} (hc : g.rcheck = 0) (b : Bool) {x : List Int} (hx : x.Sublist g.rpeople) : g.rK b x = g.hK b x := by
  have hr := rpeople_ok (rcheck_right hc)
  unfold Gt.rK Gt.hK
  cases b
  · simp only [Bool.false_eq_true, if_false]; rw [rHolds_ok hc (peopleFrom_sub hr hx)]
  · simp only [if_true, Gt.hB]; rw [rHolds_ok hc (peopleFrom_sub hr (minus_sub _ _))]
/-- Each of the values reads as its row. -/
def RowsI (w : World) (us : List Value) (xss : List (List Int)) : Prop := us.length = xss.length ∧ ∀ j (h : j < us.length) (h' : j < xss.length), Ints w us[j] xss[j]
theorem RowsI.nil (w : World) : RowsI w [] [] := ⟨rfl, fun j h => by simp at h⟩
theorem RowsI.keep {w W : World} (h : Keep w W) {us : List Value} {xss : List (List Int)} (hr : RowsI w us xss) : RowsI W us xss := ⟨hr.1, fun j h1 h2 => (hr.2 j h1 h2).keep h⟩
theorem RowsI.snoc {w : World} {us : List Value} {xss : List (List Int)} {u : Value} {x : List Int} (hr : RowsI w us xss) (h : Ints w u x) : RowsI w (us ++ [u]) (xss ++ [x]) := by
  refine ⟨by simp [hr.1], fun j hj hj' => ?_⟩
  by_cases hlt : j < us.length
  · rw [List.getElem_append_left hlt, List.getElem_append_left (by rw [← hr.1]; exact hlt)]
    exact hr.2 j hlt _
  · have hl := hr.1
    obtain rfl : j = us.length := by simp at hj; omega
    simp [hl, h]
theorem RowsI.intss {w : World} {base : Nat} {v : Value} {us : List Value} {xss : List (List Int)} (hv : Own w base 25 v us) (h : RowsI w us xss) (hl : xss.length ≤ 17592186044416) : Intss w v xss :=
  own_sl hv h.1 hl (fun i h1 h2 => h.2 i (by rw [h.1]; first | exact h1 | exact h2) (by first | exact h1 | exact h2))
theorem Ints.one {w : World} {v : Value} {xs : List Int} (h : Ints w v xs) : v.oneCell' = true := by obtain ⟨_, _, e, _⟩ := h; rw [e]; rfl
end Go.Proofs.Ytmnpbopkhpbhiaa
