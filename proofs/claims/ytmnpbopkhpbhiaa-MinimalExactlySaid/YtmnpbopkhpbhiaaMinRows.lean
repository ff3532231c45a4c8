/- minimal: set.has, slices.ContainsFunc over sets; signatoryref24.Sets, Blocks. minimal: question.sets. -/
import Derived.Test.YtmnpbopkhpbhiaaRefSmF
import Derived.Test.YtmnpbopkhpbhiaaRefSmT
set_option linter.unusedVariables false
set_option linter.unusedSimpArgs false
namespace Go.Proofs.Ytmnpbopkhpbhiaa
section
open Go.RowKit
set_option maxRecDepth 100000
theorem refSets_spec (w : World) (g : Gt) (val : Value) (hg : IsG w g val) :
    Calls Try.prog 37 #[val] w fun e w' => ∃ v', e = .returned (.tuple #[v', .int .i64 (g.sErr false)]) ∧ Intss w' v' (g.sOut false) ∧ Same w w' := by
  obtain ⟨vg, rfl, hat⟩ := hg
  obtain ⟨a, n, c, rfl⟩ := hat.form
  obtain ⟨W1, hW1⟩ : ∃ W1, W1 = w.alloc (.cells #[.int .i64 g.p, .int .i64 g.n, .slice a n c] 24) := ⟨_, rfl⟩
  have hS1 : Same w W1 := by rw [hW1]; exact (Same.refl w).alloc _
  have H1 := refsmallest_false W1 g _ (⟨_, rfl, hat.keep hS1.keep⟩ : IsG W1 g (.agg #[.int .i64 g.p, .int .i64 g.n, .slice a n c]))
  rw [hW1] at H1
  clear hat
  go_enter Try.func37, Try.ntmps37
  go_wp2_with fail
  refine H1.mono ?_
  clear H1
  rintro e w2 ⟨v2, rfl, hi2, hs2⟩
  rw [← hW1] at hs2
  have HI := Lib.hid hi2
  obtain ⟨a2, c2, rfl, -⟩ := hi2
  go_wp2_with fail
  go_ret2
  exact ⟨_, rfl, HI.out, hS1.trans hs2⟩
theorem refBlocks_spec (w : World) (g : Gt) (val : Value) (hg : IsG w g val) :
    Calls Try.prog 39 #[val] w fun e w' => ∃ v', e = .returned (.tuple #[v', .int .i64 (g.sErr true)]) ∧ Intss w' v' (g.sOut true) ∧ Same w w' := by
  obtain ⟨vg, rfl, hat⟩ := hg
  obtain ⟨a, n, c, rfl⟩ := hat.form
  obtain ⟨W1, hW1⟩ : ∃ W1, W1 = w.alloc (.cells #[.int .i64 g.p, .int .i64 g.n, .slice a n c] 24) := ⟨_, rfl⟩
  have hS1 : Same w W1 := by rw [hW1]; exact (Same.refl w).alloc _
  have H1 := refsmallest_true W1 g _ (⟨_, rfl, hat.keep hS1.keep⟩ : IsG W1 g (.agg #[.int .i64 g.p, .int .i64 g.n, .slice a n c]))
  rw [hW1] at H1
  clear hat
  go_enter Try.func39, Try.ntmps39
  go_wp2_with fail
  refine H1.mono ?_
  clear H1
  rintro e w2 ⟨v2, rfl, hi2, hs2⟩
  rw [← hW1] at hs2
  have HI := Lib.hid hi2
  obtain ⟨a2, c2, rfl, -⟩ := hi2
  go_wp2_with fail
  go_ret2
  exact ⟨_, rfl, HI.out, hS1.trans hs2⟩
/-! ### has -/
theorem enters_has : ∀ args w, (callFunc 81 args).run Try.prog w = .ok (.enter 81 args) w :=
  enters_of Try.func81 (by kernel_rfl) rfl
theorem has_spec (w : World) (t s : Nat) (ht : t < 4096) (hs : s < 4096) :
    Calls Try.prog 81 #[.int .u64 t, .int .u64 s] w fun e w' => e = .returned (.bool (decide (t &&& s = s))) ∧ w = w' := by
  have hb := bits_and_u t s ht hs
  generalize hr : t &&& s = r at *
  clear hr
  by_cases h : r = s
  · subst h
    go_enter Try.func81, Try.ntmps81
    go_wp2_with fail
    go_ret
    exact ⟨ret_bool (by simp), rfl⟩
  · have hne : ((r : Int) == (s : Int)) = false := by simp; omega
    go_enter Try.func81, Try.ntmps81
    go_wp2_with fail
    go_ret
    exact ⟨ret_bool (by simp [h]), rfl⟩
/-- Sets as values. -/
def setVs (ss : List Nat) : List Value := ss.map fun s => .int .u64 (s : Nat)
theorem setVs_len (ss : List Nat) : (setVs ss).length = ss.length := by simp [setVs]
def anyHas (t : Nat) (ss : List Nat) : Bool := ss.any fun s => decide (t &&& s = s)
set_option maxHeartbeats 1000000 in
theorem idxset_spec (w : World) (base : Nat) (v : Value) (ss : List Nat) (t : Nat) (hown : Own w base 84 v (setVs ss)) (hss : ∀ s ∈ ss, s < 4096) (ht : t < 4096) (hl : ss.length ≤ 17592186044416) :
    Calls Try.prog 123 #[v, .func (.func 81) #[.int .u64 t] #[]] w fun e w' =>
      ((anyHas t ss = true ∧ ∃ k : Nat, e = .returned (.int .i64 k)) ∨ (anyHas t ss = false ∧ e = .returned (.int .i64 (-1)))) ∧ w = w' := by
  have e81 := enters_has
  obtain ⟨a, n, c, rfl, hn⟩ := hown.slice
  rw [setVs_len] at hn
  subst hn
  have hcells : ∀ j (h : j < ss.length), ∃ ad, a = some ad ∧ w.cell? (ad.add j) = some (.int .u64 (ss[j] : Nat)) := fun j h => by
    obtain ⟨a', c', e', _, hcc⟩ := hown.cells
    injection e' with e1 e2 e3
    obtain ⟨ad, had, hck⟩ := hcc j (by rw [setVs_len]; exact h)
    exact ⟨ad, e1.trans had, by rw [hck]; simp [setVs]⟩
  have HC := Lib.hid hcells
  clear hown hcells
  go_enter Try.func123, Try.ntmps123
  go_wp2_with fail
  go_loop [8] (fun i => ∃ k : Nat, k ≤ ss.length ∧ i = .int .i64 k ∧ Hid (anyHas t ss = anyHas t (ss.drop k))) (fun i => ss.length - (intOf i).toNat)
  case atStart => exact ⟨0, Nat.zero_le _, rfl, Lib.hid rfl⟩
  case round =>
    obtain ⟨k, hk, rfl, hh⟩ := hrel
    by_cases hlt : k < ss.length
    · obtain ⟨ad, rfl, hck⟩ := HC.out k hlt
      have hd : anyHas t (ss.drop k) = (decide (t &&& ss[k] = ss[k]) || anyHas t (ss.drop (k + 1))) := by rw [← List.getElem_cons_drop hlt]; rfl
      have hs := hss ss[k] (List.getElem_mem hlt)
      have Hc := has_spec w t ss[k] ht hs
      have hh2 := hh.out
      rw [hd] at hh2
      have HH := Lib.hid hh2
      clear hd hs hh hh2
      generalize decide (t &&& ss[k] = ss[k]) = b at *
      generalize ss[k] = s at *
      cases b with
      | true =>
        go_wp2_with fail
        refine Hc.mono ?_
        clear Hc
        rintro e w' ⟨rfl, rfl⟩
        go_wp2_with fail
        go_ret
        exact ⟨.inl ⟨by rw [HH.out]; rfl, k, rfl⟩, rfl⟩
      | false =>
        go_wp2_with fail
        refine Hc.mono ?_
        clear Hc
        rintro e w' ⟨rfl, rfl⟩
        go_wp2_with fail
        go_round
        case rel => exact ⟨k + 1, by omega, by go_num, Lib.hid (by rw [HH.out]; rfl)⟩
        case measure => simp [intOf]; omega
    · obtain rfl : k = ss.length := by omega
      go_wp2_with fail
      go_ret
      exact ⟨.inr ⟨by rw [hh.out, List.drop_length]; rfl, rfl⟩, rfl⟩
set_option maxHeartbeats 1000000 in
theorem containsSet_spec (w : World) (base : Nat) (v : Value) (ss : List Nat) (t : Nat) (hown : Own w base 84 v (setVs ss)) (hss : ∀ s ∈ ss, s < 4096) (ht : t < 4096) (hl : ss.length ≤ 17592186044416) :
    Calls Try.prog 80 #[v, .func (.func 81) #[.int .u64 t] #[]] w fun e w' => e = .returned (.bool (anyHas t ss)) ∧ w = w' := by
  have H := idxset_spec w base v ss t hown hss ht hl
  obtain ⟨a, n, c, rfl, -⟩ := hown.slice
  clear hown
  generalize anyHas t ss = b at *
  go_enter Try.func80, Try.ntmps80
  go_wp2_with fail
  refine H.mono ?_
  clear H
  rintro e w' ⟨(⟨rfl, k, rfl⟩ | ⟨rfl, rfl⟩), rfl⟩
  · go_wp2_with fail
    go_ret
    exact ⟨ret_bool (by simp), rfl⟩
  · go_wp2_with fail
    go_ret
    exact ⟨ret_bool (by simp), rfl⟩
end
section
open Go.RowKit
set_option maxRecDepth 100000
theorem count_lt_idx {ps : List Int} (hn : ps.Pairwise (· < ·)) (p : Int) (hp : p ∈ ps) : ∃ i, ∃ hi : i < ps.length, ps[i] = p ∧ ps.countP (· < p) = i := by
  induction ps with
  | nil => cases hp
  | cons q ps ih =>
    rw [List.pairwise_cons] at hn
    by_cases e : p = q
    · subst e
      refine ⟨0, by simp, rfl, ?_⟩
      rw [List.countP_eq_zero]
      intro x hx
      rcases List.mem_cons.1 hx with rfl | hx
      · simp
      · have := hn.1 x hx; simp; omega
    · have hps : p ∈ ps := by
        rcases List.mem_cons.1 hp with h | h
        · exact absurd h e
        · exact h
      obtain ⟨i, hi, h1, h2⟩ := ih hn.2 hps
      have hq := hn.1 p hps
      exact ⟨i + 1, by simpa using hi, by simpa using h1, by rw [List.countP_cons_of_pos (by simpa using hq), h2]⟩
theorem search_spec (w : World) (v : Value) (ps : List Int) (p : Int) (hi : Ints w v ps) (hn : ps.Pairwise (· < ·)) :
    Calls Try.prog 122 #[v, .int .i64 p] w fun e w' => (∃ k : Nat, k ≤ ps.length ∧ e = .returned (.tuple #[.int .i64 k, .bool (decide (p ∈ ps))]) ∧ (p ∈ ps → ∃ hk : k < ps.length, ps[k] = p)) ∧ Same w w' := by
  obtain ⟨a, c, rfl, hcap, hmax, hc⟩ := hi
  rcases ps with _ | ⟨q, ps⟩
  · refine (Try.slices_BinarySearch_int_empty a c p w).mono ?_
    rintro e w' ⟨rfl, rfl⟩
    exact ⟨⟨0, by simp, by simp, by simp⟩, Same.refl _⟩
  · obtain ⟨ad, u, rfl, -⟩ := hc 0 (by simp)
    generalize hps : q :: ps = xs at *
    have hlen : 0 < xs.length := by rw [← hps]; simp
    obtain ⟨b, off, cp⟩ := ad
    cases cp with
    | some z =>
      obtain ⟨ad', u', e1, e2, -⟩ := hc 0 hlen
      injection e1 with e1
      subst e1
      simp [Addr.add, World.cell?] at e2
      split at e2 <;> simp at e2
    | none =>
      have hcell : ∀ j, j < xs.length → w.cell? ⟨b, off + j, none⟩ = some (.int .i64 (xs.getD j 0)) := by
        intro j hj
        obtain ⟨ad', u', e1, e2, e3⟩ := hc j hj
        injection e1 with e1
        subst e1
        unfold RInt at e3
        subst e3
        have : (⟨b, off, none⟩ : Addr).add j = ⟨b, off + j, none⟩ := by cases j <;> simp [Addr.add]
        rw [this] at e2
        rw [e2, List.getD_eq_getElem?_getD, List.getElem?_eq_getElem hj]; rfl
      refine (Try.slices_BinarySearch_int b off xs.length c xs p w (Nat.le_refl _) (by omega) hcell (by rw [List.take_length]; exact hn.imp fun h => Int.le_of_lt h)).mono ?_
      rintro e w' ⟨rfl, q', rfl⟩
      rw [List.take_length]
      refine ⟨⟨xs.countP (· < p), List.countP_le_length, by simp [List.contains_iff_mem], fun hp => ?_⟩, (Same.refl w).drewN q'⟩
      obtain ⟨i, hi, h1, h2⟩ := count_lt_idx hn p hp
      exact ⟨by rw [h2]; exact hi, by simp only [h2]; exact h1⟩
theorem okFrom_step (ps : List Int) (H : List Int → Bool) (l : List (List Int)) (k : Nat) (hk : k < l.length) :
    okFrom ps H (l.take k) (l.drop k) = ((rowOk ps (l.take k) l[k] && H l[k]) && okFrom ps H (l.take (k + 1)) (l.drop (k + 1))) := by
  rw [← List.getElem_cons_drop hk, okFrom, List.take_succ_eq_append_getElem hk]
theorem rowOk_bad {ps : List Int} {pre : List (List Int)} {x : List Int} (h : (incB x && inB x ps) = false) : rowOk ps pre x = false := by
  unfold rowOk; rw [h]; rfl
theorem rowOk_at (ps : List Int) (l : List (List Int)) (k : Nat) (hk : k < l.length) (h : (incB l[k] && inB l[k] ps) = true) :
    rowOk ps (l.take k) l[k] = ((if h0 : 0 < k then beforeB (l[k - 1]'(by omega)) l[k] else true) && !someB (l.take k) l[k]) := by
  unfold rowOk
  rw [h, Bool.true_and]
  congr 1
  · by_cases h0 : 0 < k
    · rw [dif_pos h0]
      have : (l.take k).getLast? = some (l[k - 1]'(by omega)) := by
        rw [List.getLast?_take]
        simp [show k ≠ 0 by omega, List.getElem?_eq_getElem (show k - 1 < l.length by omega)]
      rw [this]; rfl
    · rw [dif_neg h0]
      obtain rfl : k = 0 := by omega
      simp
  · unfold someB
    rw [← List.not_any_eq_all_not]
theorem info_set : (Try.prog.info? 84).map (fun i => (i.zero, i.size, i.bytes)) = some (some (.int .u64 0), 1, 8) := by kernel_rfl
theorem anyHas_some {ps : List Int} (hn : ps.Pairwise (· < ·)) (ss : List Nat) (t : Nat) (ht : t < 2 ^ ps.length) (hss : ∀ s ∈ ss, s < 2 ^ ps.length) : anyHas t ss = someB (ss.map (selI ps)) (selI ps t) := by
  have hd : ps.Nodup := hn.imp fun h => by omega
  unfold anyHas someB
  rw [List.any_map]
  have h0 : ∀ s ∈ ss, decide (t &&& s = s) = inB (selI ps s) (selI ps t) := fun s hs => by
    rw [Bool.eq_iff_iff, decide_eq_true_eq, inB_iff, has_iff hd t s (hss s hs)]
  rw [Bool.eq_iff_iff, List.any_eq_true, List.any_eq_true]
  constructor
  · rintro ⟨s, hs, h⟩; exact ⟨s, hs, by rw [Function.comp, ← h0 s hs]; exact h⟩
  · rintro ⟨s, hs, h⟩; exact ⟨s, hs, by rw [h0 s hs]; exact h⟩
end
end Go.Proofs.Ytmnpbopkhpbhiaa
