/- formulas.held, formulas.holds, formulas.Holds. -/
import Derived.Test.YtmnpbopkhpbhiaaLarge
import Derived.Test.YtmnpbopkhpbhiaaMaps
import Derived.LoopIn
set_option linter.unusedVariables false
set_option linter.unusedSimpArgs false
namespace Go.Proofs.Ytmnpbopkhpbhiaa
open Go.RowKit
attribute [local go_sem] Oper.semAt_some
mutual
/-- A formula holds for the people ks. -/
def Gt.holds (ks : List Int) : Gt → Bool
  | .mk p n l => if 0 ≤ p then decide (p ∈ ks) else decide (n ≤ holdsL ks l)
/-- How many hold. -/
def holdsL (ks : List Int) : List Gt → Int
  | [] => 0
  | g :: gs => (if g.holds ks then 1 else 0) + holdsL ks gs
end
theorem holdsL_len (ks : List Int) : ∀ l : List Gt, holdsL ks l = (l.filter fun x => x.holds ks).length
  | [] => rfl
  | g :: gs => by
    simp only [holdsL, holdsL_len ks gs, List.filter_cons]
    split <;> simp
    omega
/-- The values of the elements. -/
theorem GsAt.vals {w : World} : ∀ {gs : List Gt} {a : Option Addr} {i : Nat}, GsAt w gs a i → ∃ us : List Value, us.length = gs.length ∧ ∀ (j : Nat) (h : j < gs.length) (h' : j < us.length),
    ∃ ad u, a = some ad ∧ us[j] = .agg #[.int .i64 gs[j].p, .int .i64 gs[j].n, u] ∧ w.cell? (ad.add ((i + j) * 3)) = some (.int .i64 gs[j].p) ∧ w.cell? ((ad.add ((i + j) * 3)).add 1) = some (.int .i64 gs[j].n) ∧ w.cell? ((ad.add ((i + j) * 3)).add 2) = some u ∧ gs[j].At w u
  | [], _, _, _ => ⟨[], rfl, fun j h => by simp at h⟩
  | g :: gs, a, i, hv => by
    simp only [GsAt] at hv
    obtain ⟨⟨ad, u, e, c0, c1, c2, hg⟩, hs⟩ := hv
    obtain ⟨us, hl, hu⟩ := GsAt.vals hs
    refine ⟨.agg #[.int .i64 g.p, .int .i64 g.n, u] :: us, by simp [hl], fun j h h' => ?_⟩
    cases j with
    | zero => exact ⟨ad, u, e, rfl, c0, c1, c2, hg⟩
    | succ j =>
      obtain ⟨ad', u', h1, h2, h3, h4, h5, h6⟩ := hu j (by simpa using h) (by simpa using h')
      refine ⟨ad', u', h1, h2, ?_, ?_, ?_, h6⟩
      all_goals rw [show i + (j + 1) = i + 1 + j from by omega]
      · exact h3
      · exact h4
      · exact h5
theorem zero_int (w : World) : (zeroValue 3).run Try.prog w = .ok (.int .i64 0) w := by kernel_rfl
theorem enters_held1 : ∀ args w, (callFunc 136 args).run Try.prog w = .ok (.enter 136 args) w :=
  enters_of Try.func136 (by kernel_rfl) rfl
theorem held_spec (w : World) (c0 c1 c2 : Value) (m : Option Nat) :
    Calls Try.prog 109 #[.agg #[c0, c1, c2], .map m] w fun e w' => e = .returned (.func (.func 136) #[] #[ptr w.heap.size, ptr (w.heap.size + 1)]) ∧
      (w.alloc (.cells #[c0, c1, c2] 24)).alloc (.cells #[.map m] 56) = w' := by
  go_enter Try.func109, Try.ntmps109
  go_wp2_with fail
  go_ret
  exact ⟨rfl, rfl⟩
/-- The values of the elements that hold. -/
def heldVals (ks : List Int) (l : List Gt) (us : List Value) : List Value := ((l.zip us).filter fun p => p.1.holds ks).map (·.2)
theorem zip_take {α β : Type} : ∀ (k : Nat) (l : List α) (us : List β), (l.take k).zip (us.take k) = (l.zip us).take k
  | 0, _, _ => by simp
  | k + 1, [], _ => by simp
  | k + 1, _ :: _, [] => by simp
  | k + 1, x :: l, u :: us => by simp [zip_take k l us]
theorem heldVals_take (ks : List Int) (l : List Gt) (us : List Value) (k : Nat) (h : k < l.length) (h' : k < us.length) :
    heldVals ks (l.take (k + 1)) (us.take (k + 1)) = heldVals ks (l.take k) (us.take k) ++ (if l[k].holds ks then [us[k]] else []) := by
  unfold heldVals
  rw [zip_take, zip_take, List.take_succ_eq_append_getElem (by simp; omega), List.filter_append, List.map_append]
  congr 1
  simp only [List.getElem_zip, List.filter_cons, List.filter_nil]
  split <;> simp_all
theorem heldVals_prefix (ks : List Int) (l : List Gt) (us : List Value) (k : Nat) : heldVals ks (l.take k) (us.take k) <+: heldVals ks l us := by
  unfold heldVals
  rw [zip_take]
  exact ((List.take_prefix _ _).filter _).map _
theorem heldVals_length (ks : List Int) (l : List Gt) (us : List Value) (h : us.length = l.length) : ((heldVals ks l us).length : Int) = holdsL ks l := by
  rw [holdsL_len]
  unfold heldVals
  rw [List.length_map]
  have : ∀ (l : List Gt) (us : List Value), us.length = l.length → ((l.zip us).filter fun p => p.1.holds ks).length = (l.filter fun x => x.holds ks).length := by
    intro l
    induction l with
    | nil => intro us _; simp
    | cons g l ih =>
      intro us h
      cases us with
      | nil => simp at h
      | cons u us =>
        have := ih us (by simpa using h)
        simp only [List.zip_cons_cons, List.filter_cons]
        split <;> simp [this]
  rw [this l us h]
set_option maxHeartbeats 2000000 in
theorem held1_seq (w0 W : World) (l : List Gt) (us : List Value) (p n : Int) (a : Option Addr) (cap m : Nat) (ks : List Int) (b1 b2 : Nat) (M : Nat → Prop) (hus : us.length = l.length)
    (hvals : ∀ (j : Nat) (h : j < l.length) (h' : j < us.length), ∃ ad u, a = some ad ∧ us[j] = .agg #[.int .i64 l[j].p, .int .i64 l[j].n, u] ∧ w0.cell? (ad.add (j * 3)) = some (.int .i64 l[j].p) ∧ w0.cell? ((ad.add (j * 3)).add 1) = some (.int .i64 l[j].n) ∧ w0.cell? ((ad.add (j * 3)).add 2) = some u ∧ l[j].At w0 u)
    (hmax : l.length ≤ 3518437208883) (hcap : l.length ≤ cap) (hK : Keep w0 W)
    (hb1 : W.heap[b1]? = some (.cells #[.int .i64 p, .int .i64 n, .slice a l.length cap] 24 (0, 0))) (hb2 : Boxed W b2 56 (.map (some m)))
    (hM : ∀ k, M k → w0.heap.size ≤ k ∧ k ≠ b1 ∧ k ≠ b2)
    (H : ∀ x, x ∈ l → ∀ A val, Keep w0 A → IsG w0 x val → Calls Try.prog 67 #[val, .map (some m)] A fun e w' => e = .returned (.bool (x.holds ks)) ∧ Same A w') :
    SeqOf Try.prog 136 #[ptr b1, ptr b2] (fun _ args (u : Value) => args = #[u]) (heldVals ks l us) M W := by
  intro y W1 J X hC hy1 hy2 hJ hX hY h0
  have hb1' := (hC.same _ _ hb1 rfl)
  have hc1 : W1.cell? ⟨b1, 2, none⟩ = some (.slice a l.length cap) := by simp [World.cell?, hb1']
  have bb2 : Boxed W1 b2 56 (.map (some m)) := hC.same _ _ hb2 rfl
  have hlt1 : b1 < W.heap.size := (Array.getElem?_eq_some_iff.1 hb1).1
  have hlt2 : b2 < W.heap.size := hb2.lt
  refine callsIn_of_wp Try.func136 rfl trivial ?_ rfl
  simp only [Try.ntmps136, List.size_toArray, List.length_cons, List.length_nil, Nat.reduceAdd, Nat.reduceSub, Array.replicate_succ, Array.replicate_zero, List.push_toArray, List.append_toArray, List.nil_append, List.cons_append]
  have HH := Lib.hid H
  have HY := Lib.hid hY
  have HJ := Lib.hid hJ
  have HV := Lib.hid hvals
  have HM := Lib.hid hM
  clear H hY hJ hvals hM hX
  gi_wp2_with fail
  gi_loopw [9] (fun i wr => ∃ k : Nat, k ≤ l.length ∧ i = .int .i64 k ∧ J (heldVals ks (l.take k) (us.take k)) wr ∧ Turn W1.heap.size (fun q => M q ∨ q = y) W1 wr) (fun i _ => l.length - (intOf i).toNat)
  case atStart => exact ⟨0, Nat.zero_le _, rfl, by simpa [heldVals] using h0, Turn.refl _ _ _⟩
  case round =>
    obtain ⟨k, hk, rfl, hj, ht⟩ := hrel
    by_cases hlt : k < l.length
    · have hu' : k < us.length := by omega
      obtain ⟨ad, u, rfl, hval, c0, c1, c2, hat⟩ := HV.out k hlt hu'
      obtain ⟨au, cu, hu, -, -, -⟩ := hat.gs
      have hKr : Keep w0 wr := by
        refine ⟨Nat.le_trans (Nat.le_trans hK.size hC.size) ht.size, fun q o hq ho => ?_⟩
        have hql : q < w0.heap.size := (Array.getElem?_eq_some_iff.1 hq).1
        have := hK.size
        have := hC.size
        rw [ht.same q (by omega) (by rintro (h | h)
                                     · have := (HM.out q h).1; omega
                                     · omega)]
        exact hC.same q o (hK.same q o hq ho) ho
      have bbr : Boxed wr b2 56 (.map (some m)) := by
        unfold Boxed
        have := hC.size
        rw [ht.same b2 (by omega) (by rintro (h | h)
                                      · exact (HM.out _ h).2.2 rfl
                                      · omega)]
        exact bb2
      have d0 := hKr.cell c0
      have d1 := hKr.cell c1
      have d2 := hKr.cell c2
      rw [add_add_pos _ _ _ (by omega)] at d1 d2
      have hA : Same wr (wr.alloc (.cells #[.int .i64 l[k].p, .int .i64 l[k].n, u] 24)) := (Same.refl wr).alloc _
      have Hc := HH.out l[k] (List.getElem_mem _) (wr.alloc (.cells #[.int .i64 l[k].p, .int .i64 l[k].n, u] 24)) (.agg #[.int .i64 l[k].p, .int .i64 l[k].n, u]) (hKr.trans hA.keep) ⟨u, rfl, hat⟩
      have e2 := bbr.cell
      have l2 := bbr.lt
      clear c0 c1 c2 hat
      generalize hlu : l[k].l.length = lu at hu
      subst hu
      have HLU := Lib.hid hlu
      clear hlu
      have HVAL := Lib.hid hval
      clear hval
      have hz1 : W1.heap.size ≤ wr.heap.size := ht.size
      gi_wp2_with fail
      refine ⟨trivial, rfl, CallsIn.mono (callsIn_wide.2 Hc) ?_⟩
      clear Hc
      rintro e w2 ⟨rfl, hs⟩
      have hS2 : Same wr w2 := hA.trans hs
      obtain ⟨hcc, hff⟩ := hs.cells
      have hj2 := HJ.out _ wr w2 hj hz1 (hS2.calm hz1)
      have ht2 : Turn W1.heap.size (fun q => M q ∨ q = y) W1 w2 := ht.trans (hS2.turn hz1)
      have hstep := heldVals_take ks l us k hlt hu'
      cases hx : l[k].holds ks with
      | true =>
        rw [hx, if_pos rfl] at hstep
        have hpre : heldVals ks (l.take k) (us.take k) ++ [us[k]] <+: heldVals ks l us := by rw [← hstep]; exact heldVals_prefix ks l us (k + 1)
        have hy := HY.out _ _ w2 _ hpre hj2 rfl
        rw [HVAL.out] at hy
        obtain ⟨fn, tmps, assign, body, hyy, hR⟩ := hy
        have HST := Lib.hid hstep
        have HX := Lib.hid hx
        clear hstep hx hpre HV HH
        gi_wp2_with fail
        refine ⟨rfl, hR.mono ?_⟩
        clear hR
        rintro e w3 ⟨ht3, (⟨rfl, hj3⟩ | ⟨rfl, hx3⟩)⟩
        · gi_wp2_with fail
          go_roundw
          case rel => exact ⟨k + 1, by omega, by go_num, by rw [HST.out, HVAL.out]; exact hj3, ht2.trans ht3⟩
          case measure => simp [intOf]; omega
        · gi_wp2_with fail
          refine bodyPost_ret (results_none rfl _ _ _) rfl ?_
          exact ⟨⟨_, rfl⟩, .inr hx3⟩
      | false =>
        rw [hx, if_neg (by simp), List.append_nil] at hstep
        rw [← hstep] at hj2
        have HST := Lib.hid hstep
        have HX := Lib.hid hx
        clear hstep hx HV HH
        gi_wp2_with fail
        refine ⟨fun _ h => (by cases h), ?_⟩
        gi_wp2_with fail
        go_roundw
        case rel => exact ⟨k + 1, by omega, by go_num, hj2, ht2⟩
        case measure => simp [intOf]; omega
    · obtain rfl : k = l.length := by omega
      rw [List.take_length, ← hus, List.take_length] at hj
      gi_wp2_with fail
      go_end0
      exact ⟨⟨_, rfl⟩, .inl hj⟩
set_option maxHeartbeats 2000000 in
theorem holds_all (k : Nat) : ∀ (g : Gt) (w0 W : World) (val : Value) (m : Nat) (ks : List Int), SizeOf.sizeOf g < k → IsG w0 g val → Keep w0 W → g.right = true → MapSet w0 m ks (.int .i64 1) →
    Calls Try.prog 67 #[val, .map (some m)] W fun e w' => e = .returned (.bool (g.holds ks)) ∧ Same W w' := by
  induction k with
  | zero => intro g w0 W val m ks hk; omega
  | succ k ih =>
    intro g w0 W val m ks hk hg hK hright hm
    obtain ⟨v, rfl, hv⟩ := hg
    obtain ⟨p, n, l⟩ := g
    obtain ⟨a, cap, rfl, hcap, hmax, hl⟩ := hv.gs
    simp only [Gt.p_mk, Gt.n_mk, Gt.l_mk] at *
    clear hv
    by_cases hp : 0 ≤ p
    · clear ih hright
      have hS : Same W ((W.alloc (.cells #[.int .i64 p, .int .i64 n, .slice a l.length cap] 24)).alloc (.cells #[.bool false] 4)) := ((Same.refl W).alloc _).alloc _
      have hlk := run_lookup_set (P := Try.prog) Try.underlying56 Try.underlying3 (zero_int _) (hm.keep (hK.trans hS.keep)) p
      by_cases hmem : p ∈ ks
      · rw [if_pos hmem] at hlk
        refine calls_of_marks Try.func67 rfl ?_
        simp only [Try.ntmps67, List.size_toArray, List.length_cons, List.length_nil, Nat.reduceAdd, Nat.reduceSub, Array.replicate_succ, Array.replicate_zero, List.push_toArray, List.append_toArray, List.nil_append, List.cons_append]
        go_wp2_with fail
        refine postM_ret (v := .bool true) rfl (by simp [results, Try.results67, go_sem]) ⟨ret_bool (by simp [Gt.holds, hp, hmem]), ((Same.refl W).alloc _).alloc _⟩
      · rw [if_neg hmem] at hlk
        refine calls_of_marks Try.func67 rfl ?_
        simp only [Try.ntmps67, List.size_toArray, List.length_cons, List.length_nil, Nat.reduceAdd, Nat.reduceSub, Array.replicate_succ, Array.replicate_zero, List.push_toArray, List.append_toArray, List.nil_append, List.cons_append]
        go_wp2_with fail
        refine postM_ret (v := .bool false) rfl (by simp [results, Try.results67, go_sem]) ⟨ret_bool (by simp [Gt.holds, hp, hmem]), ((Same.refl W).alloc _).alloc _⟩
    · have hrr : 1 ≤ n ∧ n ≤ 4096 ∧ rightL l = true := by
        rw [Gt.right, if_neg hp] at hright
        simp at hright
        exact ⟨hright.2.1, hright.2.2.1, hright.2.2.2⟩
      obtain ⟨hn1, hn2, hrl⟩ := hrr
      have hrx : ∀ x, x ∈ l → x.right = true := by
        intro x hx
        rw [rightL_any] at hrl
        simp at hrl
        exact hrl x hx
      have Hc : ∀ x, x ∈ l → ∀ A val, Keep w0 A → IsG w0 x val → Calls Try.prog 67 #[val, .map (some m)] A fun e w' => e = .returned (.bool (x.holds ks)) ∧ Same A w' := by
        intro x hx A val hKA hxg
        refine ih x w0 A val m ks ?_ hxg hKA (hrx x hx) hm
        have := List.sizeOf_lt_of_mem hx
        simp only [Gt.mk.sizeOf_spec] at hk
        omega
      clear ih hright hrl hrx
      obtain ⟨us, hus, hvals⟩ := GsAt.vals hl
      simp only [Nat.zero_add] at hvals
      have hlen := heldVals_length ks l us hus
      have hfin : (Gt.mk p n l).holds ks = decide (n ≤ ((heldVals ks l us).length : Int)) := by rw [hlen, Gt.holds, if_neg hp]
      have HF := Lib.hid hfin
      have HC := Lib.hid Hc
      have HV := Lib.hid hvals
      have hmK := Lib.hid hm
      clear hfin Hc hvals hlen hm
      obtain ⟨W5, hW5⟩ : ∃ W5, W5 = (((((W.alloc (.cells #[.int .i64 p, .int .i64 n, .slice a l.length cap] 24)).alloc (.cells #[.bool false] 4)).alloc (.cells #[.int .i64 n] 3)).alloc
          (.cells #[.int .i64 p, .int .i64 n, .slice a l.length cap] 24)).alloc (.cells #[.map (some m)] 56)) := ⟨_, rfl⟩
      have hz5 : W5.heap.size = W.heap.size + 5 := by rw [hW5]; simp
      have hS5 : Same W W5 := by rw [hW5]; exact (((((Same.refl W).alloc _).alloc _).alloc _).alloc _).alloc _
      have br5 : Boxed W5 (W.heap.size + 1) 4 (.bool false) := by
        rw [hW5]; have := Boxed.new (W.alloc (.cells #[.int .i64 p, .int .i64 n, .slice a l.length cap] 24)) 4 (.bool false)
        rw [World.size_alloc] at this; exact ((this.alloc _).alloc _).alloc _
      have bl5 : Boxed W5 (W.heap.size + 1 + 1) 3 (.int .i64 n) := by
        rw [hW5]; have := Boxed.new ((W.alloc (.cells #[.int .i64 p, .int .i64 n, .slice a l.length cap] 24)).alloc (.cells #[.bool false] 4)) 3 (.int .i64 n)
        rw [World.size_alloc, World.size_alloc] at this; exact (this.alloc _).alloc _
      have b15 : W5.heap[W.heap.size + 1 + 1 + 1]? = some (.cells #[.int .i64 p, .int .i64 n, .slice a l.length cap] 24 (0, 0)) := by
        have := World.alloc_heap_new (((W.alloc (.cells #[.int .i64 p, .int .i64 n, .slice a l.length cap] 24)).alloc (.cells #[.bool false] 4)).alloc (.cells #[.int .i64 n] 3)) (.cells #[.int .i64 p, .int .i64 n, .slice a l.length cap] 24)
        rw [World.size_alloc, World.size_alloc, World.size_alloc] at this
        rw [hW5, Below.heap_alloc _ _ _ (by simp)]; exact this
      have b25 : Boxed W5 (W.heap.size + 1 + 1 + 1 + 1) 56 (.map (some m)) := by
        rw [hW5]; have := Boxed.new ((((W.alloc (.cells #[.int .i64 p, .int .i64 n, .slice a l.length cap] 24)).alloc (.cells #[.bool false] 4)).alloc (.cells #[.int .i64 n] 3)).alloc (.cells #[.int .i64 p, .int .i64 n, .slice a l.length cap] 24)) 56 (.map (some m))
        rw [World.size_alloc, World.size_alloc, World.size_alloc, World.size_alloc] at this; exact this
      have hKz := hK.size
      have hM1 : ∀ q, q = W.heap.size + 1 ∨ q = W.heap.size + 1 + 1 → w0.heap.size ≤ q ∧ q ≠ W.heap.size + 1 + 1 + 1 ∧ q ≠ W.heap.size + 1 + 1 + 1 + 1 := by intro q hq; omega
      have hseq := held1_seq w0 W5 l us p n a cap m ks (W.heap.size + 1 + 1 + 1) (W.heap.size + 1 + 1 + 1 + 1) (fun q => q = W.heap.size + 1 ∨ q = W.heap.size + 1 + 1) hus HV.out hmax hcap (hK.trans hS5.keep) b15 b25 hM1 HC.out
      have HW5 := Lib.hid hW5
      have HSEQ := Lib.hid hseq
      have HZ := Lib.hid hz5
      clear hW5 hseq hM1 HV HC b15 b25 hz5
      generalize hxs : heldVals ks l us = xs at *
      have HXS := Lib.hid hxs
      clear hxs
      refine calls_of_marks Try.func67 rfl ?_
      simp only [Try.ntmps67, List.size_toArray, List.length_cons, List.length_nil, Nat.reduceAdd, Nat.reduceSub, Array.replicate_succ, Array.replicate_zero, List.push_toArray, List.append_toArray, List.nil_append, List.cons_append]
      go_wp2_with fail
      refine (held_spec _ _ _ _ _).mono ?_
      rintro e w1 ⟨rfl, rfl⟩
      go_wp2_with fail
      rw [← HW5.out]
      refine wp_range (M := fun q => q = W.heap.size + 1 ∨ q = W.heap.size + 1 + 1) 136 #[ptr (W.heap.size + 1 + 1 + 1), ptr (W.heap.size + 1 + 1 + 1 + 1)] rfl enters_held1 HSEQ.out (fun _ _ _ h => by rw [h]; rfl) (fun q hq => by have := HZ.out; omega)
        (fun pre A => (pre.length : Int) < n ∧ Boxed A (W.heap.size + 1 + 1) 3 (.int .i64 (n - pre.length)) ∧ Boxed A (W.heap.size + 1) 4 (.bool false) ∧ Turn W5.heap.size (fun q => q = W.heap.size + 1 ∨ q = W.heap.size + 1 + 1) W5 A)
        (fun A => n ≤ (xs.length : Int) ∧ Boxed A (W.heap.size + 1) 4 (.bool true) ∧ Turn W5.heap.size (fun q => q = W.heap.size + 1 ∨ q = W.heap.size + 1 + 1) W5 A)
        (fun pre => (stable_pure _ _).and ((stable_boxed _ _ _ _).and ((stable_boxed _ _ _ _).and (stable_turn _ _ _)))) ((stable_pure _ _).and ((stable_boxed _ _ _ _).and (stable_turn _ _ _)))
        ⟨by simp; omega, by simpa using bl5, br5, Turn.refl _ _ _⟩ ?round ?done ?stop
      case round =>
        rintro y pre x A args hy1 hy2 hpre ⟨hlt, bl, br, ht⟩ rfl hsz
        refine wpIn_skip ⟨Calm.refl _ _, fun A2 hcA hzA => ?_⟩
        have bl2 : Boxed A2 (W.heap.size + 1 + 1) 3 (.int .i64 (n - pre.length)) := hcA.same _ _ bl rfl
        have br2 : Boxed A2 (W.heap.size + 1) 4 (.bool false) := hcA.same _ _ br rfl
        have ht2 := ht.trans (hcA.turn (M := fun q => q = W.heap.size + 1 ∨ q = W.heap.size + 1 + 1))
        have c1 := bl2.cell
        have f1 := bl2.frozen
        have l1 := bl2.lt
        have c2 := br2.cell
        have f2 := br2.frozen
        have l2 := br2.lt
        have hpl := hpre.length_le
        rw [List.length_append, List.length_singleton] at hpl
        have hz5 := HZ.out
        have hzz : W5.heap.size ≤ A2.heap.size := by omega
        have HZ5 := Lib.hid hz5
        clear hz5
        have T1 := Turn.setCell (n := W5.heap.size + 2) (M := fun q => q = W.heap.size + 1 ∨ q = W.heap.size + 1 + 1) A2 (p := ⟨W.heap.size + 1 + 1, 0, none⟩) (.int .i64 (n - pre.length - 1)) (.inr (.inr rfl))
        by_cases hone : n - pre.length - 1 = 0
        · have hb : (n - pre.length - 1 == 0) = true := by simpa using hone
          have HONE := Lib.hid hone
          clear hone
          gi_wp2_with fail
          have hxn : n ≤ (xs.length : Int) := by have := HONE.out; omega
          have T2 := Turn.setCell (n := W5.heap.size + 2) (M := fun q => q = W.heap.size + 1 ∨ q = W.heap.size + 1 + 1) (A2.setCell ⟨W.heap.size + 1 + 1, 0, none⟩ (.int .i64 (n - pre.length - 1))) (p := ⟨W.heap.size + 1, 0, none⟩) (.bool true) (.inr (.inl rfl))
          exact ⟨T1.trans T2, hxn, (br2.other (by omega) _).set _, ht2.trans ((T1.trans T2).mono (by omega) (fun _ h => h))⟩
        · have hb : (n - pre.length - 1 == 0) = false := by simpa using hone
          have HONE := Lib.hid hone
          clear hone
          gi_wp2_with fail
          have hlt' : ((pre ++ [x]).length : Int) < n := by rw [List.length_append, List.length_singleton]; have := HONE.out; omega
          have hln : n - ((pre ++ [x]).length : Int) = n - pre.length - 1 := by rw [List.length_append, List.length_singleton]; omega
          exact ⟨T1, hlt', by rw [hln]; exact bl2.set _, br2.other (by omega) _, ht2.trans (T1.mono (by omega) (fun _ h => h))⟩
      case done =>
        rintro B ⟨hlt, bl, br, ht⟩ hD hzB
        have c2 := br.cell
        have f2 := br.frozen
        have l2 := br.lt
        have hz5 := HZ.out
        have hD2 : (B.setCell ⟨W.heap.size + 1, 0, none⟩ (.bool false)).heap[W5.heap.size]? = some (.deferred (some [])) := (Below.heap_setCell _ _ _ _ (by simp; omega)).trans hD
        have br2 := Boxed.putObj (o' := .deferred none) (br.set (.bool false)) hD2 rfl
        have e2 := br2.cell
        have hB := ht.trans (Turn.setCell (n := W5.heap.size) (M := fun q => q = W.heap.size + 1 ∨ q = W.heap.size + 1 + 1) B (p := ⟨W.heap.size + 1, 0, none⟩) (.bool false) (.inr (.inl rfl)))
        have hSB : Same W ((B.setCell ⟨W.heap.size + 1, 0, none⟩ (.bool false)).putObj W5.heap.size (.deferred none)) := Same.putObj ⟨hS5.out.trans (hB.below (by omega) (by intro q hq; omega))⟩ (by omega)
        have HD2 := Lib.hid hD2
        have HE2 := Lib.hid e2
        have HZ5 := Lib.hid hz5
        clear hD2 e2 hz5 hD
        go_wp2_with fail
        have e2 := HE2.out
        refine postM_mark (D := W5.heap.size) (v := .bool false) rfl HD2.out (by simp [results, Try.results67, go_sem, e2]) ⟨ret_bool ?_, hSB⟩
        rw [HF.out]
        simp
        omega
      case stop =>
        rintro B ⟨hle, br, ht⟩ hD hzB
        have hz5 := HZ.out
        have br2 := Boxed.putObj (o' := .deferred none) br hD rfl
        have e2 := br2.cell
        have hSB : Same W (B.putObj W5.heap.size (.deferred none)) := Same.putObj ⟨hS5.out.trans (ht.below (by omega) (by intro q hq; omega))⟩ (by omega)
        have HD2 := Lib.hid hD
        have HE2 := Lib.hid e2
        have HZ5 := Lib.hid hz5
        clear hD e2 hz5
        simp only [Exit.inBlock, Exit.then]
        have e2 := HE2.out
        refine postM_mark (D := W5.heap.size) (v := .bool true) rfl HD2.out (by simp [results, Try.results67, go_sem, e2]) ⟨ret_bool ?_, hSB⟩
        rw [HF.out]
        simpa using hle
end Go.Proofs.Ytmnpbopkhpbhiaa
