/- minimal: the smallest sets, as an iterator. -/
import Derived.Test.YtmnpbopkhpbhiaaPlainMin
import Derived.LoopIn
set_option linter.unusedVariables false
set_option linter.unusedSimpArgs false
namespace Go.Proofs.Ytmnpbopkhpbhiaa
open Go.RowKit
set_option maxRecDepth 100000
attribute [local go_sem] Oper.semAt_some
def RNat (_ : World) (args : Array Value) (s : Nat) : Prop := args = #[.int .u64 s]
set_option maxHeartbeats 4000000 in
theorem small1_seq (w0 W : World) (n : Nat) (F : Nat → Bool) (fine : Value) (a : Option Addr) (c b1 b2 : Nat) (f : Value) (M : Nat → Prop) (hn : n ≤ 12) (hF : Fine w0 fine n F) (hK : Keep w0 W)
    (hb1 : Rec W b1 87 #[.slice a n c, .int .u64 ((2 ^ n - 1 : Nat) : Int), f]) (hb2 : Boxed W b2 85 fine) (hM : ∀ k, M k → w0.heap.size ≤ k ∧ k ≠ b1 ∧ k ≠ b2) :
    SeqOf Try.prog 139 #[ptr b1, ptr b2] RNat (smallF F n (2 ^ n)) M W := by
  intro y W1 J X hC hy1 hy2 hJ hX hY h0
  obtain ⟨kf, fst, lb, rfl, ekf, hcall⟩ := hF
  have hb1' := hC.same _ _ hb1 rfl
  have bb1 : Rec W1 b1 87 #[.slice a n c, .int .u64 ((2 ^ n - 1 : Nat) : Int), f] := hb1'
  have bb2 : Boxed W1 b2 85 (.func (.func kf) fst lb) := hC.same _ _ hb2 rfl
  have hb1l : b1 < W.heap.size := Rec.lt hb1
  have hb2l : b2 < W.heap.size := hb2.lt
  have l1 := bb1.lt
  have l2 := bb2.lt
  obtain ⟨m, hm⟩ : ∃ m : Nat, m = 2 ^ n := ⟨_, rfl⟩
  have hm1 : 1 ≤ m := by rw [hm]; exact Nat.one_le_two_pow
  have hm2 : m ≤ 4096 := by rw [hm]; exact pow_le hn
  have hum : ((2 ^ n - 1 : Nat) : Int) = (m : Int) - 1 := by rw [← hm]; omega
  rw [hum] at bb1
  rw [← hm] at hY ⊢
  have HY := Lib.hid hY
  have HJ := Lib.hid hJ
  have HM := Lib.hid hM
  have HCALL := Lib.hid hcall
  have HB1 := Lib.hid bb1
  have HB2 := Lib.hid bb2
  have HMM := Lib.hid hm
  clear hY hJ hM hX hcall hb1 hb2 hb1' hum hm
  refine (callsIn_wide (n := 0)).2 ?_
  go_enter Try.func139, Try.ntmps139
  go_wp2_with fail
  go_loopw [4] (fun i wr => ∃ s : Nat, s ≤ m ∧ i = .int .u64 s ∧ J (smallF F n s) wr ∧ Turn W1.heap.size (fun q => M q ∨ q = y) W1 wr) (fun i _ => m - (intOf i).toNat)
  case atStart => exact ⟨0, Nat.zero_le _, rfl, h0, Turn.refl _ _ _⟩
  case round =>
    obtain ⟨s, hs, rfl, hj, ht⟩ := hrel
    obtain ⟨wo, hwo⟩ : ∃ wo, wo = wr := ⟨_, rfl⟩
    subst hwo
    have hz1 : W1.heap.size ≤ wo.heap.size := ht.size
    have hKr : Keep w0 wo := by
      refine ⟨Nat.le_trans (Nat.le_trans hK.size hC.size) ht.size, fun q o hq ho => ?_⟩
      have hql : q < w0.heap.size := (Array.getElem?_eq_some_iff.1 hq).1
      have := hK.size
      have := hC.size
      rw [ht.same q (by omega) (by rintro (h | h)
                                   · have := (HM.out q h).1; omega
                                   · omega)]
      exact hC.same q o (hK.same q o hq ho) ho
    have b1r : Rec wo b1 87 #[.slice a n c, .int .u64 ((m : Int) - 1), f] := by
      have bq := HB1.out
      unfold Rec at bq ⊢
      rw [ht.same b1 l1 (by rintro (h | h)
                            · exact (HM.out _ h).2.1 rfl
                            · have := hb1l; omega)]
      exact bq
    have b2r : Boxed wo b2 85 (.func (.func kf) fst lb) := by
      have bq := HB2.out
      unfold Boxed at bq ⊢
      rw [ht.same b2 l2 (by rintro (h | h)
                            · exact (HM.out _ h).2.2 rfl
                            · have := hb2l; omega)]
      exact bq
    have q0 := b1r.cell 0
    have q1 := b1r.cell 1
    have k1 := b1r.lt
    simp at q0 q1
    have q3 := b2r.cell
    have k3 := b2r.lt
    by_cases hlt : s < m
    · have HF := Lib.hid fun W (h : Same wo W) (t : Nat) (ht : t < m) => HCALL.out W t (hKr.trans h.keep) (by rw [← HMM.out]; exact ht)
      have Hc := HF.out wo (Same.refl _) s hlt
      have z1 : (s : Int) ≤ (m : Int) - 1 := by omega
      have HB1r := Lib.hid b1r
      have HB2r := Lib.hid b2r
      have hm12 : s < 4096 := by omega
      clear hKr b1r b2r
      go_wp2_with fail
      refine Hc.mono ?_
      clear Hc
      rintro e wa ⟨rfl, hsa⟩
      have q0a := hsa.keep.cell q0
      have k1a : b1 < wa.heap.size := Nat.lt_of_lt_of_le k1 hsa.size
      have hlst : F s = least F s 0 := rfl
      rw [hlst]
      clear q0 q1 q3 k1 k3 hlst
      go_wp2_with fail
      go_loopw [5, 19] (fun v5 i wx => ∃ (j : Nat) (bv : Bool), j ≤ n ∧ i = .int .i64 j ∧ v5 = .bool bv ∧ Hid (bv = least F s j) ∧ Same wo wx) (fun _ i _ => n - (intOf i).toNat)
      case atStart => exact ⟨0, _, Nat.zero_le _, rfl, rfl, Lib.hid rfl, hsa⟩
      case round =>
        obtain ⟨j, bv, hjn, rfl, rfl, hbv, hsx⟩ := hrel
        by_cases hjl : j < n
        · obtain ⟨M, hM⟩ : ∃ M : Nat, M = 2 ^ j := ⟨_, rfl⟩
          have hMle : M ≤ 4096 := by rw [hM]; exact (Nat.pow_le_pow_right (by omega) (by omega) : 2 ^ j ≤ 2 ^ 12)
          have hpow : (2 : Int) ^ j = (M : Int) := by rw [hM]; simp
          have hwr : IntKind.u64.wrap (M : Int) = (M : Int) := IntWalk.u64_in _ (by omega)
          obtain ⟨q, hq⟩ : ∃ q : Nat, q = s / 2 ^ j := ⟨_, rfl⟩
          have hq2 : (s : Int) / (M : Int) = (q : Int) := by rw [hq, hM]; simp
          have hq3 : q < 4096 := by rw [hq]; exact Nat.lt_of_le_of_lt (Nat.div_le_self _ _) hm12
          have hbit := bit_and_u q hq3
          have hl1 : least F s (j + 1) = (least F s j && (decide (q % 2 = 0) || !F (s - M))) := by rw [least, hq, hM]
          rw [← hbv.out] at hl1
          have hcl := bit_clr j (by omega) s hm12
          rw [← hq, ← hM] at hcl
          have HL1 := Lib.hid hl1
          have b2x := Boxed.same hsx HB2r.out
          have q3 := b2x.cell
          have k3 := b2x.lt
          have z0 : (0 : Int) ≤ (j : Int) := by omega
          clear hl1 hM hq hbv
          cases bv with
          | false =>
            clear hbit hcl
            go_wp2_with fail
            go_quiet (fail)
            go_wp2_with fail
            go_roundw
            case rel => exact ⟨j + 1, false, by omega, by go_num, rfl, Lib.hid (by rw [HL1.out]; rfl), hsx.drewN _⟩
            case measure => simp [intOf]; omega
          | true =>
            by_cases hb : q % 2 = 1
            · rw [if_pos hb] at hbit
              have hcl := hcl hb
              obtain ⟨r, hr⟩ : ∃ r : Nat, r = s - M := ⟨_, rfl⟩
              rw [← hr] at hcl HL1
              have Hc := fun W (h : Same wo W) => HF.out W h r (by omega)
              have HB := Lib.hid hb
              clear hb hr
              go_wp2_with fail
              go_region_held3 (fun W => W.cell? ⟨b2, 0, none⟩ = some (.func (.func kf) fst lb) ∧ Same wo W)
                (((try go_split_ands); refine ⟨?_, ?_⟩ <;> repeat (first | assumption | exact Same.refl _ | apply Same.drew | apply cell_drew)))
                (first
                  | (((try go_split_ands); refine (Hc _ (by repeat (first | assumption | apply Same.drew))).mono ?_; rintro e w6 ⟨rfl, hs6⟩; have hS6 : Same wo w6 := Same.trans (by repeat (first | assumption | apply Same.drew)) hs6; have r1 := hs6.keep.cell q3))
                  | (fail))
              go_wp2_with fail
              go_roundw
              case rel => exact ⟨j + 1, !F r, by omega, by go_num, rfl, Lib.hid (by rw [HL1.out, HB.out]; rfl), hS6⟩
              case measure => simp [intOf]; omega
            · rw [if_neg hb] at hbit
              have HB := Lib.hid hb
              clear hb hcl
              go_wp2_with fail
              go_quiet (fail)
              go_wp2_with fail
              go_roundw
              case rel => exact ⟨j + 1, true, by omega, by go_num, rfl, Lib.hid (by rw [HL1.out, show q % 2 = 0 from by have := HB.out; omega]; rfl), hsx.drewN _⟩
              case measure => simp [intOf]; omega
        · obtain rfl : n = j := by omega
          have hj2 := HJ.out _ _ _ hj hz1 (hsx.calm hz1)
          have ht2 := ht.trans (hsx.turn hz1)
          have hsn : smallF F n (s + 1) = smallF F n s ++ (if least F s n then [s] else []) := rfl
          rw [← hbv.out] at hsn
          have HSN := Lib.hid hsn
          clear hsn hbv
          cases bv with
          | false =>
            go_wp2_with fail
            go_roundw
            case rel => exact ⟨s + 1, by omega, by go_num, by rw [HSN.out]; simpa using hj2, ht2⟩
            case measure => simp [intOf]; omega
          | true =>
            have hpre : smallF F n s ++ [s] <+: smallF F n m := by
              have h1 := smallF_prefix F n (s + 1) m (by omega)
              rw [HSN.out, if_pos rfl] at h1
              exact h1
            have hY1 := HY.out _ _ _ _ hpre hj2 rfl
            obtain ⟨fn, tmps, assign, body, hyy, hR⟩ := hY1
            have HJ2 := Lib.hid hj2
            clear hpre hj2
            refine (wpIn_wide (n := 0)).1 ?_
            gi_wp2_with fail
            refine (wpIn_wide (n := 0)).1 ?_
            gi_wp2_with fail
            refine ⟨rfl, hR.mono ?_⟩
            clear hR
            rintro e w3 ⟨ht4, (⟨rfl, hj4⟩ | ⟨rfl, hx4⟩)⟩
            · gi_wp2_with fail
              go_wp2_with fail
              go_roundw
              case rel => exact ⟨s + 1, by omega, by go_num, by rw [HSN.out]; exact hj4, ht2.trans ht4⟩
              case measure => simp [intOf]; omega
            · gi_wp2_with fail
              refine bodyPost_ret (results_none rfl _ _ _) rfl ?_
              exact ⟨⟨_, rfl⟩, .inr hx4⟩
    · obtain rfl : m = s := by omega
      have z1 : ¬ (m : Int) ≤ (m : Int) - 1 := by omega
      go_wp2_with fail
      go_end0
      exact ⟨⟨_, rfl⟩, .inl hj⟩
end Go.Proofs.Ytmnpbopkhpbhiaa
