/- living.subsets: all sets of some people. -/
import Derived.Test.YtmnpbopkhpbhiaaDelete
import Derived.Test.YtmnpbopkhpbhiaaBits
import Derived.LoopIn
set_option linter.unusedVariables false
set_option linter.unusedSimpArgs false
namespace Go.Proofs.Ytmnpbopkhpbhiaa
open Go.RowKit
set_option maxRecDepth 100000
attribute [local go_sem] Oper.semAt_some
/-- The first j people whose bits are set in s; the highest bit is the first one's. -/
def selD (ps : List Int) (s : Nat) : Nat → List Int
  | 0 => []
  | j + 1 => selD ps s j ++ (if s / 2 ^ (ps.length - 1 - j) % 2 = 1 then [ps.getD j 0] else [])
/-- The sets with so many people among the d highest numbers. -/
def lvD (ps : List Int) (size : Nat) : Nat → List (List Int)
  | 0 => []
  | d + 1 => lvD ps size d ++ (if popc 12 (2 ^ ps.length - 1 - d) = size then [selD ps (2 ^ ps.length - 1 - d) ps.length] else [])
/-- Of the first k sizes. -/
def szD (ps : List Int) : Nat → List (List Int)
  | 0 => []
  | k + 1 => szD ps k ++ lvD ps k (2 ^ ps.length)
theorem bit_and : ∀ q : Nat, q < 4096 → bits .and .i64 (q : Int) 1 = if q % 2 = 1 then 1 else 0 := by decide +kernel
theorem selD_len (ps : List Int) (s : Nat) : ∀ j, (selD ps s j).length ≤ j
  | 0 => by simp [selD]
  | j + 1 => by
    have := selD_len ps s j
    rw [selD, List.length_append]
    split <;> simp <;> omega
def allSubs (ps : List Int) : List (List Int) := szD ps (ps.length + 1)
theorem szD_prefix (ps : List Int) : ∀ (k m : Nat), k ≤ m → szD ps k <+: szD ps m
  | k, 0, h => by obtain rfl : k = 0 := by omega
                  exact List.prefix_rfl
  | k, m + 1, h => by
    rcases Nat.lt_or_ge k (m + 1) with h1 | h1
    · exact (szD_prefix ps k m (by omega)).trans (List.prefix_append _ _)
    · obtain rfl : k = m + 1 := by omega
      exact List.prefix_rfl
theorem lvD_prefix (ps : List Int) (size : Nat) : ∀ (k m : Nat), k ≤ m → lvD ps size k <+: lvD ps size m
  | k, 0, h => by obtain rfl : k = 0 := by omega
                  exact List.prefix_rfl
  | k, m + 1, h => by
    rcases Nat.lt_or_ge k (m + 1) with h1 | h1
    · exact (lvD_prefix ps size k m (by omega)).trans (List.prefix_append _ _)
    · obtain rfl : k = m + 1 := by omega
      exact List.prefix_rfl
/-- What is handed over. -/
def RSet (A : World) (args : Array Value) (x : List Int) : Prop := ∃ u, args = #[u] ∧ Ints A u x
set_option maxHeartbeats 4000000 in
theorem subsets1_seq (w0 W : World) (ps : List Int) (vp : Value) (b1 : Nat) (M : Nat → Prop) (hps : Ints w0 vp ps) (hn : ps.length ≤ 12) (hK : Keep w0 W) (hb1 : Boxed W b1 25 vp) (hM : ∀ k, M k → w0.heap.size ≤ k ∧ k ≠ b1) :
    SeqOf Try.prog 103 #[ptr b1] RSet (allSubs ps) M W := by
  intro y W1 J X hC hy1 hy2 hJ hX hY h0
  have hvp : ∃ a c, vp = .slice a ps.length c := by obtain ⟨a, c, e, _⟩ := hps; exact ⟨a, c, e⟩
  obtain ⟨a, cap, rfl⟩ := hvp
  have bb1 : Boxed W1 b1 25 (.slice a ps.length cap) := hC.same _ _ hb1 rfl
  have c1 := bb1.cell
  have l1 := bb1.lt
  have HY := Lib.hid hY
  have HJ := Lib.hid hJ
  have HM := Lib.hid hM
  have HP := Lib.hid hps
  have hB1 := Lib.hid hb1
  clear hY hJ hM hX hps hb1
  generalize hnn : ps.length = n at *
  have HN := Lib.hid hnn
  clear hnn
  refine callsIn_of_wp Try.func103 rfl trivial ?_ rfl
  simp only [Try.ntmps103, List.size_toArray, List.length_cons, List.length_nil, Nat.reduceAdd, Nat.reduceSub, Array.replicate_succ, Array.replicate_zero, List.push_toArray, List.append_toArray, List.nil_append, List.cons_append]
  refine wpIn_scope_straight ?_
  gi_wp2_with fail
  refine wpIn_label ?_
  simp only [Exit.then]
  gi_wp2_with fail
  have hm0 : ∃ m : Nat, 2 ^ n = m := ⟨_, rfl⟩
  obtain ⟨m, hm⟩ := hm0
  have hm1 : 1 ≤ m := by rw [← hm]; exact Nat.one_le_two_pow
  have hm2 : m ≤ 4096 := by rw [← hm]; exact Nat.pow_le_pow_right (by decide) hn
  have e2 : (2 : Int) ^ n = (m : Int) := by rw [← hm]; simp
  gi_loopw [13] (fun i wr => ∃ k : Nat, k ≤ n + 1 ∧ i = .int .i64 k ∧ J (szD ps k) wr ∧ Turn W1.heap.size (fun q => M q ∨ q = y) W1 wr) (fun i _ => n + 1 - (intOf i).toNat)
  case atStart => exact ⟨0, Nat.zero_le _, rfl, h0, Turn.refl _ _ _⟩
  case round =>
    obtain ⟨k, hk, rfl, hj, ht⟩ := hrel
    have HM2 := Lib.hid hm
    clear hm
    by_cases hlt : k < n + 1
    · have hlt2 : (k : Int) < (n : Int) + 1 := by omega
      gi_wp2_with fail
      gi_loopw [5] (fun i wr => ∃ d : Nat, d ≤ m ∧ i = .int .i64 ((m : Int) - 1 - d) ∧ J (szD ps k ++ lvD ps k d) wr ∧ Turn W1.heap.size (fun q => M q ∨ q = y) W1 wr) (fun i _ => (intOf i + 1).toNat)
      case atStart => exact ⟨0, Nat.zero_le _, by go_num, by simpa [lvD] using hj, ht⟩
      case round =>
        obtain ⟨d, hd, rfl, hj2, ht2⟩ := hrel
        clear hj ht
        by_cases hdl : d < m
        · obtain ⟨s, hs⟩ : ∃ s : Nat, s = m - 1 - d := ⟨_, rfl⟩
          have hs2 : (m : Int) - 1 - d = (s : Int) := by omega
          have hs3 : s < 4096 := by omega
          rw [hs2]
          have HO := ones_spec wr s hs3
          have HS := Lib.hid hs
          clear hs
          have hz1 : W1.heap.size ≤ wr.heap.size := ht2.size
          have hKr : Keep w0 wr := by
            refine ⟨Nat.le_trans (Nat.le_trans hK.size hC.size) ht2.size, fun q o hq ho => ?_⟩
            have hql : q < w0.heap.size := (Array.getElem?_eq_some_iff.1 hq).1
            have := hK.size
            have := hC.size
            rw [ht2.same q (by omega) (by rintro (h | h)
                                          · have := (HM.out q h).1; omega
                                          · omega)]
            exact hC.same q o (hK.same q o hq ho) ho
          have bbr : Boxed wr b1 25 (.slice a n cap) := by
            have hlt1 := hB1.out.lt
            have bq := bb1
            unfold Boxed at bq ⊢
            rw [ht2.same b1 l1 (by rintro (h | h)
                                   · exact (HM.out _ h).2 rfl
                                   · omega)]
            exact bq
          have cb := bbr.cell
          have lb := bbr.lt
          gi_wp2_with fail
          refine ⟨trivial, rfl, CallsIn.mono (callsIn_wide.2 HO) ?_⟩
          clear HO
          rintro e w2 ⟨rfl, rfl⟩
          have hlv : lvD ps k (d + 1) = lvD ps k d ++ (if popc 12 s = k then [selD ps s n] else []) := by
            rw [lvD, HN.out, HM2.out, HS.out]
          have HLV := Lib.hid hlv
          clear hlv
          by_cases hpk : popc 12 s = k
          · have hpk' : (popc 12 s : Int) = (k : Int) := by omega
            rw [if_pos hpk] at HLV
            clear hpk
            gi_wp2_with fail
            gi_loopw [30, 6] (fun i u A => ∃ j : Nat, j ≤ n ∧ i = .int .i64 j ∧ Own A wr.heap.size 3 u (intVs (selD ps s j)) ∧ Same wr A) (fun i _ _ => n - (intOf i).toNat)
            case atStart => exact ⟨0, Nat.zero_le _, rfl, World.ownsRow_nil _ _ _ _, Same.refl _⟩
            case round =>
              obtain ⟨j, hj, rfl, hown, hsA⟩ := hrel
              by_cases hjl : j < n
              · obtain ⟨a', cap', e', -, -, hcell⟩ := HP.out
                obtain ⟨ad, u, ha, hu, hr⟩ := hcell j (by rw [HN.out]; exact hjl)
                have ea : a = a' := by injection e'
                subst ea
                subst ha
                unfold RInt at hr
                subst hr
                have hu2 := (hKr.trans hsA.keep).cell hu
                have hgd : ps[j]'(by rw [HN.out]; exact hjl) = ps.getD j 0 := by rw [List.getD_eq_getElem?_getD, List.getElem?_eq_getElem (by rw [HN.out]; exact hjl)]; rfl
                have hsel : selD ps s (j + 1) = selD ps s j ++ (if s / 2 ^ (n - 1 - j) % 2 = 1 then [ps.getD j 0] else []) := by rw [selD, HN.out]
                rw [hgd] at hu2
                generalize ps.getD j 0 = pj at *
                have hlen : (selD ps s j).length ≤ j := selD_len ps s j
                have hin := own_ints hown (by omega)
                obtain ⟨a6, c6, rfl, -, -, -⟩ := hin
                obtain ⟨q, hq⟩ : ∃ q : Nat, q = s / 2 ^ (n - 1 - j) := ⟨_, rfl⟩
                have hq2 : (s : Int) / 2 ^ (n - 1 - j) = (q : Int) := by rw [hq]; simp
                have hq3 : q < 4096 := by rw [hq]; exact Nat.lt_of_le_of_lt (Nat.div_le_self _ _) hs3
                have hbit := bit_and q hq3
                rw [← hq] at hsel
                have HSEL := Lib.hid hsel
                have HE := Lib.hid e'
                clear hsel hgd hcell hu e' hq
                by_cases hb : q % 2 = 1
                · rw [if_pos hb] at HSEL
                  rw [if_pos hb] at hbit
                  have hzA := hsA.size
                  have HLN := Lib.hid hlen
                  have HA := Lib.hid ((own_at hown).alloc (.cells #[.int .i64 pj] 3))
                  have HOWN := Lib.hid hown
                  have HB1 := Lib.hid (show ((intVs (selD ps s j)).length + 1) * 8 ≤ 140737488355328 by rw [intVs_len]; have := HLN.out; omega)
                  have HB2 := Lib.hid (hsA.alloc (.cells #[.int .i64 pj] 3)).size
                  clear hlen hown
                  gi_wp2_with (gi_at_builtin; refine append1In (g := wr.heap.size) (wr.alloc (.cells #[.int .i64 pj] 3)) rfl _ _ 25 rfl Try.underlying25 info_int rfl HA.out rfl (.int .i64 pj) rfl (cell_one_new _ _ _ 0 _ rfl) rfl HB1.out (by decide) HB2.out ?_)
                  rintro a7 n7 c7 w' hown' hgr
                  have hgr' := World.grownBy.trans (World.grownBy_alloc wr (.cells #[.int .i64 pj] 3) _) hgr
                  have hs4 := hsA.grown hgr' (fun q hq => (own_base HOWN.out hq).1)
                  have HO2 := Lib.hid hown'
                  clear hown'
                  gi_wp2_with fail
                  go_roundw
                  case rel => exact ⟨j + 1, by omega, by go_num, by rw [HSEL.out, intVs_snoc]; exact HO2.out, hs4⟩
                  case measure => simp [intOf] <;> omega
                · rw [if_neg hb] at HSEL
                  rw [if_neg hb] at hbit
                  rw [List.append_nil] at HSEL
                  have HOWN := Lib.hid hown
                  clear hown
                  gi_wp2_with fail
                  go_roundw
                  case rel => exact ⟨j + 1, by omega, by go_num, by rw [HSEL.out]; exact HOWN.out, hsA⟩
                  case measure => simp [intOf] <;> omega
              · obtain rfl : n = j := by omega
                have hsl : selD ps s n = selD ps s n := rfl
                have hlen : (selD ps s n).length ≤ 17592186044416 := by have := selD_len ps s n; omega
                have hin := own_ints hown hlen
                have hzA := hsA.size
                have hj3 := HJ.out _ _ _ hj2 hz1 (hsA.calm hz1)
                have ht3 := ht2.trans (hsA.turn hz1)
                have hpre : (szD ps k ++ lvD ps k d) ++ [selD ps s n] <+: allSubs ps := by
                  have h1 : szD ps k ++ lvD ps k (d + 1) <+: szD ps (k + 1) := by
                    rw [szD, HN.out, HM2.out]
                    exact (List.prefix_append_right_inj _).2 (lvD_prefix ps k (d + 1) m (by omega))
                  rw [List.append_assoc, ← HLV.out]
                  exact h1.trans (by rw [allSubs, HN.out]; exact szD_prefix ps (k + 1) (n + 1) (by omega))
                have hY1 := HY.out _ _ _ _ hpre hj3 ⟨_, rfl, hin⟩
                obtain ⟨fn, tmps, assign, body, hyy, hR⟩ := hY1
                obtain ⟨a6, c6, rfl, -, -, -⟩ := hin
                have HLN := Lib.hid hlen
                have HJ3 := Lib.hid hj3
                clear hlen hpre hj3 hown
                gi_wp2_with fail
                refine ⟨rfl, hR.mono ?_⟩
                clear hR
                rintro e w3 ⟨ht4, (⟨rfl, hj4⟩ | ⟨rfl, hx4⟩)⟩
                · gi_wp2_with fail
                  go_roundw
                  case rel => exact ⟨d + 1, by omega, by go_num, by rw [HLV.out, ← List.append_assoc]; exact hj4, ht3.trans ht4⟩
                  case measure => simp [intOf] <;> omega
                · gi_wp2_with fail
                  simp only [Exit.noGoto]
                  go_end0
                  exact ⟨⟨_, rfl⟩, .inr hx4⟩
          · have hpk' : ¬ (popc 12 s : Int) = (k : Int) := by omega
            rw [if_neg hpk, List.append_nil] at HLV
            clear hpk
            gi_wp2_with fail
            go_roundw
            case rel => exact ⟨d + 1, by omega, by go_num, by rw [HLV.out]; exact hj2, ht2⟩
            case measure => simp [intOf] <;> omega
        · obtain rfl : d = m := by omega
          have hneg : (d : Int) - 1 - d = -1 := by omega
          rw [hneg]
          gi_wp2_with fail
          go_roundw
          case rel => exact ⟨k + 1, by omega, by go_num, by rw [szD, HN.out, HM2.out]; exact hj2, ht2⟩
          case measure => simp [intOf] <;> omega
    · obtain rfl : k = n + 1 := by omega
      gi_wp2_with fail
      simp only [Exit.noGoto]
      go_end0
      exact ⟨⟨_, rfl⟩, .inl (by rw [allSubs, HN.out]; exact hj)⟩
end Go.Proofs.Ytmnpbopkhpbhiaa
