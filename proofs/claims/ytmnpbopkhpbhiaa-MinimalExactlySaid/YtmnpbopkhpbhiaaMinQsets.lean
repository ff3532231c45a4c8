/- minimal: question.sets. -/
import Derived.Test.YtmnpbopkhpbhiaaMinRows
set_option linter.unusedVariables false
set_option linter.unusedSimpArgs false
namespace Go.Proofs.Ytmnpbopkhpbhiaa
open Go.RowKit
set_option maxRecDepth 100000
/-- The rows as sets, if they are in order. -/
def SetsAt (w : World) (base : Nat) (v : Value) (ps : List Int) (l : List (List Int)) (b : Bool) : Prop :=
  b = true → ∃ ss, Own w base 84 v (setVs ss) ∧ ss.map (selI ps) = l ∧ ∀ s ∈ ss, s < 2 ^ ps.length
set_option maxHeartbeats 8000000 in
theorem qsets_spec (w : World) (ps : List Int) (F0 F : Nat → Bool) (H : List Int → Bool) (v vl fine : Value) (l : List (List Int)) (hq : IsQ w ps F0 v) (hn : ps.Pairwise (· < ·)) (hpos : ∀ p ∈ ps, 0 ≤ p) (hl : Intss w vl l) (hF : Fine w fine ps.length F)
    (hFH : ∀ s, s < 2 ^ ps.length → F s = H (selI ps s)) :
    Calls Try.prog 79 #[v, vl, fine] w fun e w' => ∃ v', e = .returned (.tuple #[v', .bool (okFrom ps H [] l)]) ∧ (∃ a n c, v' = .slice a n c) ∧
      SetsAt w' w.heap.size v' ps l (okFrom ps H [] l) ∧ Same w w' := by
  obtain ⟨a, c, f, rfl, hi, hl12, -⟩ := hq
  obtain ⟨al, cl, rfl, -, hlm, hc⟩ := hl
  have hF0 := hF
  obtain ⟨kf, fst, lb, rfl, ekf, hcall⟩ := hF
  obtain ⟨u, hu⟩ : ∃ u : Int, u = ((2 ^ ps.length - 1 : Nat) : Int) := ⟨_, rfl⟩
  rw [← hu]
  have HC := Lib.hid hc
  have HP12 := Lib.hid hl12
  have HCALL := Lib.hid hcall
  have hpw := pow_le hl12
  obtain ⟨L, hL⟩ : ∃ L, L = ps.length := ⟨_, rfl⟩
  have HLL := Lib.hid hL
  have HI : Hid (Ints w (.slice a L c) ps) := Lib.hid (by rw [hL]; exact hi)
  rw [← hL]
  have hlP : L ≤ 12 := by omega
  obtain ⟨W1, hW1⟩ : ∃ W1, W1 = w.alloc (.cells #[.slice a L c, .int .u64 u, f] 87) := ⟨_, rfl⟩
  have hS1 : Same w W1 := by rw [hW1]; exact (Same.refl w).alloc _
  have r1 : Rec W1 w.heap.size 87 #[.slice a L c, .int .u64 u, f] := by rw [hW1]; exact Rec.new w _ _
  have HR1 := Lib.hid r1
  have HW1 := Lib.hid hW1
  clear hc hi hcall hF0 hu hL hW1 r1 hl12
  go_enter Try.func79, Try.ntmps79
  go_wp2_with fail
  rw [← HW1.out]
  go_loopw [6, 18] (fun v6 i wr => ∃ (k : Nat) (ax : Option Addr) (nx cx : Nat) (ss : List Nat), k ≤ l.length ∧ i = .int .i64 k ∧ v6 = .slice ax nx cx ∧ Hid (Own wr W1.heap.size 84 (.slice ax nx cx) (setVs ss)) ∧ Hid (ss.map (selI ps) = l.take k ∧ ∀ s ∈ ss, s < 2 ^ ps.length) ∧
    Hid (okFrom ps H [] l = okFrom ps H (l.take k) (l.drop k)) ∧ Same W1 wr) (fun _ i _ => l.length - (intOf i).toNat)
  case atStart => exact ⟨0, none, 0, 0, [], Nat.zero_le _, rfl, rfl, Lib.hid (World.ownsRow_nil _ _ _ _), Lib.hid ⟨rfl, by simp⟩, Lib.hid rfl, Same.refl _⟩
  case round =>
    obtain ⟨k, ax, nx, cx, ss, hk, rfl, rfl, HX, HSS, HOK, hS⟩ := hrel
    obtain ⟨wo, hwo⟩ : ∃ wo, wo = wr := ⟨_, rfl⟩
    subst hwo
    by_cases hlt : k < l.length
    · obtain ⟨ad, uk, rfl, huk, hik⟩ := HC.out k hlt
      have hstep := okFrom_step ps H l k hlt
      have hat := rowOk_at ps l k hlt
      obtain ⟨x, hx⟩ : ∃ x, x = l[k] := ⟨_, rfl⟩
      have htk : l.take (k + 1) = l.take k ++ [x] := by rw [hx, List.take_succ_eq_append_getElem hlt]
      rw [← hx] at hstep hat hik
      have hukr := (hS1.trans hS).keep.cell huk
      have HIK := Lib.hid hik
      obtain ⟨au, nu, cu, rfl, hnu⟩ := Ints.slice hik
      obtain ⟨ax', cu', hue, _, hxm, hxc⟩ := HIK.out
      have HXC := Lib.hid hxc
      have HSTEP := Lib.hid hstep
      have HAT := Lib.hid hat
      have HTK := Lib.hid htk
      have HLT := Lib.hid hlt
      have hne : au = ax' := by injection hue
      have HNE := Lib.hid hne
      have HNU := Lib.hid hnu
      have HXM := Lib.hid hxm
      have b1r := Rec.same hS HR1.out
      have q0 := b1r.cell 0
      have k0 := b1r.lt
      simp at q0
      have z9 : (k : Int) < (l.length : Int) := by omega
      clear huk hstep hat hxc hue hne htk hx hxm b1r hnu
      go_wp2_with fail
      go_loopw [6, 10, 11, 25] (fun v6 v10 v11 i wx => ∃ (j s : Nat) (last : Int), j ≤ nu ∧ i = .int .i64 j ∧ v6 = .slice ax nx cx ∧ v10 = .int .u64 s ∧ v11 = .int .i64 last ∧ Hid (s < 2 ^ ps.length ∧ selI ps s = x.take j ∧ -1 ≤ last ∧ (∀ p ∈ x.take j, p ≤ last) ∧ (last = -1 ∨ last ∈ x.take j)) ∧ Same wo wx) (fun _ _ _ i _ => nu - (intOf i).toNat)
      case atStart => exact ⟨0, 0, -1, Nat.zero_le _, rfl, rfl, rfl, rfl, Lib.hid ⟨Nat.two_pow_pos _, by
        have : ∀ q : List Int, selI q 0 = [] := by
          intro q
          induction q with
          | nil => rfl
          | cons y q ih => rw [selI, if_neg (by omega), List.nil_append]; exact ih
        simpa using this ps, by omega, by simp, .inl rfl⟩, Same.refl _⟩
      case round =>
        obtain ⟨j, s, last, hj, rfl, rfl, rfl, rfl, HS, hSx⟩ := hrel
        obtain ⟨wx, hwx⟩ : ∃ wx, wx = wr := ⟨_, rfl⟩
        subst hwx
        by_cases hjl : j < nu
        · have hjx : j < x.length := by rw [← HNU.out]; exact hjl
          obtain ⟨adx, pv, eadx, hpv, hpr⟩ := HXC.out j hjx
          unfold RInt at hpr
          subst hpr
          rw [← HNE.out] at eadx
          subst eadx
          have hpvr := (hS1.trans (hS.trans hSx)).keep.cell hpv
          have htj : x.take (j + 1) = x.take j ++ [x[j]] := List.take_succ_eq_append_getElem hjx
          have hmx : x[j] ∈ x := List.getElem_mem hjx
          have hjb : j < 17592186044416 := by have := HXM.out; omega
          have hinc : x[j] ≤ last → last ∈ x.take j → incB x = false := fun h1 h2 => by
            cases e : incB x with
            | false => rfl
            | true =>
              have hpw := (incB_iff x).1 e
              obtain ⟨i, hi, rfl⟩ := List.mem_take_iff_getElem.1 h2
              have := List.pairwise_iff_getElem.1 hpw i j (by omega) hjx (by omega)
              omega
          have HTJ := Lib.hid htj
          have HINC := Lib.hid hinc
          have HMX := Lib.hid hmx
          generalize x[j] = p at *
          have HB := search_spec wx (.slice a L c) ps p (HI.out.keep (hS1.trans (hS.trans hSx)).keep) hn
          have q0x := hSx.keep.cell q0
          have k0x : w.heap.size < wx.heap.size := Nat.lt_of_lt_of_le k0 hSx.size
          clear hpv htj hinc hmx
          by_cases hp : p ∈ ps
          · rw [show decide (p ∈ ps) = true from by simpa using hp] at HB
            by_cases hle : p ≤ last
            · have hbad : okFrom ps H [] l = false := by
                have hlast : last ∈ x.take j := by
                  rcases HS.out.2.2.2.2 with h | h
                  · have := hpos p hp; omega
                  · exact h
                rw [HOK.out, HSTEP.out, rowOk_bad (by rw [HINC.out hle hlast]; rfl)]; rfl
              have HBAD := Lib.hid hbad
              have hd : decide (p ≤ last) = true := by simpa using hle
              clear hbad
              go_wp2_with fail
              refine HB.mono ?_
              clear HB
              rintro e w3 ⟨⟨k', hk', rfl, -⟩, hs3⟩
              go_wp2_with fail
              go_ret2
              exact ⟨_, by rw [HBAD.out]; rfl, ⟨_, _, _, rfl⟩, (fun h => by rw [HBAD.out] at h; cases h), hS1.trans (hS.trans (hSx.trans hs3))⟩
            · have hd : decide (p ≤ last) = false := by simpa using hle
              go_wp2_with fail
              refine HB.mono ?_
              clear HB
              rintro e w3 ⟨⟨k', hk', rfl, hfnd⟩, hs3⟩
              obtain ⟨hk2, hkp⟩ := hfnd hp
              obtain ⟨hs0, hs1, hs2, hs3', hs4⟩ := HS.out
              obtain ⟨M, hM⟩ : ∃ M : Nat, M = 2 ^ k' := ⟨_, rfl⟩
              have hMle : M ≤ 4096 := by rw [hM]; exact pow_le (by have := HP12.out; omega)
              have hpow' : (2 : Int) ^ k' = (M : Int) := by rw [hM]; simp
              have hwr : IntKind.u64.wrap (M : Int) = (M : Int) := IntWalk.u64_in _ (by omega)
              have hMlt : M < 4096 := by rw [hM]; have := Nat.pow_lt_pow_right (a := 2) (by omega) (by have := HP12.out; omega : k' < 12); omega
              have hbor := bits_or_u s M (by omega) hMlt
              have hsn := sel_snoc hn s (x.take j) hs1 k' hk2 (fun q hq => by rw [hkp]; have := hs3' q hq; omega)
              rw [hkp, ← hM] at hsn
              have hor := or_lt hs0 hk2
              rw [← hM] at hor
              have z1 : (0 : Int) ≤ (k' : Int) := by omega
              have z2 : min k' 64 = k' := by have := HP12.out; omega
              have HSN := Lib.hid (And.intro hor (And.intro hsn hs3'))
              have HLE := Lib.hid hle
              generalize s ||| M = s2 at *
              clear hfnd hkp hs0 hs1 hs2 hs3' hs4 hM hMle hMlt hsn hor hk' HS hle
              go_wp2_with fail
              go_roundw
              case rel => exact ⟨j + 1, s2, p, (by have := hjl; omega), by go_num, rfl, rfl, rfl, Lib.hid ⟨HSN.out.1, by rw [HTJ.out]; exact HSN.out.2.1, by have := hpos p hp; omega, by
                intro q hq
                rw [HTJ.out, List.mem_append, List.mem_singleton] at hq
                rcases hq with hq | rfl
                · have := HSN.out.2.2 q hq; have := HLE.out; omega
                · omega, .inr (by rw [HTJ.out]; simp)⟩, hSx.trans hs3⟩
              case measure => simp [intOf]; omega
          · rw [show decide (p ∈ ps) = false from by simpa using hp] at HB
            have hbad : okFrom ps H [] l = false := by
              have hin : inB x ps = false := by
                cases e : inB x ps with
                | false => rfl
                | true => exact absurd ((inB_iff _ _).1 e p HMX.out) hp
              rw [HOK.out, HSTEP.out, rowOk_bad (by rw [hin, Bool.and_false])]; rfl
            have HBAD := Lib.hid hbad
            clear hbad
            go_wp2_with fail
            refine HB.mono ?_
            clear HB
            rintro e w3 ⟨⟨k', hk', rfl, -⟩, hs3⟩
            go_wp2_with fail
            go_ret2
            exact ⟨_, by rw [HBAD.out]; rfl, ⟨_, _, _, rfl⟩, (fun h => by rw [HBAD.out] at h; cases h), hS1.trans (hS.trans (hSx.trans hs3))⟩
        · obtain rfl : nu = j := by omega
          obtain ⟨hs0, hs1, -, -, -⟩ := HS.out
          rw [HNU.out, List.take_length] at hs1
          have hsub : x.Sublist ps := by rw [← hs1]; exact selI_sub ps s
          have hgood : (incB x && inB x ps) = true := by
            rw [Bool.and_eq_true, incB_iff, inB_iff]
            exact ⟨hn.sublist hsub, fun p hp => hsub.subset hp⟩
          have hrow := HAT.out hgood
          rw [hrow] at HSTEP
          have hFs : F s = H x := by rw [hFH s hs0, hs1]
          have hany := anyHas_some hn ss s hs0 HSS.out.2
          rw [HSS.out.1, hs1] at hany
          have hs4 : s < 4096 := by omega
          have HSX := Lib.hid (And.intro hs0 hs1)
          have HcF := HCALL.out wx s ((hS1.trans (hS.trans hSx)).keep) hs0
          have hl4 : ss.length ≤ 17592186044416 := by
            have := congrArg List.length HSS.out.1
            rw [List.length_map, List.length_take] at this
            omega
          have hss4 : ∀ s' ∈ ss, s' < 4096 := fun s' h => by have := HSS.out.2 s' h; omega
          have HANY := fun W (h : Same wo W) => containsSet_spec W W1.heap.size _ ss s (own_keep h.keep HX.out) hss4 hs4 hl4
          rw [hany] at HANY
          have HL4 := Lib.hid hl4
          rw [hFs] at HcF
          clear hs0 hs1 hsub hgood hrow hFs hany hss4 HS hl4 q0
          cases hHx : H x with
          | false =>
            rw [hHx] at HcF
            have hbad : okFrom ps H [] l = false := by rw [HOK.out, HSTEP.out, hHx, Bool.and_false]; rfl
            have HBAD := Lib.hid hbad
            clear hbad hHx HANY
            go_wp2_with fail
            refine HcF.mono ?_
            clear HcF
            rintro e w3 ⟨rfl, hs3⟩
            go_wp2_with fail
            go_ret2
            exact ⟨_, by rw [HBAD.out]; rfl, ⟨_, _, _, rfl⟩, (fun h => by rw [HBAD.out] at h; cases h), hS1.trans (hS.trans (hSx.trans hs3))⟩
          | true =>
            rw [hHx] at HcF
            rw [hHx, Bool.and_true] at HSTEP
            clear hHx
            by_cases h0 : 0 < k
            · rw [dif_pos h0] at HSTEP
              obtain ⟨j0, hj0⟩ : ∃ j0, j0 = k - 1 := ⟨_, rfl⟩
              have hkj : (k : Int) - 1 = (j0 : Int) := by omega
              have hj0l : j0 < l.length := by have := HLT.out; omega
              obtain ⟨ad', u0, had, hu0, hi0⟩ := HC.out j0 hj0l
              injection had with had
              subst had
              obtain ⟨y, hy⟩ : ∃ y, y = l[j0] := ⟨_, rfl⟩
              have hyk : l[k - 1]'(by have := HLT.out; omega) = y := by subst hj0; exact hy.symm
              rw [hyk] at HSTEP
              rw [← hy] at hi0
              have HI0 := Lib.hid hi0
              obtain ⟨a0, n0, c0, rfl, -⟩ := Ints.slice hi0
              have hu0r := (hS1.trans (hS.trans hSx)).keep.cell hu0
              have hkp : decide (0 < (k : Int)) = true := by simpa using h0
              clear hi0 hy hyk hj0 hu0
              go_wp2_with fail
              refine HcF.mono ?_
              clear HcF
              rintro e w3 ⟨rfl, hs3⟩
              have hu0s := hs3.keep.cell hu0r
              have hS3 := hSx.trans hs3
              have HCM := compare_spec w3 (.slice a0 n0 c0) (.slice au nu cu) y x (Ints.keep (hS1.trans (hS.trans hS3)).keep HI0.out) (Ints.keep (hS1.trans (hS.trans hS3)).keep HIK.out)
              clear hu0r
              have hcl := cmpI_lt y x
              generalize cmpI y x = cv at *
              by_cases hcv : 0 ≤ cv
              · have hbf : beforeB y x = false := by
                  cases e : beforeB y x with
                  | false => rfl
                  | true => have := hcl.2 e; omega
                have hbad : okFrom ps H [] l = false := by rw [HOK.out, HSTEP.out, hbf, Bool.false_and]; rfl
                have hd : decide (0 ≤ cv) = true := by simpa using hcv
                have HBAD := Lib.hid hbad
                clear hbad hbf hcl HANY
                go_wp2_with fail
                refine HCM.mono ?_
                clear HCM
                rintro e w4 ⟨rfl, rfl⟩
                go_wp2_with fail
                go_ret2
                exact ⟨_, by rw [HBAD.out]; rfl, ⟨_, _, _, rfl⟩, (fun h => by rw [HBAD.out] at h; cases h), hS1.trans (hS.trans hS3)⟩
              · have hbf : beforeB y x = true := hcl.1 (by omega)
                have hd : decide (0 ≤ cv) = false := by simpa using hcv
                have HBF := Lib.hid hbf
                clear hcl hbf
                go_wp2_with fail
                refine HCM.mono ?_
                clear HCM
                rintro e w4 ⟨rfl, rfl⟩
                have HA := HANY w3 hS3
                cases hsb : someB (l.take k) x with
                | true =>
                  rw [hsb] at HA
                  have hbad : okFrom ps H [] l = false := by rw [HOK.out, HSTEP.out, hsb, Bool.not_true, Bool.and_false]; rfl
                  have HBAD := Lib.hid hbad
                  clear hbad hsb HANY
                  go_wp2_with fail
                  refine HA.mono ?_
                  clear HA
                  rintro e w5 ⟨rfl, rfl⟩
                  go_wp2_with fail
                  go_ret2
                  exact ⟨_, by rw [HBAD.out]; rfl, ⟨_, _, _, rfl⟩, (fun h => by rw [HBAD.out] at h; cases h), hS1.trans (hS.trans hS3)⟩
                | false =>
                  rw [hsb] at HA
                  have hok : okFrom ps H [] l = okFrom ps H (l.take (k + 1)) (l.drop (k + 1)) := by
                    rw [HOK.out, HSTEP.out, hsb, HBF.out]; rfl
                  have HOK2 := Lib.hid hok
                  have hSn := hS.trans hS3
                  have HO2 := Lib.hid (own_keep (Same.alloc hS3 (.cells #[.int .u64 s] 84)).keep HX.out)
                  have HBB := Lib.hid (show ((setVs ss).length + [Value.int .u64 (s : Nat)].length) * 8 ≤ 140737488355328 by rw [setVs_len]; simp only [List.length_singleton]; have := HL4.out; have := HLT.out; have hc4 := congrArg List.length HSS.out.1; rw [List.length_map, List.length_take] at hc4; omega)
                  have HSN := Lib.hid hSn
                  clear hok hsb HANY
                  go_wp2_with fail
                  refine HA.mono ?_
                  clear HA
                  rintro e w5 ⟨rfl, rfl⟩
                  go_wp2_with (at_builtin; refine wpList_append_src rfl _ _ 92 rfl Try.underlying92 info_set rfl HO2.out rfl (cells_one (h_new _ _)) rfl (by intro q hq; rw [List.mem_singleton.1 hq]; rfl) HBB.out (by decide) (hSn.alloc _).size ?_)
                  rintro a7 n7 c7 w7 hO7 hG7 hB7 hW7
                  have hS7 := Same.grown (HSN.out.alloc (.cells #[.int .u64 s] 84)) hG7 hB7
                  have HO7 := Lib.hid hO7
                  clear hO7 hG7 hB7 hW7
                  go_wp2_with fail
                  go_roundw
                  case rel => exact ⟨k + 1, a7, n7, c7, ss ++ [s], by have := HLT.out; omega, by go_num, rfl, Lib.hid (by rw [setVs, List.map_append]; exact HO7.out), Lib.hid ⟨by rw [List.map_append, HTK.out, HSS.out.1, List.map_singleton, HSX.out.2], by
                    intro s' hs'
                    rcases List.mem_append.1 hs' with h | h
                    · exact HSS.out.2 s' h
                    · rw [List.mem_singleton.1 h]; exact HSX.out.1⟩, Lib.hid HOK2.out, hS7⟩
                  case measure => have := HLT.out; simp [intOf]; omega
            · rw [dif_neg h0] at HSTEP
              have hkz : k = 0 := by omega
              have hkp : decide (0 < (k : Int)) = false := by simp [hkz]
              have HKZ := Lib.hid hkz
              clear hkz
              go_wp2_with fail
              refine HcF.mono ?_
              clear HcF
              rintro e w3 ⟨rfl, hs3⟩
              have hS3 := hSx.trans hs3
              have HA := HANY w3 hS3
              cases hsb : someB (l.take k) x with
              | true =>
                rw [hsb] at HA
                have hbad : okFrom ps H [] l = false := by rw [HOK.out, HSTEP.out, hsb, Bool.not_true, Bool.and_false]; rfl
                have HBAD := Lib.hid hbad
                clear hbad hsb HANY
                go_wp2_with fail
                refine HA.mono ?_
                clear HA
                rintro e w5 ⟨rfl, rfl⟩
                go_wp2_with fail
                go_ret2
                exact ⟨_, by rw [HBAD.out]; rfl, ⟨_, _, _, rfl⟩, (fun h => by rw [HBAD.out] at h; cases h), hS1.trans (hS.trans hS3)⟩
              | false =>
                rw [hsb] at HA
                have hok : okFrom ps H [] l = okFrom ps H (l.take (k + 1)) (l.drop (k + 1)) := by
                  rw [HOK.out, HSTEP.out, hsb, Bool.true_and]; rfl
                have HOK2 := Lib.hid hok
                have hSn := hS.trans hS3
                have HO2 := Lib.hid (own_keep (Same.alloc hS3 (.cells #[.int .u64 s] 84)).keep HX.out)
                have HBB := Lib.hid (show ((setVs ss).length + [Value.int .u64 (s : Nat)].length) * 8 ≤ 140737488355328 by rw [setVs_len]; simp only [List.length_singleton]; have := HL4.out; have := HLT.out; have hc4 := congrArg List.length HSS.out.1; rw [List.length_map, List.length_take] at hc4; omega)
                have HSN := Lib.hid hSn
                clear hok hsb HANY
                go_wp2_with fail
                refine HA.mono ?_
                clear HA
                rintro e w5 ⟨rfl, rfl⟩
                go_wp2_with (at_builtin; refine wpList_append_src rfl _ _ 92 rfl Try.underlying92 info_set rfl HO2.out rfl (cells_one (h_new _ _)) rfl (by intro q hq; rw [List.mem_singleton.1 hq]; rfl) HBB.out (by decide) (hSn.alloc _).size ?_)
                rintro a7 n7 c7 w7 hO7 hG7 hB7 hW7
                have hS7 := Same.grown (HSN.out.alloc (.cells #[.int .u64 s] 84)) hG7 hB7
                have HO7 := Lib.hid hO7
                clear hO7 hG7 hB7 hW7
                go_wp2_with fail
                go_roundw
                case rel => exact ⟨k + 1, a7, n7, c7, ss ++ [s], by have := HLT.out; omega, by go_num, rfl, Lib.hid (by rw [setVs, List.map_append]; exact HO7.out), Lib.hid ⟨by rw [List.map_append, HTK.out, HSS.out.1, List.map_singleton, HSX.out.2], by
                  intro s' hs'
                  rcases List.mem_append.1 hs' with h | h
                  · exact HSS.out.2 s' h
                  · rw [List.mem_singleton.1 h]; exact HSX.out.1⟩, Lib.hid HOK2.out, hS7⟩
                case measure => have := HLT.out; simp [intOf]; omega
    · obtain rfl : k = l.length := by omega
      go_wp2_with fail
      go_ret2
      have ho := own_lower HX.out hS1.size
      have hok := HOK.out
      rw [List.drop_length, okFrom] at hok
      refine ⟨_, by rw [hok]; rfl, ⟨_, _, _, rfl⟩, fun _ => ⟨ss, ho, ?_, HSS.out.2⟩, hS1.trans hS⟩
      rw [HSS.out.1, List.take_length]
end Go.Proofs.Ytmnpbopkhpbhiaa
