/- signatoryref22.People. -/
import Derived.Test.YtmnpbopkhpbhiaaRefHolds
set_option linter.unusedVariables false
set_option linter.unusedSimpArgs false
namespace Go.Proofs.Ytmnpbopkhpbhiaa
open Go.RowKit
set_option maxRecDepth 100000
theorem lastOf_take (l : List Int) (k : Nat) (h : k < l.length) (h0 : 0 < k) : lastOf (-1) (l.take k) = l[k - 1] := by
  obtain ⟨j, rfl⟩ : ∃ j, k = j + 1 := ⟨k - 1, by omega⟩
  rw [List.take_succ_eq_append_getElem (by omega), lastOf_snoc]
  simp
set_option maxHeartbeats 4000000 in
theorem refPeople_spec (w : World) (v : Value) (who : List Int) (h : Ints w v who) :
    Calls Try.prog 55 #[v] w fun e w' => e = .returned (.bool (peopleFrom (-1) who)) ∧ Same w w' := by
  obtain ⟨a, cap, rfl, hcap, hmax, hc⟩ := h
  have HC := Lib.hid hc
  clear hc
  go_enter Try.func55, Try.ntmps55
  go_wp2_with fail
  go_loopw [3] (fun i wr => ∃ k : Nat, k ≤ who.length ∧ i = .int .i64 k ∧ Hid (peopleFrom (-1) (who.take k) = true) ∧ Same w wr) (fun i _ => who.length - (intOf i).toNat)
  case atStart => exact ⟨0, Nat.zero_le _, rfl, Lib.hid rfl, Same.refl w⟩
  case round =>
    obtain ⟨k, hk, rfl, hpf, hS⟩ := hrel
    by_cases hlt : k < who.length
    · obtain ⟨ad, x, rfl, hx, hrx⟩ := HC.out k hlt
      unfold RInt at hrx
      subst hrx
      have hxr := hS.keep.cell hx
      obtain ⟨hall, hle⟩ := peopleFrom_le _ _ hpf.out
      have htk : who.take (k + 1) = who.take k ++ [who[k]] := by simp
      have hdr : who.drop k = who[k] :: who.drop (k + 1) := (List.getElem_cons_drop hlt).symm
      have hpn : peopleFrom (-1) who = (decide (lastOf (-1) (who.take k) < who[k]) && (decide (who[k] < 64) && peopleFrom who[k] (who.drop (k + 1)))) := by
        conv => lhs; rw [← List.take_append_drop k who, peopleFrom_append, hpf.out, hdr]
        simp [peopleFrom]
      have HPN := Lib.hid hpn
      have HTK := Lib.hid htk
      have HLT := Lib.hid hlt
      clear hall hpn htk hdr hx
      have hle0 : -1 ≤ lastOf (-1) (who.take k) := hle
      have HLE := Lib.hid hle0
      clear hle hle0
      generalize who[k] = xk at *
      by_cases h1 : xk < 0
      · have hd1 : decide (xk < 0) = true := by simpa using h1
        have hres : peopleFrom (-1) who = false := by
          rw [HPN.out]
          have := HLE.out
          have h : ¬ lastOf (-1) (who.take k) < xk := by omega
          simp [h]
        have HR := Lib.hid hres
        clear hres
        go_wp2_with fail
        go_quiet (fail)
        go_wp2_with fail
        go_ret
        exact ⟨ret_bool HR.out.symm, hS.drewN _⟩
      · have hd1 : decide (xk < 0) = false := by simpa using h1
        by_cases h2 : 64 ≤ xk
        · have hd2 : decide (64 ≤ xk) = true := by simpa using h2
          have hres : peopleFrom (-1) who = false := by
            rw [HPN.out]
            have h : ¬ xk < 64 := by omega
            simp [h]
          have HR := Lib.hid hres
          clear hres
          go_wp2_with fail
          go_quiet (fail)
          go_wp2_with fail
          go_ret
          exact ⟨ret_bool HR.out.symm, hS.drewN _⟩
        · have hd2 : decide (64 ≤ xk) = false := by simpa using h2
          by_cases hk0 : k = 0
          · have hkd : decide (0 < k) = false := by simp [hk0]
            have hkz : ¬ 0 < k := by omega
            have hnx : peopleFrom (-1) (who.take (k + 1)) = true := by
              rw [HTK.out, hk0]
              simp [peopleFrom]
              omega
            have HNX := Lib.hid hnx
            clear hnx hk0
            go_wp2_with fail
            go_quiet (fail)
            go_wp2_with fail
            go_roundw
            case rel => exact ⟨k + 1, by have := HLT.out; omega, by go_num, HNX, hS.drewN _⟩
            case measure => have := HLT.out; simp [intOf]; omega
          · obtain ⟨j, hj⟩ : ∃ j, j = k - 1 := ⟨_, rfl⟩
            have hjl : j < who.length := by omega
            obtain ⟨ad', y, e', hy, hry⟩ := HC.out j hjl
            injection e' with e'
            subst e'
            unfold RInt at hry
            subst hry
            have hyr := hS.keep.cell hy
            have hL : lastOf (-1) (who.take k) = who[j] := by rw [lastOf_take who k HLT.out (by omega)]; simp only [hj]
            have hkj : (k : Int) - 1 = (j : Int) := by omega
            have hkd : decide (0 < k) = true := by simpa using (by omega : 0 < k)
            have hkp : 0 < k := by omega
            rw [hL] at HPN
            have HL := Lib.hid hL
            have HJ := Lib.hid hj
            clear hL hy hj
            generalize who[j] = yk at *
            by_cases h3 : xk ≤ yk
            · have hd3 : decide (xk ≤ yk) = true := by simpa using h3
              have hres : peopleFrom (-1) who = false := by
                rw [HPN.out]
                have h : ¬ yk < xk := by omega
                simp [h]
              have HR := Lib.hid hres
              clear hres
              go_wp2_with fail
              go_quiet (fail)
              go_wp2_with fail
              go_ret
              exact ⟨ret_bool HR.out.symm, hS.drewN _⟩
            · have hd3 : decide (xk ≤ yk) = false := by simpa using h3
              have hnx : peopleFrom (-1) (who.take (k + 1)) = true := by
                rw [HTK.out, peopleFrom_append, hpf.out, HL.out]
                simp [peopleFrom]
                omega
              have HNX := Lib.hid hnx
              clear hnx
              go_wp2_with fail
              go_quiet (fail)
              go_wp2_with fail
              go_roundw
              case rel => exact ⟨k + 1, by have := HLT.out; omega, by go_num, HNX, hS.drewN _⟩
              case measure => have := HLT.out; simp [intOf]; omega
    · obtain rfl : k = who.length := by omega
      rw [List.take_length] at hpf
      go_wp2_with fail
      go_ret
      exact ⟨ret_bool (by rw [hpf.out]), hS⟩
end Go.Proofs.Ytmnpbopkhpbhiaa
