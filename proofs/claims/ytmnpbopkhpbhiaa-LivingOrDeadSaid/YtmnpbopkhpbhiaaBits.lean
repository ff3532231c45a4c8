/- bits.OnesCount below 4096. -/
import Derived.Test.YtmnpbopkhpbhiaaHoldsFn
set_option linter.unusedVariables false
set_option linter.unusedSimpArgs false
namespace Go.Proofs.Ytmnpbopkhpbhiaa
open Go.RowKit
set_option maxRecDepth 100000
def os1 (x : Int) : Int := IntKind.u64.wrap (bits .and .u64 (x / 2) 6148914691236517205 + bits .and .u64 x 6148914691236517205)
def os2 (x : Int) : Int := IntKind.u64.wrap (bits .and .u64 (x / 4) 3689348814741910323 + bits .and .u64 x 3689348814741910323)
def os3 (x : Int) : Int := bits .and .u64 (IntKind.u64.wrap (x / 16 + x)) 1085102592571150095
def os4 (x : Int) : Int := IntKind.u64.wrap (x + x / 256)
def os5 (x : Int) : Int := IntKind.u64.wrap (x + x / 65536)
def os6 (x : Int) : Int := IntKind.u64.wrap (x + x / 4294967296)
def os7 (x : Int) : Int := bits .and .i64 (wrap64 x) 127
def onesF (x : Int) : Int := os7 (os6 (os5 (os4 (os3 (os2 (os1 x))))))
/-- How many bits are set. -/
def popc : Nat → Nat → Nat
  | 0, _ => 0
  | k + 1, x => x % 2 + popc k (x / 2)
theorem onesF_pop : ∀ x : Nat, x < 4096 → onesF x = popc 12 x := by decide +kernel
theorem u64_nn (x : Int) : 0 ≤ IntKind.u64.wrap x := by
  have h : IntKind.u64.wrap x = x % 18446744073709551616 := by
    simp only [IntKind.wrap, IntKind.bits, IntKind.signed]
    simp
  rw [h]
  omega
set_option maxHeartbeats 1000000 in
theorem ones64_spec (w : World) (x : Int) (h0 : 0 ≤ x) (h1 : x ≤ 4095) :
    Calls Try.prog 130 #[.int .u64 x] w fun e w' => e = .returned (.int .i64 (onesF x)) ∧ w = w' := by
  have e1 : IntKind.u64.wrap (bits .and .u64 (x / 2) 6148914691236517205 + bits .and .u64 x 6148914691236517205) = os1 x := rfl
  have e2 : IntKind.u64.wrap (bits .and .u64 (os1 x / 4) 3689348814741910323 + bits .and .u64 (os1 x) 3689348814741910323) = os2 (os1 x) := rfl
  have e3 : bits .and .u64 (IntKind.u64.wrap (os2 (os1 x) / 16 + os2 (os1 x))) 1085102592571150095 = os3 (os2 (os1 x)) := rfl
  have e4 : IntKind.u64.wrap (os3 (os2 (os1 x)) + os3 (os2 (os1 x)) / 256) = os4 (os3 (os2 (os1 x))) := rfl
  have e5 : IntKind.u64.wrap (os4 (os3 (os2 (os1 x))) + os4 (os3 (os2 (os1 x))) / 65536) = os5 (os4 (os3 (os2 (os1 x)))) := rfl
  have e6 : IntKind.u64.wrap (os5 (os4 (os3 (os2 (os1 x)))) + os5 (os4 (os3 (os2 (os1 x)))) / 4294967296) = os6 (os5 (os4 (os3 (os2 (os1 x))))) := rfl
  have p1 : 0 ≤ os1 x := u64_nn _
  go_enter Try.func130, Try.ntmps130
  go_wp2_with fail
  go_ret
  exact ⟨rfl, rfl⟩
set_option maxHeartbeats 1000000 in
theorem ones_spec (w : World) (x : Nat) (h1 : x < 4096) :
    Calls Try.prog 104 #[.int .u64 x] w fun e w' => e = .returned (.int .i64 (popc 12 x)) ∧ w = w' := by
  have H := ones64_spec w x (by omega) (by omega)
  rw [onesF_pop x h1] at H
  go_enter Try.func104, Try.ntmps104
  go_wp2_with fail
  refine H.mono ?_
  clear H
  rintro e w1 ⟨rfl, rfl⟩
  go_wp2_with fail
  go_ret
  exact ⟨rfl, rfl⟩
end Go.Proofs.Ytmnpbopkhpbhiaa
