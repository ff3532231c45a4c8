/- MinimalExactly: the closed facts of the given row. -/
import Derived.Test.YtmnpbopkhpbhiaaRows
import Derived.OpenShut
import Derived.ChangeOld
import Derived.Below
import Derived.ProofKit
set_option linter.unusedVariables false
namespace Go.Proofs.Ytmnpbopkhpbhiaa
open Go.RowKit
theorem MinimalExactly_named : Try.pinned.checked.prog.funcNamed Rows.minimalExactlyRow.func = some 12 := by kernel_rfl
theorem MinimalExactly_closed : joinedFacts Try.pinned.checked.prog 12 Try.f12 Rows.minimalExactlySpec Rows.minimalExactlyRow = true := by kernel_rfl
theorem MinimalExactly_instance : Try.f12.isInstance Try.pinned.checked.prog Rows.minimalExactlyRow.origin Rows.minimalExactlyRow.targs := of_decide_eq_true (by kernel_rfl)
theorem MinimalExactly_wrapper : Try.f12.isWrapper Try.pinned.checked.prog Rows.minimalExactlyRow.wrapper Rows.minimalExactlyRow.mainSum := by unfold Func.isWrapper; rw [if_neg (of_decide_eq_false (by kernel_rfl))]; exact ⟨rfl, rfl⟩
end Go.Proofs.Ytmnpbopkhpbhiaa
