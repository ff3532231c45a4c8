/- MinimalSpec: the closed facts of the given row. -/
import Derived.Test.YtmnpbopkhpbhiaaRows
import Derived.OpenShut
import Derived.ChangeOld
import Derived.Below
import Derived.ProofKit
set_option linter.unusedVariables false
namespace Go.Proofs.Ytmnpbopkhpbhiaa
open Go.RowKit
theorem MinimalSpec_named : Try.pinned.checked.prog.funcNamed Rows.minimalSpecRow.func = some 8 := by kernel_rfl
theorem MinimalSpec_closed : joinedFacts Try.pinned.checked.prog 8 Try.f8 Rows.minimalSpecSpec Rows.minimalSpecRow = true := by kernel_rfl
theorem MinimalSpec_instance : Try.f8.isInstance Try.pinned.checked.prog Rows.minimalSpecRow.origin Rows.minimalSpecRow.targs := of_decide_eq_true (by kernel_rfl)
theorem MinimalSpec_wrapper : Try.f8.isWrapper Try.pinned.checked.prog Rows.minimalSpecRow.wrapper Rows.minimalSpecRow.mainSum := by unfold Func.isWrapper; rw [if_neg (of_decide_eq_false (by kernel_rfl))]; exact ⟨rfl, rfl⟩
end Go.Proofs.Ytmnpbopkhpbhiaa
