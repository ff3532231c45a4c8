/- MinimalBoth: the closed facts of the given row. -/
import Derived.Test.YtmnpbopkhpbhiaaRows
import Derived.OpenShut
import Derived.ChangeOld
import Derived.Below
import Derived.ProofKit
set_option linter.unusedVariables false
namespace Go.Proofs.Ytmnpbopkhpbhiaa
open Go.RowKit
theorem MinimalBoth_named : Try.pinned.checked.prog.funcNamed Rows.minimalBothRow.func = some 10 := by kernel_rfl
theorem MinimalBoth_closed : joinedFacts Try.pinned.checked.prog 10 Try.f10 Rows.minimalBothSpec Rows.minimalBothRow = true := by kernel_rfl
theorem MinimalBoth_instance : Try.f10.isInstance Try.pinned.checked.prog Rows.minimalBothRow.origin Rows.minimalBothRow.targs := of_decide_eq_true (by kernel_rfl)
theorem MinimalBoth_wrapper : Try.f10.isWrapper Try.pinned.checked.prog Rows.minimalBothRow.wrapper Rows.minimalBothRow.mainSum := by unfold Func.isWrapper; rw [if_neg (of_decide_eq_false (by kernel_rfl))]; exact ⟨rfl, rfl⟩
end Go.Proofs.Ytmnpbopkhpbhiaa
