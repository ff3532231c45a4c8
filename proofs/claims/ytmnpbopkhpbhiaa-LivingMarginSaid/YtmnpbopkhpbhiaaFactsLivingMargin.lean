/- LivingMargin: the closed facts of the given row. -/
import Derived.Test.YtmnpbopkhpbhiaaRows
import Derived.OpenShut
import Derived.ChangeOld
import Derived.Below
import Derived.ProofKit
set_option linter.unusedVariables false
namespace Go.Proofs.Ytmnpbopkhpbhiaa
open Go.RowKit
theorem LivingMargin_named : Try.pinned.checked.prog.funcNamed Rows.livingMarginRow.func = some 6 := by kernel_rfl
theorem LivingMargin_closed : joinedFacts Try.pinned.checked.prog 6 Try.f6 Rows.livingMarginSpec Rows.livingMarginRow = true := by kernel_rfl
theorem LivingMargin_instance : Try.f6.isInstance Try.pinned.checked.prog Rows.livingMarginRow.origin Rows.livingMarginRow.targs := of_decide_eq_true (by kernel_rfl)
theorem LivingMargin_wrapper : Try.f6.isWrapper Try.pinned.checked.prog Rows.livingMarginRow.wrapper Rows.livingMarginRow.mainSum := by unfold Func.isWrapper; rw [if_neg (of_decide_eq_false (by kernel_rfl))]; exact ⟨rfl, rfl⟩
end Go.Proofs.Ytmnpbopkhpbhiaa
