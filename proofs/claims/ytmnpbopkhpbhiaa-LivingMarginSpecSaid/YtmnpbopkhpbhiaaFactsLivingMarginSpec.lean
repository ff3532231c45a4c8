/- LivingMarginSpec: the closed facts of the given row. -/
import Derived.Test.YtmnpbopkhpbhiaaRows
import Derived.OpenShut
import Derived.ChangeOld
import Derived.Below
import Derived.ProofKit
set_option linter.unusedVariables false
namespace Go.Proofs.Ytmnpbopkhpbhiaa
open Go.RowKit
theorem LivingMarginSpec_named : Try.pinned.checked.prog.funcNamed Rows.livingMarginSpecRow.func = some 4 := by kernel_rfl
theorem LivingMarginSpec_closed : joinedFacts Try.pinned.checked.prog 4 Try.f4 Rows.livingMarginSpecSpec Rows.livingMarginSpecRow = true := by kernel_rfl
theorem LivingMarginSpec_instance : Try.f4.isInstance Try.pinned.checked.prog Rows.livingMarginSpecRow.origin Rows.livingMarginSpecRow.targs := of_decide_eq_true (by kernel_rfl)
theorem LivingMarginSpec_wrapper : Try.f4.isWrapper Try.pinned.checked.prog Rows.livingMarginSpecRow.wrapper Rows.livingMarginSpecRow.mainSum := by unfold Func.isWrapper; rw [if_neg (of_decide_eq_false (by kernel_rfl))]; exact ⟨rfl, rfl⟩
end Go.Proofs.Ytmnpbopkhpbhiaa
