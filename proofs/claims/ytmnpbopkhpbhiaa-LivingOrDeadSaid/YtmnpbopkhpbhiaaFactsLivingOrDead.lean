/- LivingOrDead: the closed facts of the given row. -/
import Derived.Test.YtmnpbopkhpbhiaaRows
import Derived.OpenShut
import Derived.ChangeOld
import Derived.Below
import Derived.ProofKit
set_option linter.unusedVariables false
namespace Go.Proofs.Ytmnpbopkhpbhiaa
open Go.RowKit
theorem LivingOrDead_named : Try.pinned.checked.prog.funcNamed Rows.livingOrDeadRow.func = some 5 := by kernel_rfl
theorem LivingOrDead_closed : joinedFacts Try.pinned.checked.prog 5 Try.f5 Rows.livingOrDeadSpec Rows.livingOrDeadRow = true := by kernel_rfl
theorem LivingOrDead_instance : Try.f5.isInstance Try.pinned.checked.prog Rows.livingOrDeadRow.origin Rows.livingOrDeadRow.targs := of_decide_eq_true (by kernel_rfl)
theorem LivingOrDead_wrapper : Try.f5.isWrapper Try.pinned.checked.prog Rows.livingOrDeadRow.wrapper Rows.livingOrDeadRow.mainSum := by unfold Func.isWrapper; rw [if_neg (of_decide_eq_false (by kernel_rfl))]; exact ⟨rfl, rfl⟩
end Go.Proofs.Ytmnpbopkhpbhiaa
