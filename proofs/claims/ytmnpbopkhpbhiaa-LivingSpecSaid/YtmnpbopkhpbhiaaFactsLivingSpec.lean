/- LivingSpec: the closed facts of the given row. -/
import Derived.Test.YtmnpbopkhpbhiaaRows
import Derived.OpenShut
import Derived.ChangeOld
import Derived.Below
import Derived.ProofKit
set_option linter.unusedVariables false
namespace Go.Proofs.Ytmnpbopkhpbhiaa
open Go.RowKit
theorem LivingSpec_named : Try.pinned.checked.prog.funcNamed Rows.livingSpecRow.func = some 3 := by kernel_rfl
theorem LivingSpec_closed : joinedFacts Try.pinned.checked.prog 3 Try.f3 Rows.livingSpecSpec Rows.livingSpecRow = true := by kernel_rfl
theorem LivingSpec_instance : Try.f3.isInstance Try.pinned.checked.prog Rows.livingSpecRow.origin Rows.livingSpecRow.targs := of_decide_eq_true (by kernel_rfl)
theorem LivingSpec_wrapper : Try.f3.isWrapper Try.pinned.checked.prog Rows.livingSpecRow.wrapper Rows.livingSpecRow.mainSum := by unfold Func.isWrapper; rw [if_neg (of_decide_eq_false (by kernel_rfl))]; exact ⟨rfl, rfl⟩
end Go.Proofs.Ytmnpbopkhpbhiaa
