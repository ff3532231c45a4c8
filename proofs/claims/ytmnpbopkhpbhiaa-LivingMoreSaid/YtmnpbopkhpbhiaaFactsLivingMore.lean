/- LivingMore: the closed facts of the given row. -/
import Derived.Test.YtmnpbopkhpbhiaaRows
import Derived.OpenShut
import Derived.ChangeOld
import Derived.Below
import Derived.ProofKit
set_option linter.unusedVariables false
namespace Go.Proofs.Ytmnpbopkhpbhiaa
open Go.RowKit
theorem LivingMore_named : Try.pinned.checked.prog.funcNamed Rows.livingMoreRow.func = some 7 := by kernel_rfl
theorem LivingMore_closed : joinedFacts Try.pinned.checked.prog 7 Try.f7 Rows.livingMoreSpec Rows.livingMoreRow = true := by kernel_rfl
theorem LivingMore_instance : Try.f7.isInstance Try.pinned.checked.prog Rows.livingMoreRow.origin Rows.livingMoreRow.targs := of_decide_eq_true (by kernel_rfl)
theorem LivingMore_wrapper : Try.f7.isWrapper Try.pinned.checked.prog Rows.livingMoreRow.wrapper Rows.livingMoreRow.mainSum := by unfold Func.isWrapper; rw [if_neg (of_decide_eq_false (by kernel_rfl))]; exact ⟨rfl, rfl⟩
end Go.Proofs.Ytmnpbopkhpbhiaa
