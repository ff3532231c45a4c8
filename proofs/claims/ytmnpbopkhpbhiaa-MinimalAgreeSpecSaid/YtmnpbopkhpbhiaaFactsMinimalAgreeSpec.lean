/- MinimalAgreeSpec: the closed facts of the given row. -/
import Derived.Test.YtmnpbopkhpbhiaaRows
import Derived.OpenShut
import Derived.ChangeOld
import Derived.Below
import Derived.ProofKit
set_option linter.unusedVariables false
namespace Go.Proofs.Ytmnpbopkhpbhiaa
open Go.RowKit
theorem MinimalAgreeSpec_named : Try.pinned.checked.prog.funcNamed Rows.minimalAgreeSpecRow.func = some 9 := by kernel_rfl
theorem MinimalAgreeSpec_closed : joinedFacts Try.pinned.checked.prog 9 Try.f9 Rows.minimalAgreeSpecSpec Rows.minimalAgreeSpecRow = true := by kernel_rfl
theorem MinimalAgreeSpec_instance : Try.f9.isInstance Try.pinned.checked.prog Rows.minimalAgreeSpecRow.origin Rows.minimalAgreeSpecRow.targs := of_decide_eq_true (by kernel_rfl)
theorem MinimalAgreeSpec_wrapper : Try.f9.isWrapper Try.pinned.checked.prog Rows.minimalAgreeSpecRow.wrapper Rows.minimalAgreeSpecRow.mainSum := by unfold Func.isWrapper; rw [if_neg (of_decide_eq_false (by kernel_rfl))]; exact ⟨rfl, rfl⟩
end Go.Proofs.Ytmnpbopkhpbhiaa
