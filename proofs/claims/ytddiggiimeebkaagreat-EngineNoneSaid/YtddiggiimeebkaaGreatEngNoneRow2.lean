/- A nil engine answers so: the row's closed facts, one by one, and the statement given what must be whatever is asked. -/
import Derived.Test.YtddiggiimeebkaaGreatEngNoneRow
set_option linter.unusedVariables false
namespace Go.Proofs.YtddiggiimeebkaaGreat.engineNone
open Go.ChangeShapes Go.WideShapes Go.ChangeAt Go.RowKit
theorem named : Tryz.pinned.checked.prog.funcNamed Rows.engineNoneRow.func = some 3 := by kernel_rfl
theorem instance_ : Func.isInstance Tryz.pinned.checked.prog Tryz.f3 Rows.engineNoneRow.origin Rows.engineNoneRow.targs := of_decide_eq_true (by kernel_rfl)
theorem wrapper : Func.isWrapper Tryz.pinned.checked.prog Tryz.f3 Rows.engineNoneRow.wrapper Rows.engineNoneRow.mainSum := by unfold Func.isWrapper; first | (rw [if_pos (by decide +kernel)]; kernel_rfl) | (rw [if_neg (by decide +kernel)]; exact ⟨rfl, rfl⟩)
end Go.Proofs.YtddiggiimeebkaaGreat.engineNone
