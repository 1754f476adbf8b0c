/- Words and programs: proved for every operation, text and two programs. Conditions: none but those of the row. -/
import Derived.Test.YtlajcmoiopaemaaPwRow
import Derived.Test.YtlajcmoiopaemaaPwRow3
import Derived.Test.YtlajcmoiopaemaaKWZ
set_option linter.unusedVariables false
noncomputable section
namespace Go.Proofs.Ytlajcmoiopaemaa.progWords
open Go.ChangeShapes Go.WideShapes Go.ChangeAt Go.RowKit
theorem named : Try.pinned.checked.prog.funcNamed Rows.progWordsRow.func = some 3 := by kernel_rfl
theorem instance_ : Func.isInstance Try.pinned.checked.prog Try.f3 Rows.progWordsRow.origin Rows.progWordsRow.targs := of_decide_eq_true (by kernel_rfl)
theorem wrapper : Func.isWrapper Try.pinned.checked.prog Try.f3 Rows.progWordsRow.wrapper Rows.progWordsRow.mainSum := by unfold Func.isWrapper; first | (rw [if_pos (by decide +kernel)]; kernel_rfl) | (rw [if_neg (by decide +kernel)]; exact ⟨rfl, rfl⟩)
theorem over (hlive : Live) : Rows.progWordsRow.holds Try.pinned (OpenSpec.ofChange Rows.progWordsSpec) :=
  OpenClaim.holds_of_wide 3 Try.f3 rfl rfl rfl rfl rfl rfl rfl ⟨rfl, rfl, rfl, rfl, rfl⟩ rfl rfl rfl rfl rfl named Try.func3 joined
    instance_ wrapper
    (fun os started H enc _ => lifted hlive os started H enc)
end Go.Proofs.Ytlajcmoiopaemaa.progWords
namespace Go.Proofs.Ytlajcmoiopaemaa
theorem progWords_holds : Rows.ProgWordsSaid := progWords.over KWLive_any
end Go.Proofs.Ytlajcmoiopaemaa
