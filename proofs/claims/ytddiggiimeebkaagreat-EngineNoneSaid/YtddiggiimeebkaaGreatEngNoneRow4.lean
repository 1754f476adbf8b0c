/- A nil engine answers so: proved for every number and every bytes. Conditions: none but those of the row. -/
import Derived.Test.YtddiggiimeebkaaGreatEngNoneRow2
import Derived.Test.YtddiggiimeebkaaGreatEngNoneRow3
import Derived.Test.YtddiggiimeebkaaGreatKEZ
set_option linter.unusedVariables false
noncomputable section
namespace Go.Proofs.YtddiggiimeebkaaGreat.engineNone
open Go.ChangeShapes Go.WideShapes Go.ChangeAt Go.RowKit
theorem over (hlive : Live) : Rows.engineNoneRow.holds Tryz.pinned (OpenSpec.ofChange Rows.engineNoneSpec) :=
  OpenClaim.holds_of_wide 3 Tryz.f3 rfl rfl rfl rfl rfl rfl rfl ⟨rfl, rfl, rfl, rfl, rfl⟩ rfl rfl rfl rfl rfl named Tryz.func3 joined
    instance_ wrapper
    (fun os started H enc _ => lifted hlive os started H enc)
end Go.Proofs.YtddiggiimeebkaaGreat.engineNone
namespace Go.Proofs.YtddiggiimeebkaaGreat
theorem engineNone_holds : Rows.EngineNoneSaid := engineNone.over KELive_any
end Go.Proofs.YtddiggiimeebkaaGreat
