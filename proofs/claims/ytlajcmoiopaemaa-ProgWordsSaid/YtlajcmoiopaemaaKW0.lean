/- The program's tables, for the evaluator. -/
import Derived.Test.YtlajcmoiopaemaaAv20
import Derived.Test.YtlajcmoiopaemaaProg
set_option linter.unusedVariables false
noncomputable section
namespace Go.Proofs.Ytlajcmoiopaemaa
theorem tab_ok : tabOk Try.prog = true := by kernel_rfl
def tab : Tab := mkTab Try.prog tab_ok
theorem mixed : Try.prog.follows .mixedOrders = true := by kernel_rfl
def KW0 : KTab := .e
theorem KW0_ok : KTab.ok Try.prog KW0 := KTab.ok_e _
end Go.Proofs.Ytlajcmoiopaemaa
