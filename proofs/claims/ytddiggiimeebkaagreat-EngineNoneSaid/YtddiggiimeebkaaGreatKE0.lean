/- The program's tables, for the evaluator. -/
import Derived.Test.YtddiggiimeebkaaGreatAv20
import Derived.Test.YtddiggiimeebkaaGreatProg
set_option linter.unusedVariables false
noncomputable section
namespace Go.Proofs.YtddiggiimeebkaaGreat
theorem tab_ok : tabOk Tryz.prog = true := by kernel_rfl
def tab : Tab := mkTab Tryz.prog tab_ok
theorem mixed : Tryz.prog.follows .mixedOrders = true := by kernel_rfl
def KE0 : KTab := .e
theorem KE0_ok : KTab.ok Tryz.prog KE0 := KTab.ok_e _
end Go.Proofs.YtddiggiimeebkaaGreat
