/- What must be whatever is asked of scopes: run by the evaluator. -/
import Derived.Test.YtloilngmhekmmaaGreatDoorAv18
import Derived.Test.YtloilngmhekmmaaGreatDoorProg
set_option linter.unusedVariables false
noncomputable section
namespace Go.Proofs.YtloilngmhekmmaaGreatDoor
theorem tab_ok : tabOk Tryz.prog = true := by kernel_rfl
def tab : Tab := mkTab Tryz.prog tab_ok
theorem mixed : Tryz.prog.follows .mixedOrders = true := by kernel_rfl
theorem live_true : isTrue ((evF tab noC (evDraw tab) 3000).F 9 [] AH.empty) = true := by kernel_rfl
theorem live_any (w : World) : Calls Tryz.prog 9 #[] w fun e w' => e = .returned (.bool true) ∧ Go.RowKit.Below w.heap.size w w' := closed_call (T := tab) mixed live_true w
end Go.Proofs.YtloilngmhekmmaaGreatDoor
