/- A closed run, from the calls that are known. Written by wip/known.py. -/
import Derived.Test.YtddiggiimeebkaaGreatKE5
set_option linter.unusedVariables false
noncomputable section
namespace Go.Proofs.YtddiggiimeebkaaGreat
theorem KELive_any (w : World) : Calls Tryz.prog 7 #[] w fun e w' => e = .returned (.bool true) ∧ Go.RowKit.Below w.heap.size w w' := closed_callC (T := tab) (C := knownC KE63) (n := 6000) (knownC_ok KE63_ok) mixed (by kernel_rfl) w
end Go.Proofs.YtddiggiimeebkaaGreat
