/- A closed run, from the calls that are known. Written by wip/known.py. -/
import Derived.Test.YtlajcmoiopaemaaKW3
set_option linter.unusedVariables false
noncomputable section
namespace Go.Proofs.Ytlajcmoiopaemaa
theorem KWLive_any (w : World) : Calls Try.prog 7 #[] w fun e w' => e = .returned (.bool true) ∧ Go.RowKit.Below w.heap.size w w' := closed_callC (T := tab) (C := knownC KW36) (n := 6000) (knownC_ok KW36_ok) mixed (by kernel_rfl) w
end Go.Proofs.Ytlajcmoiopaemaa
