/- What the rows over scopes list: the tables, and a world that holds them. -/
import Derived.Test.YtloilngmhekmmaaGreatDoorCards
import Derived.Test.YtloilngmhekmmaaGreatDoorTie
import Derived.WalkKit
import Derived.ProofKit
import Derived.OpenShut
import Derived.Deep.DeepHandedRow
import Derived.Lib.LaidTab
import Derived.LaidSub
import Derived.Lib.ItoaNum
import Derived.Test.YtloilngmhekmmaaGreatDoorScope3
set_option linter.unusedVariables false
set_option linter.unusedSimpArgs false
namespace Go.Proofs.YtloilngmhekmmaaGreatDoor
open Go.ChangeShapes Go.WideShapes Go.ChangeAt Go.RowKit
theorem own : ownKnob Tryz.prog.godebug = none := by kernel_rfl
theorem laidOut : laidOutB Tryz.prog = true := by kernel_rfl
def laidAll : List (String × DataW Unit) := [("math/bits.deBruijn32tab", Rows.laid_math_bits_deBruijn32tab), ("math/bits.deBruijn64tab", Rows.laid_math_bits_deBruijn64tab), ("internal/strconv.uint64pow10", Rows.laid_internal_strconv_uint64pow10)]
theorem gTab : Tryz.prog.globalNamed "internal/strconv.uint64pow10" = some 0 := by kernel_rfl
theorem gTabType : (Tryz.prog.globals[0]?).map (·.type) = some 152 := by kernel_rfl
theorem cellsTab : Tryz.prog.cellsOf 152 = 20 := by kernel_rfl
theorem cellsU64 : Tryz.prog.cellsOf 121 = 1 := by kernel_rfl
theorem table {W : World} (h : laidMetH Tryz.prog laidAll W) : TabW W :=
  Lib.tabIs_of_head (rest := []) gTab gTabType Tryz.underlying152 Tryz.underlying121 cellsU64 cellsTab (h.filter (fun x => x.1 == "internal/strconv.uint64pow10"))
def putG (h : Array Obj) (g : Nat) (cs : Array Value) : Array Obj := h.modify g fun
  | .cells _ t frozen => .cells cs t frozen
  | o => o
def tabCells (k : IntKind) : DataW Unit → Array Value
  | .agg l => (l.map fun | .lit (.int _ z) => Value.int k z | _ => undef).toArray
  | _ => #[]
noncomputable def laidWorld (os : Os) : World :=
  { World.holding Tryz.prog os ⟨#[], #[], []⟩ with heap := putG (putG (putG (World.holding Tryz.prog os ⟨#[], #[], []⟩).heap 1 (tabCells .u8 Rows.laid_math_bits_deBruijn32tab)) 2 (tabCells .u8 Rows.laid_math_bits_deBruijn64tab)) 0 (tabCells .u64 Rows.laid_internal_strconv_uint64pow10) }
end Go.Proofs.YtloilngmhekmmaaGreatDoor
