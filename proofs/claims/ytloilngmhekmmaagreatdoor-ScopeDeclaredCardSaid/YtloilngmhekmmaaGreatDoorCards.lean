/-
  DERIVED. GIVEN WITH THE SEED: THE CARDS: each row of YtloilngmhekmmaaGreatDoorRows.lean that lists a variable, with what it lists TIED to the program's text (the seventh form; the later family's looks); each row that meets fmt, with fmt's text TOLD by the authors' own Lean function (tested against real Go, not proved from fmt's source: count such statements apart). THE CARD IS WHAT COUNTS. Prove the row's statement (the work); the ties are given (YtloilngmhekmmaaGreatDoorTie.lean); close each card by the builder's one call (the guide's Derived/Test/ToyasCard.lean, 'card_holds'). Laid BY PROGRAM, IN A SANDBOX (cutbox-door.mjs). By AI agents, Wed Nov 11 2026. No macro, syntax, notation, axiom, sorry.
-/
import Derived.Test.YtloilngmhekmmaaGreatDoorRows
import GoSem.ClaimSeven
namespace Go.Proofs.YtloilngmhekmmaaGreatDoor
namespace Rows

/-- THE TIED CARD OF 'reticulelaw10.ScopeFresh'. -/
def scopeFreshCard : Claim7 := { stood := { row := scopeFreshRow, standIns := [], harness := (true, "6efa08873db50626da90c870cbd15de86eab84276bfddea0a75af339325c9810"), looks := true }, kinds := [], alts := [], laidByText := true, laidKinds := [.data, .data, .data], laidTests := true, laidLooks := .later }
def ScopeFreshCardSaid : Prop := Claim7.holds Tryz.pinned (.plain (OpenSpec.ofChange scopeFreshSpec)) scopeFreshCard

/-- THE TIED CARD OF 'reticulelaw10.ScopeDeclared'. -/
def scopeDeclaredCard : Claim7 := { stood := { row := scopeDeclaredRow, standIns := [], harness := (true, "6efa08873db50626da90c870cbd15de86eab84276bfddea0a75af339325c9810"), looks := true }, kinds := [], alts := [], laidByText := true, laidKinds := [.data, .data, .data], laidTests := true, laidLooks := .later }
def ScopeDeclaredCardSaid : Prop := Claim7.holds Tryz.pinned (.plain (OpenSpec.ofChange scopeDeclaredSpec)) scopeDeclaredCard

/-- THE SECOND FORM's CARD OF 'reticulelaw10.ScopeFresh'. -/
def scopeFreshUptoCard : Claim7 := { stood := { row := scopeFreshUptoRow, standIns := [], harness := (true, "6efa08873db50626da90c870cbd15de86eab84276bfddea0a75af339325c9810"), looks := true }, kinds := [], alts := [], laidByText := true, laidKinds := [.data, .data, .data], laidTests := true, laidLooks := .later }
def ScopeFreshUptoCardSaid : Prop := Claim7.holds Tryz.pinned (.plain (OpenSpec.upto scopeFreshSpec)) scopeFreshUptoCard

/-- THE SECOND FORM's CARD OF 'reticulelaw10.ScopeDeclared'. -/
def scopeDeclaredUptoCard : Claim7 := { stood := { row := scopeDeclaredUptoRow, standIns := [], harness := (true, "6efa08873db50626da90c870cbd15de86eab84276bfddea0a75af339325c9810"), looks := true }, kinds := [], alts := [], laidByText := true, laidKinds := [.data, .data, .data], laidTests := true, laidLooks := .later }
def ScopeDeclaredUptoCardSaid : Prop := Claim7.holds Tryz.pinned (.plain (OpenSpec.upto scopeDeclaredSpec)) scopeDeclaredUptoCard
end Rows
end Go.Proofs.YtloilngmhekmmaaGreatDoor
