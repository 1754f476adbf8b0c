/- A nil engine answers so. -/
import Derived.Test.YtddiggiimeebkaaGreatLib
import Derived.Test.YtddiggiimeebkaaGreatProg
set_option linter.unusedVariables false
set_option linter.unusedSimpArgs false
namespace Go.Proofs.YtddiggiimeebkaaGreat
open Go.RowKit
def Nil1 (w : World) (v : Value) (e : Ending) (w' : World) : Prop := e = .returned v ∧ Below w.heap.size w w'
theorem nilRun (n : Int) (w : World) : Calls Tryz.prog 4 #[.pointer none, .int .i64 n] w (Nil1 w (.tuple #[.int .i64 0, .int .i64 1])) := by
  go_enter Tryz.func4, Tryz.ntmps4
  go_wp2
  go_ret2
  exact ⟨rfl, Below.refl _ _⟩
theorem nilSave (w : World) : Calls Tryz.prog 5 #[.pointer none] w (Nil1 w (.tuple #[.slice none 0 0, .int .i64 1])) := by
  go_enter Tryz.func5, Tryz.ntmps5
  go_wp2
  go_ret2
  exact ⟨rfl, Below.refl _ _⟩
theorem nilHalted (w : World) : Calls Tryz.prog 9 #[.pointer none] w (Nil1 w (.bool false)) := by
  go_enter Tryz.func9, Tryz.ntmps9
  go_wp2
  go_ret
  exact ⟨rfl, Below.refl _ _⟩
theorem nilSteps (w : World) : Calls Tryz.prog 10 #[.pointer none] w (Nil1 w (.int .i64 0)) := by
  go_enter Tryz.func10, Tryz.ntmps10
  go_wp2
  go_ret
  exact ⟨rfl, Below.refl _ _⟩
theorem nilAt (w : World) : Calls Tryz.prog 11 #[.pointer none] w (Nil1 w (.int .i64 0)) := by
  go_enter Tryz.func11, Tryz.ntmps11
  go_wp2
  go_ret
  exact ⟨rfl, Below.refl _ _⟩
theorem nilTable (w : World) : Calls Tryz.prog 12 #[.pointer none] w (Nil1 w (.pointer none)) := by
  go_enter Tryz.func12, Tryz.ntmps12
  go_wp2
  go_ret
  exact ⟨rfl, Below.refl _ _⟩
theorem nilInbox (w : World) : Calls Tryz.prog 13 #[.pointer none] w (Nil1 w (.slice none 0 0)) := by
  go_enter Tryz.func13, Tryz.ntmps13
  go_wp2
  go_ret
  exact ⟨rfl, Below.refl _ _⟩
theorem nilSent (w : World) : Calls Tryz.prog 14 #[.pointer none] w (Nil1 w (.int .i64 0)) := by
  go_enter Tryz.func14, Tryz.ntmps14
  go_wp2
  go_ret
  exact ⟨rfl, Below.refl _ _⟩
theorem nilMost (w : World) : Calls Tryz.prog 15 #[.pointer none] w (Nil1 w (.int .i64 0)) := by
  go_enter Tryz.func15, Tryz.ntmps15
  go_wp2
  go_ret
  exact ⟨rfl, Below.refl _ _⟩
theorem nilTrace (w : World) : Calls Tryz.prog 16 #[.pointer none] w (Nil1 w (.slice none 0 0)) := by
  go_enter Tryz.func16, Tryz.ntmps16
  go_wp2
  go_ret
  exact ⟨rfl, Below.refl _ _⟩
theorem nilFork (w : World) : Calls Tryz.prog 17 #[.pointer none] w (Nil1 w (.pointer none)) := by
  go_enter Tryz.func17, Tryz.ntmps17
  go_wp2
  go_ret
  exact ⟨rfl, Below.refl _ _⟩
end Go.Proofs.YtddiggiimeebkaaGreat
