/- A nil engine's step; no engine of no graph. -/
import Derived.Test.YtddiggiimeebkaaGreatEngNone
set_option linter.unusedVariables false
set_option linter.unusedSimpArgs false
namespace Go.Proofs.YtddiggiimeebkaaGreat
open Go.RowKit
theorem two_below (w : World) (o1 o2 : Obj) : Below w.heap.size w ((w.alloc o1).alloc o2) := ((Below.refl _ _).alloc (Nat.le_refl _) o1).alloc (by rw [World.size_alloc]; omega) o2
set_option maxHeartbeats 800000 in
theorem nilLoad (c s : Value) (a : Option Addr) (len cap : Nat) (hl : len ≤ 9223372036854775807) (w : World) : Calls Tryz.prog 6 #[c, .pointer none, s, .slice a len cap] w (Nil1 w (.tuple #[.pointer none, .int .i64 3])) := by
  by_cases h : (len : Int) < 21
  · go_enter Tryz.func6, Tryz.ntmps6
    go_wp2
    all_goals (go_ret2; exact ⟨rfl, by first | exact Below.refl _ _ | exact two_below w _ _⟩)
  · go_enter Tryz.func6, Tryz.ntmps6
    go_wp2
    all_goals (go_ret2; exact ⟨rfl, by first | exact Below.refl _ _ | exact two_below w _ _⟩)
set_option maxHeartbeats 800000 in
theorem nilStep (w : World) : Calls Tryz.prog 8 #[.pointer none] w (Nil1 w (.int .i64 1)) := by
  go_enter_defers Tryz.func8, Tryz.ntmps8
  go_wp2
  exact ⟨_, results_tmp rfl _ _ _, rfl, (Below.refl _ _).alloc (Nat.le_refl _) _⟩
end Go.Proofs.YtddiggiimeebkaaGreat
