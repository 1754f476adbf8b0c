/- A nil engine answers so: the law's walk. -/
import Derived.Test.YtddiggiimeebkaaGreatEngNone2
set_option linter.unusedVariables false
set_option linter.unusedSimpArgs false
namespace Go.Proofs.YtddiggiimeebkaaGreat
open Go.RowKit
set_option maxHeartbeats 3200000 in
set_option maxRecDepth 100000 in
theorem lawEngNone (n : Int) (a : Option Addr) (len cap : Nat) (hl : len ≤ 9223372036854775807) (w : World) (hlive : ∀ w, Calls Tryz.prog 7 #[] w fun e w' => e = .returned (.bool true) ∧ Below w.heap.size w w') :
    Calls Tryz.prog 3 #[.int .i64 n, .slice a len cap] w fun e w' => e = .returned (.bool true) ∧ Below w.heap.size w w' := by
  have LV := hid hlive
  clear hlive
  go_enter Tryz.func3, Tryz.ntmps3
  go_wp2_with (first
    | (go_at_call 4; refine (nilRun n _).mono ?_; rintro e w1 ⟨rfl, hb1⟩)
    | (go_at_call 5; refine (nilSave _).mono ?_; rintro e w2 ⟨rfl, hb2⟩)
    | (go_at_call 6; refine (nilLoad _ _ a len cap hl _).mono ?_; rintro e w3 ⟨rfl, hb3⟩)
    | (go_at_call 7; refine (LV.out _).mono ?_; rintro e w4 ⟨rfl, hb4⟩)
    | (go_at_call 8; refine (nilStep _).mono ?_; rintro e w5 ⟨rfl, hb5⟩)
    | (go_at_call 9; refine (nilHalted _).mono ?_; rintro e w6 ⟨rfl, hb6⟩)
    | (go_at_call 10; refine (nilSteps _).mono ?_; rintro e w7 ⟨rfl, hb7⟩)
    | (go_at_call 11; refine (nilAt _).mono ?_; rintro e w8 ⟨rfl, hb8⟩)
    | (go_at_call 12; refine (nilTable _).mono ?_; rintro e w9 ⟨rfl, hb9⟩)
    | (go_at_call 13; refine (nilInbox _).mono ?_; rintro e w10 ⟨rfl, hb10⟩)
    | (go_at_call 14; refine (nilSent _).mono ?_; rintro e w11 ⟨rfl, hb11⟩)
    | (go_at_call 15; refine (nilMost _).mono ?_; rintro e w12 ⟨rfl, hb12⟩)
    | (go_at_call 16; refine (nilTrace _).mono ?_; rintro e w13 ⟨rfl, hb13⟩)
    | (go_at_call 17; refine (nilFork _).mono ?_; rintro e w14 ⟨rfl, hb14⟩))
  go_ret
  have H1 := hb1
  have H2 := H1.trans (hb2.mono H1.size)
  have H3 := H2.trans (hb3.mono H2.size)
  have H4 := H3.trans (hb4.mono H3.size)
  have H5 := H4.trans (hb5.mono H4.size)
  have H6 := H5.trans (hb6.mono H5.size)
  have H7 := H6.trans (hb7.mono H6.size)
  have H8 := H7.trans (hb8.mono H7.size)
  have H9 := H8.trans (hb9.mono H8.size)
  have H10 := H9.trans (hb10.mono H9.size)
  have H11 := H10.trans (hb11.mono H10.size)
  have H12 := H11.trans (hb12.mono H11.size)
  have H13 := H12.trans (hb13.mono H12.size)
  have H14 := H13.trans (hb14.mono H13.size)
  exact ⟨rfl, H14⟩
end Go.Proofs.YtddiggiimeebkaaGreat
