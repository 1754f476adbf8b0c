/- Expressions, statements that are the same: the program's. Printed by gen_same2.py. -/
import Derived.Test.YtlajcmoiopaemaaSame3
set_option linter.unusedVariables false
set_option linter.unusedSimpArgs false
namespace Go.Proofs.Ytlajcmoiopaemaa
open Go.RowKit
def EqP {α : Type} (a b : α) : Prop := a = b
set_option maxHeartbeats 3200000 in
set_option maxRecDepth 100000 in
theorem sameExpr_any (x y : ExprM) (vkids ukids : Value) (w : World) (hkids : IntsR w vkids x.kids) (gkids : IntsR w ukids y.kids) :
    Calls Try.prog 17 #[.agg #[.int .u8 x.kind, .int .u8 x.of_, .int .u8 x.op, .string x.name, .int .i64 x.num, vkids], .agg #[.int .u8 y.kind, .int .u8 y.of_, .int .u8 y.op, .string y.name, .int .i64 y.num, ukids]] w fun e w' => Says (EqP x y) e ∧ Below w.heap.size w w' := by
  have Hkids := hid hkids
  have Gkids := hid gkids
  obtain ⟨Akids, ckids, rfl, _, _⟩ := Row.slice hkids
  obtain ⟨Bkids, dkids, rfl, _, _⟩ := Row.slice gkids
  clear hkids gkids
  obtain ⟨xkind, xof_, xop, xname, xnum, xkids⟩ := x
  obtain ⟨ykind, yof_, yop, yname, ynum, ykids⟩ := y
  have HB := hid (((Below.refl w.heap.size w).alloc (Nat.le_refl _) (.cells #[.int .u8 xkind, .int .u8 xof_, .int .u8 xop, .string xname, .int .i64 xnum, .slice Akids xkids.length ckids] 55)).alloc (by simp) (.cells #[.int .u8 ykind, .int .u8 yof_, .int .u8 yop, .string yname, .int .i64 ynum, .slice Bkids ykids.length dkids] 55))
  by_cases n0 : xkind = ykind
  · subst n0
    by_cases n1 : xof_ = yof_
    · subst n1
      by_cases n2 : xop = yop
      · subst n2
        by_cases n3 : xname = yname
        · subst n3
          by_cases n4 : xnum = ynum
          · subst n4
            go_enter Try.func17, Try.ntmps17
            go_wp2_with (go_at_call 20; refine (equalInts_any _ _ _ _ _ (by exact Hkids.out.below HB.out) (by exact Gkids.out.below HB.out)).mono ?_; rintro e w' ⟨⟨r, rfl, hr⟩, hb2⟩)
            go_ret
            exact ⟨⟨r, rfl, hr.trans ⟨fun h => by subst h; exact rfl, fun h => by cases h; rfl⟩⟩, HB.out.trans (hb2.mono HB.out.size)⟩
          · skip
            have HQ := hid (show ¬ EqP (⟨xkind, xof_, xop, xname, xnum, xkids⟩ : ExprM) ⟨xkind, xof_, xop, xname, ynum, ykids⟩ from fun h => by cases h; exact n4 rfl)
            go_enter Try.func17, Try.ntmps17
            go_wp2
            go_ret
            exact ⟨says_false HQ.out, HB.out⟩
        · skip
          have HQ := hid (show ¬ EqP (⟨xkind, xof_, xop, xname, xnum, xkids⟩ : ExprM) ⟨xkind, xof_, xop, yname, ynum, ykids⟩ from fun h => by cases h; exact n3 rfl)
          have nl : ¬ xname.toList = yname.toList := fun e => n3 (strl.1 e)
          clear n3
          go_enter Try.func17, Try.ntmps17
          go_wp2
          go_ret
          exact ⟨says_false HQ.out, HB.out⟩
      · skip
        have HQ := hid (show ¬ EqP (⟨xkind, xof_, xop, xname, xnum, xkids⟩ : ExprM) ⟨xkind, xof_, yop, yname, ynum, ykids⟩ from fun h => by cases h; exact n2 rfl)
        go_enter Try.func17, Try.ntmps17
        go_wp2
        go_ret
        exact ⟨says_false HQ.out, HB.out⟩
    · skip
      have HQ := hid (show ¬ EqP (⟨xkind, xof_, xop, xname, xnum, xkids⟩ : ExprM) ⟨xkind, yof_, yop, yname, ynum, ykids⟩ from fun h => by cases h; exact n1 rfl)
      go_enter Try.func17, Try.ntmps17
      go_wp2
      go_ret
      exact ⟨says_false HQ.out, HB.out⟩
  · skip
    have HQ := hid (show ¬ EqP (⟨xkind, xof_, xop, xname, xnum, xkids⟩ : ExprM) ⟨ykind, yof_, yop, yname, ynum, ykids⟩ from fun h => by cases h; exact n0 rfl)
    go_enter Try.func17, Try.ntmps17
    go_wp2
    go_ret
    exact ⟨says_false HQ.out, HB.out⟩
end Go.Proofs.Ytlajcmoiopaemaa
