/- Programs that are the same: the reference's. Printed by gen_same7.py. -/
import Derived.Test.YtlajcmoiopaemaaSame8
import Derived.Test.YtlajcmoiopaemaaSame9
import Derived.Deep.RegionHeld3
import Derived.Deep.CutRange
set_option linter.unusedVariables false
set_option linter.unusedSimpArgs false
namespace Go.Proofs.Ytlajcmoiopaemaa
open Go.RowKit
theorem drewc (w : World) (p : Addr) : w.drew.cell? p = w.cell? p := rfl
set_option maxHeartbeats 6400000 in
set_option maxRecDepth 100000 in
theorem refSame_len0 (xdecls ydecls : List DeclM) (xexprs yexprs : List ExprM) (xstmts ystmts : List StmtM) (xmain ymain : List Int) (Adecls Bdecls : Option Addr) (cdecls ddecls : Nat) (Aexprs Bexprs : Option Addr) (cexprs dexprs : Nat) (Astmts Bstmts : Option Addr) (cstmts dstmts : Nat) (Amain Bmain : Option Addr) (cmain dmain : Nat) (w : World) (Hdecls : Hid (Decls w (.slice Adecls xdecls.length cdecls) xdecls)) (Gdecls : Hid (Decls w (.slice Bdecls ydecls.length ddecls) ydecls)) (Hexprs : Hid (ExprsR w (.slice Aexprs xexprs.length cexprs) xexprs)) (Gexprs : Hid (ExprsR w (.slice Bexprs yexprs.length dexprs) yexprs)) (Hstmts : Hid (StmtsR w (.slice Astmts xstmts.length cstmts) xstmts)) (Gstmts : Hid (StmtsR w (.slice Bstmts ystmts.length dstmts) ystmts)) (Hmain : Hid (IntsR w (.slice Amain xmain.length cmain) xmain)) (Gmain : Hid (IntsR w (.slice Bmain ymain.length dmain) ymain))  (L0 : Hid (¬ xdecls.length = ydecls.length)) :
    Calls Try.prog 11 #[.agg #[.slice Adecls xdecls.length cdecls, .slice Aexprs xexprs.length cexprs, .slice Astmts xstmts.length cstmts, .slice Amain xmain.length cmain], .agg #[.slice Bdecls ydecls.length ddecls, .slice Bexprs yexprs.length dexprs, .slice Bstmts ystmts.length dstmts, .slice Bmain ymain.length dmain]] w fun e w' => Says (EqP (⟨xdecls, xexprs, xstmts, xmain⟩ : ProgM) ⟨ydecls, yexprs, ystmts, ymain⟩) e ∧ Below w.heap.size w w' := by
  have HB0 := hid (((Below.refl w.heap.size w).alloc (Nat.le_refl _) (.cells #[.slice Adecls xdecls.length cdecls, .slice Aexprs xexprs.length cexprs, .slice Astmts xstmts.length cstmts, .slice Amain xmain.length cmain] 28)).alloc (by simp) (.cells #[.slice Bdecls ydecls.length ddecls, .slice Bexprs yexprs.length dexprs, .slice Bstmts ystmts.length dstmts, .slice Bmain ymain.length dmain] 28))
  have l0 : ¬ (xdecls.length : Int) = (ydecls.length : Int) := by have := L0.out; omega
  have HQ := hid (show ¬ EqP (⟨xdecls, xexprs, xstmts, xmain⟩ : ProgM) ⟨ydecls, yexprs, ystmts, ymain⟩ from fun h => L0.out (by cases h; rfl))
  go_enter Try.func11, Try.ntmps11
  go_wp2
  go_ret
  exact ⟨says_false HQ.out, HB0.out⟩
set_option maxHeartbeats 6400000 in
set_option maxRecDepth 100000 in
theorem refSame_len1 (xdecls ydecls : List DeclM) (xexprs yexprs : List ExprM) (xstmts ystmts : List StmtM) (xmain ymain : List Int) (Adecls Bdecls : Option Addr) (cdecls ddecls : Nat) (Aexprs Bexprs : Option Addr) (cexprs dexprs : Nat) (Astmts Bstmts : Option Addr) (cstmts dstmts : Nat) (Amain Bmain : Option Addr) (cmain dmain : Nat) (w : World) (Hdecls : Hid (Decls w (.slice Adecls xdecls.length cdecls) xdecls)) (Gdecls : Hid (Decls w (.slice Bdecls ydecls.length ddecls) ydecls)) (Hexprs : Hid (ExprsR w (.slice Aexprs xexprs.length cexprs) xexprs)) (Gexprs : Hid (ExprsR w (.slice Bexprs yexprs.length dexprs) yexprs)) (Hstmts : Hid (StmtsR w (.slice Astmts xstmts.length cstmts) xstmts)) (Gstmts : Hid (StmtsR w (.slice Bstmts ystmts.length dstmts) ystmts)) (Hmain : Hid (IntsR w (.slice Amain xmain.length cmain) xmain)) (Gmain : Hid (IntsR w (.slice Bmain ymain.length dmain) ymain)) (L0 : Hid (xdecls.length = ydecls.length)) (L1 : Hid (¬ xexprs.length = yexprs.length)) :
    Calls Try.prog 11 #[.agg #[.slice Adecls xdecls.length cdecls, .slice Aexprs xexprs.length cexprs, .slice Astmts xstmts.length cstmts, .slice Amain xmain.length cmain], .agg #[.slice Bdecls ydecls.length ddecls, .slice Bexprs yexprs.length dexprs, .slice Bstmts ystmts.length dstmts, .slice Bmain ymain.length dmain]] w fun e w' => Says (EqP (⟨xdecls, xexprs, xstmts, xmain⟩ : ProgM) ⟨ydecls, yexprs, ystmts, ymain⟩) e ∧ Below w.heap.size w w' := by
  have HB0 := hid (((Below.refl w.heap.size w).alloc (Nat.le_refl _) (.cells #[.slice Adecls xdecls.length cdecls, .slice Aexprs xexprs.length cexprs, .slice Astmts xstmts.length cstmts, .slice Amain xmain.length cmain] 28)).alloc (by simp) (.cells #[.slice Bdecls ydecls.length ddecls, .slice Bexprs yexprs.length dexprs, .slice Bstmts ystmts.length dstmts, .slice Bmain ymain.length dmain] 28))
  have l0 : (xdecls.length : Int) = (ydecls.length : Int) := by have := L0.out; omega
  have l1 : ¬ (xexprs.length : Int) = (yexprs.length : Int) := by have := L1.out; omega
  have HQ := hid (show ¬ EqP (⟨xdecls, xexprs, xstmts, xmain⟩ : ProgM) ⟨ydecls, yexprs, ystmts, ymain⟩ from fun h => L1.out (by cases h; rfl))
  go_enter Try.func11, Try.ntmps11
  go_wp2
  go_ret
  exact ⟨says_false HQ.out, HB0.out⟩
set_option maxHeartbeats 6400000 in
set_option maxRecDepth 100000 in
theorem refSame_len2 (xdecls ydecls : List DeclM) (xexprs yexprs : List ExprM) (xstmts ystmts : List StmtM) (xmain ymain : List Int) (Adecls Bdecls : Option Addr) (cdecls ddecls : Nat) (Aexprs Bexprs : Option Addr) (cexprs dexprs : Nat) (Astmts Bstmts : Option Addr) (cstmts dstmts : Nat) (Amain Bmain : Option Addr) (cmain dmain : Nat) (w : World) (Hdecls : Hid (Decls w (.slice Adecls xdecls.length cdecls) xdecls)) (Gdecls : Hid (Decls w (.slice Bdecls ydecls.length ddecls) ydecls)) (Hexprs : Hid (ExprsR w (.slice Aexprs xexprs.length cexprs) xexprs)) (Gexprs : Hid (ExprsR w (.slice Bexprs yexprs.length dexprs) yexprs)) (Hstmts : Hid (StmtsR w (.slice Astmts xstmts.length cstmts) xstmts)) (Gstmts : Hid (StmtsR w (.slice Bstmts ystmts.length dstmts) ystmts)) (Hmain : Hid (IntsR w (.slice Amain xmain.length cmain) xmain)) (Gmain : Hid (IntsR w (.slice Bmain ymain.length dmain) ymain)) (L0 : Hid (xdecls.length = ydecls.length)) (L1 : Hid (xexprs.length = yexprs.length)) (L2 : Hid (¬ xstmts.length = ystmts.length)) :
    Calls Try.prog 11 #[.agg #[.slice Adecls xdecls.length cdecls, .slice Aexprs xexprs.length cexprs, .slice Astmts xstmts.length cstmts, .slice Amain xmain.length cmain], .agg #[.slice Bdecls ydecls.length ddecls, .slice Bexprs yexprs.length dexprs, .slice Bstmts ystmts.length dstmts, .slice Bmain ymain.length dmain]] w fun e w' => Says (EqP (⟨xdecls, xexprs, xstmts, xmain⟩ : ProgM) ⟨ydecls, yexprs, ystmts, ymain⟩) e ∧ Below w.heap.size w w' := by
  have HB0 := hid (((Below.refl w.heap.size w).alloc (Nat.le_refl _) (.cells #[.slice Adecls xdecls.length cdecls, .slice Aexprs xexprs.length cexprs, .slice Astmts xstmts.length cstmts, .slice Amain xmain.length cmain] 28)).alloc (by simp) (.cells #[.slice Bdecls ydecls.length ddecls, .slice Bexprs yexprs.length dexprs, .slice Bstmts ystmts.length dstmts, .slice Bmain ymain.length dmain] 28))
  have l0 : (xdecls.length : Int) = (ydecls.length : Int) := by have := L0.out; omega
  have l1 : (xexprs.length : Int) = (yexprs.length : Int) := by have := L1.out; omega
  have l2 : ¬ (xstmts.length : Int) = (ystmts.length : Int) := by have := L2.out; omega
  have HQ := hid (show ¬ EqP (⟨xdecls, xexprs, xstmts, xmain⟩ : ProgM) ⟨ydecls, yexprs, ystmts, ymain⟩ from fun h => L2.out (by cases h; rfl))
  go_enter Try.func11, Try.ntmps11
  go_wp2
  go_ret
  exact ⟨says_false HQ.out, HB0.out⟩
set_option maxHeartbeats 6400000 in
set_option maxRecDepth 100000 in
theorem refSame_main (xdecls ydecls : List DeclM) (xexprs yexprs : List ExprM) (xstmts ystmts : List StmtM) (xmain ymain : List Int) (Adecls Bdecls : Option Addr) (cdecls ddecls : Nat) (Aexprs Bexprs : Option Addr) (cexprs dexprs : Nat) (Astmts Bstmts : Option Addr) (cstmts dstmts : Nat) (Amain Bmain : Option Addr) (cmain dmain : Nat) (w : World) (Hdecls : Hid (Decls w (.slice Adecls xdecls.length cdecls) xdecls)) (Gdecls : Hid (Decls w (.slice Bdecls ydecls.length ddecls) ydecls)) (Hexprs : Hid (ExprsR w (.slice Aexprs xexprs.length cexprs) xexprs)) (Gexprs : Hid (ExprsR w (.slice Bexprs yexprs.length dexprs) yexprs)) (Hstmts : Hid (StmtsR w (.slice Astmts xstmts.length cstmts) xstmts)) (Gstmts : Hid (StmtsR w (.slice Bstmts ystmts.length dstmts) ystmts)) (Hmain : Hid (IntsR w (.slice Amain xmain.length cmain) xmain)) (Gmain : Hid (IntsR w (.slice Bmain ymain.length dmain) ymain)) (L0 : Hid (xdecls.length = ydecls.length)) (L1 : Hid (xexprs.length = yexprs.length)) (L2 : Hid (xstmts.length = ystmts.length)) (NM : Hid (¬ xmain = ymain)) :
    Calls Try.prog 11 #[.agg #[.slice Adecls xdecls.length cdecls, .slice Aexprs xexprs.length cexprs, .slice Astmts xstmts.length cstmts, .slice Amain xmain.length cmain], .agg #[.slice Bdecls ydecls.length ddecls, .slice Bexprs yexprs.length dexprs, .slice Bstmts ystmts.length dstmts, .slice Bmain ymain.length dmain]] w fun e w' => Says (EqP (⟨xdecls, xexprs, xstmts, xmain⟩ : ProgM) ⟨ydecls, yexprs, ystmts, ymain⟩) e ∧ Below w.heap.size w w' := by
  have HB0 := hid (((Below.refl w.heap.size w).alloc (Nat.le_refl _) (.cells #[.slice Adecls xdecls.length cdecls, .slice Aexprs xexprs.length cexprs, .slice Astmts xstmts.length cstmts, .slice Amain xmain.length cmain] 28)).alloc (by simp) (.cells #[.slice Bdecls ydecls.length ddecls, .slice Bexprs yexprs.length dexprs, .slice Bstmts ystmts.length dstmts, .slice Bmain ymain.length dmain] 28))
  have l0 : (xdecls.length : Int) = (ydecls.length : Int) := by have := L0.out; omega
  have l1 : (xexprs.length : Int) = (yexprs.length : Int) := by have := L1.out; omega
  have l2 : (xstmts.length : Int) = (ystmts.length : Int) := by have := L2.out; omega
  have HQ := hid (show ¬ EqP (⟨xdecls, xexprs, xstmts, xmain⟩ : ProgM) ⟨ydecls, yexprs, ystmts, ymain⟩ from fun h => NM.out (by cases h; rfl))
  go_enter Try.func11, Try.ntmps11
  go_wp2_with (go_at_call 21; refine (sameInts_any _ _ _ _ _ (by exact Hmain.out.below HB0.out) (by exact Gmain.out.below HB0.out)).mono ?_; rintro e w2 ⟨⟨r, rfl, hr⟩, hb⟩; obtain rfl : r = false := (by cases r with | false => rfl | true => exact (NM.out (hr.1 rfl)).elim); have HB := hid (HB0.out.trans (hb.mono HB0.out.size)); clear hr hb)
  go_ret
  exact ⟨says_false HQ.out, HB.out⟩
set_option maxHeartbeats 6400000 in
set_option maxRecDepth 100000 in
theorem refSame_all (xdecls ydecls : List DeclM) (xexprs yexprs : List ExprM) (xstmts ystmts : List StmtM) (xmain ymain : List Int) (Adecls Bdecls : Option Addr) (cdecls ddecls : Nat) (Aexprs Bexprs : Option Addr) (cexprs dexprs : Nat) (Astmts Bstmts : Option Addr) (cstmts dstmts : Nat) (Amain Bmain : Option Addr) (cmain dmain : Nat) (w : World) (Hdecls : Hid (Decls w (.slice Adecls xdecls.length cdecls) xdecls)) (Gdecls : Hid (Decls w (.slice Bdecls ydecls.length ddecls) ydecls)) (Hexprs : Hid (ExprsR w (.slice Aexprs xexprs.length cexprs) xexprs)) (Gexprs : Hid (ExprsR w (.slice Bexprs yexprs.length dexprs) yexprs)) (Hstmts : Hid (StmtsR w (.slice Astmts xstmts.length cstmts) xstmts)) (Gstmts : Hid (StmtsR w (.slice Bstmts ystmts.length dstmts) ystmts)) (Hmain : Hid (IntsR w (.slice Amain xmain.length cmain) xmain)) (Gmain : Hid (IntsR w (.slice Bmain ymain.length dmain) ymain)) (L0 : Hid (xdecls.length = ydecls.length)) (L1 : Hid (xexprs.length = yexprs.length)) (L2 : Hid (xstmts.length = ystmts.length)) (NM : Hid (xmain = ymain)) :
    Calls Try.prog 11 #[.agg #[.slice Adecls xdecls.length cdecls, .slice Aexprs xexprs.length cexprs, .slice Astmts xstmts.length cstmts, .slice Amain xmain.length cmain], .agg #[.slice Bdecls ydecls.length ddecls, .slice Bexprs yexprs.length dexprs, .slice Bstmts ystmts.length dstmts, .slice Bmain ymain.length dmain]] w fun e w' => Says (EqP (⟨xdecls, xexprs, xstmts, xmain⟩ : ProgM) ⟨ydecls, yexprs, ystmts, ymain⟩) e ∧ Below w.heap.size w w' := by
  obtain ⟨_, ccdecls, hcc, hcdecls, hmdecls⟩ := Row.slice Hdecls.out
  clear hcc
  obtain ⟨_, ccexprs, hcc, hcexprs, hmexprs⟩ := Row.slice Hexprs.out
  clear hcc
  obtain ⟨_, ccstmts, hcc, hcstmts, hmstmts⟩ := Row.slice Hstmts.out
  clear hcc
  have HB0 := hid (((Below.refl w.heap.size w).alloc (Nat.le_refl _) (.cells #[.slice Adecls xdecls.length cdecls, .slice Aexprs xexprs.length cexprs, .slice Astmts xstmts.length cstmts, .slice Amain xmain.length cmain] 28)).alloc (by simp) (.cells #[.slice Bdecls ydecls.length ddecls, .slice Bexprs yexprs.length dexprs, .slice Bstmts ystmts.length dstmts, .slice Bmain ymain.length dmain] 28))
  have l0 : (xdecls.length : Int) = (ydecls.length : Int) := by have := L0.out; omega
  have l1 : (xexprs.length : Int) = (yexprs.length : Int) := by have := L1.out; omega
  have l2 : (xstmts.length : Int) = (ystmts.length : Int) := by have := L2.out; omega
  have es : (w.alloc (.cells #[.slice Adecls xdecls.length cdecls, .slice Aexprs xexprs.length cexprs, .slice Astmts xstmts.length cstmts, .slice Amain xmain.length cmain] 28)).heap.size = w.heap.size + 1 := by rw [World.size_alloc]
  have hx := old_blk (new_blk w (.cells #[.slice Adecls xdecls.length cdecls, .slice Aexprs xexprs.length cexprs, .slice Astmts xstmts.length cstmts, .slice Amain xmain.length cmain] 28)) (.cells #[.slice Bdecls ydecls.length ddecls, .slice Bexprs yexprs.length dexprs, .slice Bstmts ystmts.length dstmts, .slice Bmain ymain.length dmain] 28)
  have hy := new_blk (w.alloc (.cells #[.slice Adecls xdecls.length cdecls, .slice Aexprs xexprs.length cexprs, .slice Astmts xstmts.length cstmts, .slice Amain xmain.length cmain] 28)) (.cells #[.slice Bdecls ydecls.length ddecls, .slice Bexprs yexprs.length dexprs, .slice Bstmts ystmts.length dstmts, .slice Bmain ymain.length dmain] 28)
  rw [es] at hy
  have HX0 := hid (show ((w.alloc (.cells #[.slice Adecls xdecls.length cdecls, .slice Aexprs xexprs.length cexprs, .slice Astmts xstmts.length cstmts, .slice Amain xmain.length cmain] 28)).alloc (.cells #[.slice Bdecls ydecls.length ddecls, .slice Bexprs yexprs.length dexprs, .slice Bstmts ystmts.length dstmts, .slice Bmain ymain.length dmain] 28)).cell? ⟨w.heap.size, 0, none⟩ = some (.slice Adecls xdecls.length cdecls) by rw [blk_cell hx]; rfl)
  have HY0 := hid (show ((w.alloc (.cells #[.slice Adecls xdecls.length cdecls, .slice Aexprs xexprs.length cexprs, .slice Astmts xstmts.length cstmts, .slice Amain xmain.length cmain] 28)).alloc (.cells #[.slice Bdecls ydecls.length ddecls, .slice Bexprs yexprs.length dexprs, .slice Bstmts ystmts.length dstmts, .slice Bmain ymain.length dmain] 28)).cell? ⟨w.heap.size + 1, 0, none⟩ = some (.slice Bdecls ydecls.length ddecls) by rw [blk_cell hy]; rfl)
  have HX1 := hid (show ((w.alloc (.cells #[.slice Adecls xdecls.length cdecls, .slice Aexprs xexprs.length cexprs, .slice Astmts xstmts.length cstmts, .slice Amain xmain.length cmain] 28)).alloc (.cells #[.slice Bdecls ydecls.length ddecls, .slice Bexprs yexprs.length dexprs, .slice Bstmts ystmts.length dstmts, .slice Bmain ymain.length dmain] 28)).cell? ⟨w.heap.size, 1, none⟩ = some (.slice Aexprs xexprs.length cexprs) by rw [blk_cell hx]; rfl)
  have HY1 := hid (show ((w.alloc (.cells #[.slice Adecls xdecls.length cdecls, .slice Aexprs xexprs.length cexprs, .slice Astmts xstmts.length cstmts, .slice Amain xmain.length cmain] 28)).alloc (.cells #[.slice Bdecls ydecls.length ddecls, .slice Bexprs yexprs.length dexprs, .slice Bstmts ystmts.length dstmts, .slice Bmain ymain.length dmain] 28)).cell? ⟨w.heap.size + 1, 1, none⟩ = some (.slice Bexprs yexprs.length dexprs) by rw [blk_cell hy]; rfl)
  have HX2 := hid (show ((w.alloc (.cells #[.slice Adecls xdecls.length cdecls, .slice Aexprs xexprs.length cexprs, .slice Astmts xstmts.length cstmts, .slice Amain xmain.length cmain] 28)).alloc (.cells #[.slice Bdecls ydecls.length ddecls, .slice Bexprs yexprs.length dexprs, .slice Bstmts ystmts.length dstmts, .slice Bmain ymain.length dmain] 28)).cell? ⟨w.heap.size, 2, none⟩ = some (.slice Astmts xstmts.length cstmts) by rw [blk_cell hx]; rfl)
  have HY2 := hid (show ((w.alloc (.cells #[.slice Adecls xdecls.length cdecls, .slice Aexprs xexprs.length cexprs, .slice Astmts xstmts.length cstmts, .slice Amain xmain.length cmain] 28)).alloc (.cells #[.slice Bdecls ydecls.length ddecls, .slice Bexprs yexprs.length dexprs, .slice Bstmts ystmts.length dstmts, .slice Bmain ymain.length dmain] 28)).cell? ⟨w.heap.size + 1, 2, none⟩ = some (.slice Bstmts ystmts.length dstmts) by rw [blk_cell hy]; rfl)
  clear hx hy es
  have HNE := hid (show ∀ h : (⟨xdecls, xexprs, xstmts, xmain⟩ : ProgM) = ⟨ydecls, yexprs, ystmts, ymain⟩, (⟨xdecls, xexprs, xstmts, xmain⟩ : ProgM) = ⟨ydecls, yexprs, ystmts, ymain⟩ from fun h => h)
  go_enter Try.func11, Try.ntmps11
  go_wp2_with (go_at_call 21; refine (sameInts_any _ _ _ _ _ (by exact Hmain.out.below HB0.out) (by exact Gmain.out.below HB0.out)).mono ?_; rintro e w2 ⟨⟨r, rfl, hr⟩, hb⟩; obtain rfl : r = true := hr.2 NM.out; have HB := hid (HB0.out.trans (hb.mono HB0.out.size)); have K0 := hid (cell_keep hb HX0.out); have M0 := hid (cell_keep hb HY0.out); have K1 := hid (cell_keep hb HX1.out); have M1 := hid (cell_keep hb HY1.out); have K2 := hid (cell_keep hb HX2.out); have M2 := hid (cell_keep hb HY2.out); clear hr hb)
  clear l0 l1 l2 HX0 HX1 HX2 HY0 HY1 HY2 HB0 HNE
  have HBW := hid HB.out
  clear HB
  go_loopw [5] (fun s wr => ∃ i : Nat, i ≤ xdecls.length ∧ s = .int .i64 (i : Int) ∧ Hid (Below w2.heap.size w2 wr) ∧ Hid (∀ j, j < i → nth xdecls j = nth ydecls j)) (fun s _ => xdecls.length - (Go.RowKit.intOf s).toNat)
  case atStart => exact ⟨0, by omega, rfl, hid (Below.refl _ _), hid (fun j hj => by omega)⟩
  case round =>
    obtain ⟨i, hi, rfl, HB1, HN⟩ := hrel
    have HB := hid (HBW.out.trans (HB1.out.mono HBW.out.size))
    have kk := cell_keep HB1.out K0.out
    have mm := cell_keep HB1.out M0.out
    by_cases hlt : i < xdecls.length
    · have hli : (i : Int) < (xdecls.length : Int) := by omega
      have hlj : (i : Int) < (ydecls.length : Int) := by have := L0.out; omega
      obtain ⟨B, off, cs, rfl, hB, hr, _, hall⟩ := Row.elem Hdecls.out (by omega) hlt
      obtain ⟨B2, off2, cs2, rfl, hB2, hr2, _, hall2⟩ := Row.elem Gdecls.out (by omega) (show i < ydecls.length by have := L0.out; omega)
      have HNX := hid (show nth xdecls i = nth ydecls i → ∀ j, j < i + 1 → nth xdecls j = nth ydecls j from fun he j hj => (Nat.lt_or_ge j i).elim (fun h => HN.out j h) (fun h => by obtain rfl : j = i := (by omega); exact he))
      have HNE := hid (show nth xdecls i ≠ nth ydecls i → ¬ EqP (⟨xdecls, xexprs, xstmts, xmain⟩ : ProgM) ⟨ydecls, yexprs, ystmts, ymain⟩ from fun he e => he (by cases e; rfl))
      obtain ⟨d, hd⟩ : ∃ d, nth xdecls i = d := ⟨_, rfl⟩
      obtain ⟨d2, hd2⟩ : ∃ d, nth ydecls i = d := ⟨_, rfl⟩
      rw [hd, hd2] at HNX HNE
      rw [hd] at hr
      rw [hd2] at hr2
      have hr' : cs = _ := hr
      have hr2' : cs2 = _ := hr2
      subst hr' hr2'
      have x0 := (HB.out.cell (p := ⟨B, off + i * 3, none⟩) hB).trans (by simpa using hall 0 _ rfl)
      have y0 := (HB.out.cell (p := ⟨B2, off2 + i * 3, none⟩) hB2).trans (by simpa using hall2 0 _ rfl)
      have x1 := (HB.out.cell (p := ⟨B, off + i * 3 + 1, none⟩) hB).trans (by simpa using hall 1 _ rfl)
      have y1 := (HB.out.cell (p := ⟨B2, off2 + i * 3 + 1, none⟩) hB2).trans (by simpa using hall2 1 _ rfl)
      have x2 := (HB.out.cell (p := ⟨B, off + i * 3 + 2, none⟩) hB).trans (by simpa using hall 2 _ rfl)
      have y2 := (HB.out.cell (p := ⟨B2, off2 + i * 3 + 2, none⟩) hB2).trans (by simpa using hall2 2 _ rfl)
      clear hall hall2 hd hd2 HN
      have HB8 := hid (drewB HB1.out)
      have HB9 := hid (drewB HB.out)
      obtain ⟨dn, ds, dk⟩ := d
      obtain ⟨en, es, ek⟩ := d2
      by_cases n0 : dn = en
      · subst n0
        by_cases n1 : ds = es
        · subst n1
          by_cases n2 : dk = ek
          · subst n2
            have HQ := hid (HNX.out rfl)
            clear HNE HNX
            go_wp2
            go_region
            go_wp2
            go_roundw
            case rel => exact ⟨i + 1, by omega, by simp, HB8, HQ⟩
            case measure => simp [Go.RowKit.intOf]; omega
          · skip
            have HQ := hid (HNE.out (by intro h; cases h; exact n2 rfl))
            clear HNE HNX
            go_wp2
            go_region
            go_wp2
            go_ret
            exact ⟨says_false HQ.out, HB9.out⟩
        · skip
          have HQ := hid (HNE.out (by intro h; cases h; exact n1 rfl))
          clear HNE HNX
          go_wp2
          go_region
          go_wp2
          go_ret
          exact ⟨says_false HQ.out, HB9.out⟩
      · skip
        have HQ := hid (HNE.out (by intro h; cases h; exact n0 rfl))
        have nl : ¬ dn.toList = en.toList := fun e => n0 (strl.1 e)
        clear HNE HNX n0
        go_wp2
        go_region
        go_wp2
        go_ret
        exact ⟨says_false HQ.out, HB9.out⟩
    · have hie : i = xdecls.length := by omega
      subst hie
      have hli : ¬ ((xdecls.length : Int) < (xdecls.length : Int)) := by omega
      have NA0 := hid (ext_nth L0.out HN.out)
      clear HN
      go_wp2
      clear kk mm hi hli
      go_loopw [6] (fun s wr => ∃ i : Nat, i ≤ xexprs.length ∧ s = .int .i64 (i : Int) ∧ Hid (Below w2.heap.size w2 wr) ∧ Hid (∀ j, j < i → nth xexprs j = nth yexprs j)) (fun s _ => xexprs.length - (Go.RowKit.intOf s).toNat)
      case atStart => exact ⟨0, by omega, rfl, HB1, hid (fun j hj => by omega)⟩
      case round =>
        obtain ⟨i, hi, rfl, HB2, HN⟩ := hrel
        have HB := hid (HBW.out.trans (HB2.out.mono HBW.out.size))
        have kk := cell_keep HB2.out K1.out
        have mm := cell_keep HB2.out M1.out
        by_cases hlt : i < xexprs.length
        · have hli : (i : Int) < (xexprs.length : Int) := by omega
          have hlj : (i : Int) < (yexprs.length : Int) := by have := L1.out; omega
          obtain ⟨B, off, cs, rfl, hB, hr, _, hall⟩ := Row.elem Hexprs.out (by omega) hlt
          obtain ⟨B2, off2, cs2, rfl, hB2, hr2, _, hall2⟩ := Row.elem Gexprs.out (by omega) (show i < yexprs.length by have := L1.out; omega)
          have HNX := hid (show nth xexprs i = nth yexprs i → ∀ j, j < i + 1 → nth xexprs j = nth yexprs j from fun he j hj => (Nat.lt_or_ge j i).elim (fun h => HN.out j h) (fun h => by obtain rfl : j = i := (by omega); exact he))
          have HNE := hid (show nth xexprs i ≠ nth yexprs i → ¬ EqP (⟨xdecls, xexprs, xstmts, xmain⟩ : ProgM) ⟨ydecls, yexprs, ystmts, ymain⟩ from fun he e => he (by cases e; rfl))
          obtain ⟨d, hd⟩ : ∃ d, nth xexprs i = d := ⟨_, rfl⟩
          obtain ⟨d2, hd2⟩ : ∃ d, nth yexprs i = d := ⟨_, rfl⟩
          rw [hd, hd2] at HNX HNE
          rw [hd] at hr
          rw [hd2] at hr2
          obtain ⟨p0, rfl, hp0⟩ := hr
          obtain ⟨q0, rfl, hq0⟩ := hr2
          obtain ⟨P0, pc0, rfl, _, _⟩ := Row.slice hp0
          obtain ⟨Q0, qc0, rfl, _, _⟩ := Row.slice hq0
          have HP0 := hid (hp0.below HB.out)
          have HQ0 := hid (hq0.below HB.out)
          clear hp0 hq0
          have x0 := (HB.out.cell (p := ⟨B, off + i * 6, none⟩) hB).trans (by simpa using hall 0 _ rfl)
          have y0 := (HB.out.cell (p := ⟨B2, off2 + i * 6, none⟩) hB2).trans (by simpa using hall2 0 _ rfl)
          have x1 := (HB.out.cell (p := ⟨B, off + i * 6 + 1, none⟩) hB).trans (by simpa using hall 1 _ rfl)
          have y1 := (HB.out.cell (p := ⟨B2, off2 + i * 6 + 1, none⟩) hB2).trans (by simpa using hall2 1 _ rfl)
          have x2 := (HB.out.cell (p := ⟨B, off + i * 6 + 2, none⟩) hB).trans (by simpa using hall 2 _ rfl)
          have y2 := (HB.out.cell (p := ⟨B2, off2 + i * 6 + 2, none⟩) hB2).trans (by simpa using hall2 2 _ rfl)
          have x3 := (HB.out.cell (p := ⟨B, off + i * 6 + 3, none⟩) hB).trans (by simpa using hall 3 _ rfl)
          have y3 := (HB.out.cell (p := ⟨B2, off2 + i * 6 + 3, none⟩) hB2).trans (by simpa using hall2 3 _ rfl)
          have x4 := (HB.out.cell (p := ⟨B, off + i * 6 + 4, none⟩) hB).trans (by simpa using hall 4 _ rfl)
          have y4 := (HB.out.cell (p := ⟨B2, off2 + i * 6 + 4, none⟩) hB2).trans (by simpa using hall2 4 _ rfl)
          have x5 := (HB.out.cell (p := ⟨B, off + i * 6 + 5, none⟩) hB).trans (by simpa using hall 5 _ rfl)
          have y5 := (HB.out.cell (p := ⟨B2, off2 + i * 6 + 5, none⟩) hB2).trans (by simpa using hall2 5 _ rfl)
          clear hall hall2 hd hd2 HN
          obtain ⟨dk, df, dp, dn, du, dl⟩ := d
          obtain ⟨ek, ef, ep, en, eu, el⟩ := d2
          simp only at x0 x1 x2 x3 x4 x5 y0 y1 y2 y3 y4 y5
          go_wp2
          have HBr := hid (Below.refl wr.heap.size wr)
          go_cut [7, 8] from 61 to 118 (fun s7 s8 wx => ∃ tb tc, s7 = .pointer (some ⟨tb, 0, none⟩) ∧ s8 = .pointer (some ⟨tc, 0, none⟩) ∧ Hid (Below wr.heap.size wr wx) ∧ Hid (wx.cell? ⟨tb, 0, none⟩ = some (.int .u8 dk)) ∧ Hid (wx.cell? ⟨tc, 0, none⟩ = some (.int .u8 ek)) ∧ Hid (wx.cell? ⟨tb, 1, none⟩ = some (.int .u8 df)) ∧ Hid (wx.cell? ⟨tc, 1, none⟩ = some (.int .u8 ef)) ∧ Hid (wx.cell? ⟨tb, 2, none⟩ = some (.int .u8 dp)) ∧ Hid (wx.cell? ⟨tc, 2, none⟩ = some (.int .u8 ep)) ∧ Hid (wx.cell? ⟨tb, 3, none⟩ = some (.string dn)) ∧ Hid (wx.cell? ⟨tc, 3, none⟩ = some (.string en)) ∧ Hid (wx.cell? ⟨tb, 4, none⟩ = some (.int .i64 du)) ∧ Hid (wx.cell? ⟨tc, 4, none⟩ = some (.int .i64 eu)) ∧ Hid (wx.cell? ⟨tb, 5, none⟩ = some (.slice P0 dl.length pc0)) ∧ Hid (wx.cell? ⟨tc, 5, none⟩ = some (.slice Q0 el.length qc0)))
          case first =>
            rename_i J KK hJ hK
            have HSK := hid (show ∀ w', Below wr.heap.size wr w' → (fun w' => Below wr.heap.size wr w' ∧ w'.cell? ⟨B, off + i * 6, none⟩ = some (.int .u8 dk) ∧ w'.cell? ⟨B, off + i * 6 + 1, none⟩ = some (.int .u8 df) ∧ w'.cell? ⟨B, off + i * 6 + 2, none⟩ = some (.int .u8 dp) ∧ w'.cell? ⟨B, off + i * 6 + 3, none⟩ = some (.string dn) ∧ w'.cell? ⟨B, off + i * 6 + 4, none⟩ = some (.int .i64 du) ∧ w'.cell? ⟨B, off + i * 6 + 5, none⟩ = some (.slice P0 dl.length pc0) ∧ w'.cell? ⟨B2, off2 + i * 6, none⟩ = some (.int .u8 ek) ∧ w'.cell? ⟨B2, off2 + i * 6 + 1, none⟩ = some (.int .u8 ef) ∧ w'.cell? ⟨B2, off2 + i * 6 + 2, none⟩ = some (.int .u8 ep) ∧ w'.cell? ⟨B2, off2 + i * 6 + 3, none⟩ = some (.string en) ∧ w'.cell? ⟨B2, off2 + i * 6 + 4, none⟩ = some (.int .i64 eu) ∧ w'.cell? ⟨B2, off2 + i * 6 + 5, none⟩ = some (.slice Q0 el.length qc0) ∧ w'.cell? ⟨w.heap.size, 1, none⟩ = some (.slice (some ⟨B, off, none⟩) xexprs.length cexprs) ∧ w'.cell? ⟨w.heap.size + 1, 1, none⟩ = some (.slice (some ⟨B2, off2, none⟩) yexprs.length dexprs)) w' from fun w' hb => ⟨hb, cell_keep hb x0, cell_keep hb x1, cell_keep hb x2, cell_keep hb x3, cell_keep hb x4, cell_keep hb x5, cell_keep hb y0, cell_keep hb y1, cell_keep hb y2, cell_keep hb y3, cell_keep hb y4, cell_keep hb y5, cell_keep hb kk, cell_keep hb mm⟩)
            clear x0 y0 x1 y1 x2 y2 x3 y3 x4 y4 x5 y5 kk mm hi
            go_region_held3 (fun w' => Below wr.heap.size wr w' ∧ w'.cell? ⟨B, off + i * 6, none⟩ = some (.int .u8 dk) ∧ w'.cell? ⟨B, off + i * 6 + 1, none⟩ = some (.int .u8 df) ∧ w'.cell? ⟨B, off + i * 6 + 2, none⟩ = some (.int .u8 dp) ∧ w'.cell? ⟨B, off + i * 6 + 3, none⟩ = some (.string dn) ∧ w'.cell? ⟨B, off + i * 6 + 4, none⟩ = some (.int .i64 du) ∧ w'.cell? ⟨B, off + i * 6 + 5, none⟩ = some (.slice P0 dl.length pc0) ∧ w'.cell? ⟨B2, off2 + i * 6, none⟩ = some (.int .u8 ek) ∧ w'.cell? ⟨B2, off2 + i * 6 + 1, none⟩ = some (.int .u8 ef) ∧ w'.cell? ⟨B2, off2 + i * 6 + 2, none⟩ = some (.int .u8 ep) ∧ w'.cell? ⟨B2, off2 + i * 6 + 3, none⟩ = some (.string en) ∧ w'.cell? ⟨B2, off2 + i * 6 + 4, none⟩ = some (.int .i64 eu) ∧ w'.cell? ⟨B2, off2 + i * 6 + 5, none⟩ = some (.slice Q0 el.length qc0) ∧ w'.cell? ⟨w.heap.size, 1, none⟩ = some (.slice (some ⟨B, off, none⟩) xexprs.length cexprs) ∧ w'.cell? ⟨w.heap.size + 1, 1, none⟩ = some (.slice (some ⟨B2, off2, none⟩) yexprs.length dexprs)) (first | assumption | exact HSK.out _ (drewB (Below.refl _ _)) | exact HSK.out _ (drewB ((Below.refl _ _).alloc (Nat.le_refl _) _)) | exact HSK.out _ (drewB (((Below.refl _ _).alloc (Nat.le_refl _) _).alloc (by simp) _))) (fail)
            all_goals refine hK _ _ (Met.intro (hJ _ _ ?_))
            all_goals (repeat apply Exists.intro)
            all_goals refine ⟨?_, rfl⟩
            all_goals (have hx := old_blk (new_blk wr (.cells #[.int .u8 dk, .int .u8 df, .int .u8 dp, .string dn, .int .i64 du, .slice P0 dl.length pc0] 55)) (.cells #[.int .u8 ek, .int .u8 ef, .int .u8 ep, .string en, .int .i64 eu, .slice Q0 el.length qc0] 55); have hy := new_blk (wr.alloc (.cells #[.int .u8 dk, .int .u8 df, .int .u8 dp, .string dn, .int .i64 du, .slice P0 dl.length pc0] 55)) (.cells #[.int .u8 ek, .int .u8 ef, .int .u8 ep, .string en, .int .i64 eu, .slice Q0 el.length qc0] 55); have hx2 := old_blk (new_blk wr (.cells #[.int .u8 ek, .int .u8 ef, .int .u8 ep, .string en, .int .i64 eu, .slice Q0 el.length qc0] 55)) (.cells #[.int .u8 dk, .int .u8 df, .int .u8 dp, .string dn, .int .i64 du, .slice P0 dl.length pc0] 55); have hy2 := new_blk (wr.alloc (.cells #[.int .u8 ek, .int .u8 ef, .int .u8 ep, .string en, .int .i64 eu, .slice Q0 el.length qc0] 55)) (.cells #[.int .u8 dk, .int .u8 df, .int .u8 dp, .string dn, .int .i64 du, .slice P0 dl.length pc0] 55); rw [World.size_alloc] at hy hy2)
            all_goals first | exact ⟨_, _, rfl, rfl, hid (drewB (((Below.refl wr.heap.size wr).alloc (Nat.le_refl _) _).alloc (by simp) _)), hid (by rw [drewc, blk_cell hx]; rfl), hid (by rw [drewc, blk_cell hy]; rfl), hid (by rw [drewc, blk_cell hx]; rfl), hid (by rw [drewc, blk_cell hy]; rfl), hid (by rw [drewc, blk_cell hx]; rfl), hid (by rw [drewc, blk_cell hy]; rfl), hid (by rw [drewc, blk_cell hx]; rfl), hid (by rw [drewc, blk_cell hy]; rfl), hid (by rw [drewc, blk_cell hx]; rfl), hid (by rw [drewc, blk_cell hy]; rfl), hid (by rw [drewc, blk_cell hx]; rfl), hid (by rw [drewc, blk_cell hy]; rfl)⟩ | exact ⟨_, _, rfl, rfl, hid (drewB (((Below.refl wr.heap.size wr).alloc (Nat.le_refl _) _).alloc (by simp) _)), hid (by rw [drewc, blk_cell hy2]; rfl), hid (by rw [drewc, blk_cell hx2]; rfl), hid (by rw [drewc, blk_cell hy2]; rfl), hid (by rw [drewc, blk_cell hx2]; rfl), hid (by rw [drewc, blk_cell hy2]; rfl), hid (by rw [drewc, blk_cell hx2]; rfl), hid (by rw [drewc, blk_cell hy2]; rfl), hid (by rw [drewc, blk_cell hx2]; rfl), hid (by rw [drewc, blk_cell hy2]; rfl), hid (by rw [drewc, blk_cell hx2]; rfl), hid (by rw [drewc, blk_cell hy2]; rfl), hid (by rw [drewc, blk_cell hx2]; rfl)⟩
          case rest =>
            obtain ⟨tb, tc, rfl, rfl, HBC, a0, b0, a1, b1, a2, b2, a3, b3, a4, b4, a5, b5⟩ := hcut
            clear x0 y0 x1 y1 x2 y2 x3 y3 x4 y4 x5 y5 kk mm
            replace a0 := a0.out
            replace b0 := b0.out
            replace a1 := a1.out
            replace b1 := b1.out
            replace a2 := a2.out
            replace b2 := b2.out
            replace a3 := a3.out
            replace b3 := b3.out
            replace a4 := a4.out
            replace b4 := b4.out
            replace a5 := a5.out
            replace b5 := b5.out
            have HB3 := hid (HB2.out.trans (HBC.out.mono HB2.out.size))
            have HBx := hid (HB.out.trans (HBC.out.mono HB.out.size))
            have HPc := hid (HP0.out.below HBC.out)
            have HQc := hid (HQ0.out.below HBC.out)
            by_cases n0 : dk = ek
            · subst n0
              by_cases n1 : df = ef
              · subst n1
                by_cases n2 : dp = ep
                · subst n2
                  by_cases n3 : dn = en
                  · subst n3
                    by_cases n4 : du = eu
                    · subst n4
                      by_cases nk : dl = el
                      · have NK := hid nk
                        have HQ := hid (HNX.out (by rw [nk]))
                        clear HNE HNX nk
                        go_wp2_with (go_at_call 21; refine (sameInts_any _ _ _ _ _ HPc.out HQc.out).mono ?_; rintro e w3 ⟨⟨r, rfl, hr⟩, hb⟩; obtain rfl : r = true := hr.2 NK.out; have HB8 := hid (HB3.out.trans (hb.mono HB3.out.size)); have HB9 := hid (HBx.out.trans (hb.mono HBx.out.size)); clear hr hb)
                        go_roundw
                        case rel => exact ⟨i + 1, by omega, by simp, HB8, HQ⟩
                        case measure => simp [Go.RowKit.intOf]; omega
                      · have NK := hid nk
                        have HQ := hid (HNE.out (by intro h; cases h; exact nk rfl))
                        clear HNE HNX nk
                        go_wp2_with (go_at_call 21; refine (sameInts_any _ _ _ _ _ HPc.out HQc.out).mono ?_; rintro e w3 ⟨⟨r, rfl, hr⟩, hb⟩; obtain rfl : r = false := (by cases r with | false => rfl | true => exact (NK.out (hr.1 rfl)).elim); have HB8 := hid (HB3.out.trans (hb.mono HB3.out.size)); have HB9 := hid (HBx.out.trans (hb.mono HBx.out.size)); clear hr hb)
                        go_ret
                        exact ⟨says_false HQ.out, HB9.out⟩
                    · skip
                      have HQ := hid (HNE.out (by intro h; cases h; exact n4 rfl))
                      clear HNE HNX
                      go_wp2
                      go_ret
                      exact ⟨says_false HQ.out, HBx.out⟩
                  · skip
                    have HQ := hid (HNE.out (by intro h; cases h; exact n3 rfl))
                    have nl : ¬ dn.toList = en.toList := fun e => n3 (strl.1 e)
                    clear HNE HNX n3
                    go_wp2
                    go_ret
                    exact ⟨says_false HQ.out, HBx.out⟩
                · skip
                  have HQ := hid (HNE.out (by intro h; cases h; exact n2 rfl))
                  clear HNE HNX
                  go_wp2
                  go_ret
                  exact ⟨says_false HQ.out, HBx.out⟩
              · skip
                have HQ := hid (HNE.out (by intro h; cases h; exact n1 rfl))
                clear HNE HNX
                go_wp2
                go_ret
                exact ⟨says_false HQ.out, HBx.out⟩
            · skip
              have HQ := hid (HNE.out (by intro h; cases h; exact n0 rfl))
              clear HNE HNX
              go_wp2
              go_ret
              exact ⟨says_false HQ.out, HBx.out⟩
        · have hie : i = xexprs.length := by omega
          subst hie
          have hli : ¬ ((xexprs.length : Int) < (xexprs.length : Int)) := by omega
          have NA1 := hid (ext_nth L1.out HN.out)
          clear HN
          go_wp2
          clear kk mm hi hli
          go_loopw [9] (fun s wr => ∃ i : Nat, i ≤ xstmts.length ∧ s = .int .i64 (i : Int) ∧ Hid (Below w2.heap.size w2 wr) ∧ Hid (∀ j, j < i → nth xstmts j = nth ystmts j)) (fun s _ => xstmts.length - (Go.RowKit.intOf s).toNat)
          case atStart => exact ⟨0, by omega, rfl, HB2, hid (fun j hj => by omega)⟩
          case round =>
            obtain ⟨i, hi, rfl, HB3, HN⟩ := hrel
            have HB := hid (HBW.out.trans (HB3.out.mono HBW.out.size))
            have kk := cell_keep HB3.out K2.out
            have mm := cell_keep HB3.out M2.out
            by_cases hlt : i < xstmts.length
            · have hli : (i : Int) < (xstmts.length : Int) := by omega
              have hlj : (i : Int) < (ystmts.length : Int) := by have := L2.out; omega
              obtain ⟨B, off, cs, rfl, hB, hr, _, hall⟩ := Row.elem Hstmts.out (by omega) hlt
              obtain ⟨B2, off2, cs2, rfl, hB2, hr2, _, hall2⟩ := Row.elem Gstmts.out (by omega) (show i < ystmts.length by have := L2.out; omega)
              have HNX := hid (show nth xstmts i = nth ystmts i → ∀ j, j < i + 1 → nth xstmts j = nth ystmts j from fun he j hj => (Nat.lt_or_ge j i).elim (fun h => HN.out j h) (fun h => by obtain rfl : j = i := (by omega); exact he))
              have HNE := hid (show nth xstmts i ≠ nth ystmts i → ¬ EqP (⟨xdecls, xexprs, xstmts, xmain⟩ : ProgM) ⟨ydecls, yexprs, ystmts, ymain⟩ from fun he e => he (by cases e; rfl))
              obtain ⟨d, hd⟩ : ∃ d, nth xstmts i = d := ⟨_, rfl⟩
              obtain ⟨d2, hd2⟩ : ∃ d, nth ystmts i = d := ⟨_, rfl⟩
              rw [hd, hd2] at HNX HNE
              rw [hd] at hr
              rw [hd2] at hr2
              obtain ⟨p0, p1, p2, rfl, hp0, hp1, hp2⟩ := hr
              obtain ⟨q0, q1, q2, rfl, hq0, hq1, hq2⟩ := hr2
              obtain ⟨P0, pc0, rfl, _, _⟩ := Row.slice hp0
              obtain ⟨Q0, qc0, rfl, _, _⟩ := Row.slice hq0
              obtain ⟨P1, pc1, rfl, _, _⟩ := Row.slice hp1
              obtain ⟨Q1, qc1, rfl, _, _⟩ := Row.slice hq1
              obtain ⟨P2, pc2, rfl, _, _⟩ := Row.slice hp2
              obtain ⟨Q2, qc2, rfl, _, _⟩ := Row.slice hq2
              have HP0 := hid (hp0.below HB.out)
              have HQ0 := hid (hq0.below HB.out)
              have HP1 := hid (hp1.below HB.out)
              have HQ1 := hid (hq1.below HB.out)
              have HP2 := hid (hp2.below HB.out)
              have HQ2 := hid (hq2.below HB.out)
              clear hp0 hp1 hp2 hq0 hq1 hq2
              have x0 := (HB.out.cell (p := ⟨B, off + i * 8, none⟩) hB).trans (by simpa using hall 0 _ rfl)
              have y0 := (HB.out.cell (p := ⟨B2, off2 + i * 8, none⟩) hB2).trans (by simpa using hall2 0 _ rfl)
              have x1 := (HB.out.cell (p := ⟨B, off + i * 8 + 1, none⟩) hB).trans (by simpa using hall 1 _ rfl)
              have y1 := (HB.out.cell (p := ⟨B2, off2 + i * 8 + 1, none⟩) hB2).trans (by simpa using hall2 1 _ rfl)
              have x2 := (HB.out.cell (p := ⟨B, off + i * 8 + 2, none⟩) hB).trans (by simpa using hall 2 _ rfl)
              have y2 := (HB.out.cell (p := ⟨B2, off2 + i * 8 + 2, none⟩) hB2).trans (by simpa using hall2 2 _ rfl)
              have x3 := (HB.out.cell (p := ⟨B, off + i * 8 + 3, none⟩) hB).trans (by simpa using hall 3 _ rfl)
              have y3 := (HB.out.cell (p := ⟨B2, off2 + i * 8 + 3, none⟩) hB2).trans (by simpa using hall2 3 _ rfl)
              have x4 := (HB.out.cell (p := ⟨B, off + i * 8 + 4, none⟩) hB).trans (by simpa using hall 4 _ rfl)
              have y4 := (HB.out.cell (p := ⟨B2, off2 + i * 8 + 4, none⟩) hB2).trans (by simpa using hall2 4 _ rfl)
              have x5 := (HB.out.cell (p := ⟨B, off + i * 8 + 5, none⟩) hB).trans (by simpa using hall 5 _ rfl)
              have y5 := (HB.out.cell (p := ⟨B2, off2 + i * 8 + 5, none⟩) hB2).trans (by simpa using hall2 5 _ rfl)
              have x6 := (HB.out.cell (p := ⟨B, off + i * 8 + 6, none⟩) hB).trans (by simpa using hall 6 _ rfl)
              have y6 := (HB.out.cell (p := ⟨B2, off2 + i * 8 + 6, none⟩) hB2).trans (by simpa using hall2 6 _ rfl)
              have x7 := (HB.out.cell (p := ⟨B, off + i * 8 + 7, none⟩) hB).trans (by simpa using hall 7 _ rfl)
              have y7 := (HB.out.cell (p := ⟨B2, off2 + i * 8 + 7, none⟩) hB2).trans (by simpa using hall2 7 _ rfl)
              clear hall hall2 hd hd2 HN
              go_wp2
              have HSK := hid (show ∀ w', Below wr.heap.size wr w' → (fun w' => Below wr.heap.size wr w' ∧ w'.cell? ⟨B, off + i * 8, none⟩ = some (.int .u8 d.kind) ∧ w'.cell? ⟨B, off + i * 8 + 1, none⟩ = some (.string d.name) ∧ w'.cell? ⟨B, off + i * 8 + 2, none⟩ = some (.int .u8 d.op) ∧ w'.cell? ⟨B, off + i * 8 + 3, none⟩ = some (.int .i64 d.e) ∧ w'.cell? ⟨B, off + i * 8 + 4, none⟩ = some (.int .i64 d.cond) ∧ w'.cell? ⟨B, off + i * 8 + 5, none⟩ = some (.slice P0 d.acts.length pc0) ∧ w'.cell? ⟨B, off + i * 8 + 6, none⟩ = some (.slice P1 d.thn.length pc1) ∧ w'.cell? ⟨B, off + i * 8 + 7, none⟩ = some (.slice P2 d.els.length pc2) ∧ w'.cell? ⟨B2, off2 + i * 8, none⟩ = some (.int .u8 d2.kind) ∧ w'.cell? ⟨B2, off2 + i * 8 + 1, none⟩ = some (.string d2.name) ∧ w'.cell? ⟨B2, off2 + i * 8 + 2, none⟩ = some (.int .u8 d2.op) ∧ w'.cell? ⟨B2, off2 + i * 8 + 3, none⟩ = some (.int .i64 d2.e) ∧ w'.cell? ⟨B2, off2 + i * 8 + 4, none⟩ = some (.int .i64 d2.cond) ∧ w'.cell? ⟨B2, off2 + i * 8 + 5, none⟩ = some (.slice Q0 d2.acts.length qc0) ∧ w'.cell? ⟨B2, off2 + i * 8 + 6, none⟩ = some (.slice Q1 d2.thn.length qc1) ∧ w'.cell? ⟨B2, off2 + i * 8 + 7, none⟩ = some (.slice Q2 d2.els.length qc2) ∧ w'.cell? ⟨w.heap.size, 2, none⟩ = some (.slice (some ⟨B, off, none⟩) xstmts.length cstmts) ∧ w'.cell? ⟨w.heap.size + 1, 2, none⟩ = some (.slice (some ⟨B2, off2, none⟩) ystmts.length dstmts)) w' from fun w' hb => ⟨hb, cell_keep hb x0, cell_keep hb x1, cell_keep hb x2, cell_keep hb x3, cell_keep hb x4, cell_keep hb x5, cell_keep hb x6, cell_keep hb x7, cell_keep hb y0, cell_keep hb y1, cell_keep hb y2, cell_keep hb y3, cell_keep hb y4, cell_keep hb y5, cell_keep hb y6, cell_keep hb y7, cell_keep hb kk, cell_keep hb mm⟩)
              clear x0 y0 x1 y1 x2 y2 x3 y3 x4 y4 x5 y5 x6 y6 x7 y7 kk mm
              have HBWd := hid (drewB HB.out)
              replace HB3 := hid (drewB HB3.out)
              by_cases he : EqP d d2
              · have HE := hid he
                clear he
                have HQX := hid (HNX.out HE.out)
                clear HNE HNX
                go_region_held3 (fun w' => Below wr.heap.size wr w' ∧ w'.cell? ⟨B, off + i * 8, none⟩ = some (.int .u8 d.kind) ∧ w'.cell? ⟨B, off + i * 8 + 1, none⟩ = some (.string d.name) ∧ w'.cell? ⟨B, off + i * 8 + 2, none⟩ = some (.int .u8 d.op) ∧ w'.cell? ⟨B, off + i * 8 + 3, none⟩ = some (.int .i64 d.e) ∧ w'.cell? ⟨B, off + i * 8 + 4, none⟩ = some (.int .i64 d.cond) ∧ w'.cell? ⟨B, off + i * 8 + 5, none⟩ = some (.slice P0 d.acts.length pc0) ∧ w'.cell? ⟨B, off + i * 8 + 6, none⟩ = some (.slice P1 d.thn.length pc1) ∧ w'.cell? ⟨B, off + i * 8 + 7, none⟩ = some (.slice P2 d.els.length pc2) ∧ w'.cell? ⟨B2, off2 + i * 8, none⟩ = some (.int .u8 d2.kind) ∧ w'.cell? ⟨B2, off2 + i * 8 + 1, none⟩ = some (.string d2.name) ∧ w'.cell? ⟨B2, off2 + i * 8 + 2, none⟩ = some (.int .u8 d2.op) ∧ w'.cell? ⟨B2, off2 + i * 8 + 3, none⟩ = some (.int .i64 d2.e) ∧ w'.cell? ⟨B2, off2 + i * 8 + 4, none⟩ = some (.int .i64 d2.cond) ∧ w'.cell? ⟨B2, off2 + i * 8 + 5, none⟩ = some (.slice Q0 d2.acts.length qc0) ∧ w'.cell? ⟨B2, off2 + i * 8 + 6, none⟩ = some (.slice Q1 d2.thn.length qc1) ∧ w'.cell? ⟨B2, off2 + i * 8 + 7, none⟩ = some (.slice Q2 d2.els.length qc2) ∧ w'.cell? ⟨w.heap.size, 2, none⟩ = some (.slice (some ⟨B, off, none⟩) xstmts.length cstmts) ∧ w'.cell? ⟨w.heap.size + 1, 2, none⟩ = some (.slice (some ⟨B2, off2, none⟩) ystmts.length dstmts)) (first | assumption | exact HSK.out _ (drewB (Below.refl _ _)) | exact HSK.out _ ((drewB (Below.refl _ _)).trans (hb.mono (Nat.le_refl _))) | exact HSK.out _ (drewB ((drewB (Below.refl _ _)).trans (hb.mono (Nat.le_refl _))))) (first | (go_at_call 22; refine (refStmt_any d d2 _ _ _ _ _ _ _ (by exact HP0.out.below (drewB (Below.refl _ _))) (by exact HQ0.out.below (drewB (Below.refl _ _))) (by exact HP1.out.below (drewB (Below.refl _ _))) (by exact HQ1.out.below (drewB (Below.refl _ _))) (by exact HP2.out.below (drewB (Below.refl _ _))) (by exact HQ2.out.below (drewB (Below.refl _ _)))).mono ?_; rintro e w3 ⟨⟨r, rfl, hr⟩, hb⟩; obtain rfl : r = true := hr.2 HE.out; have HB8 := hid (HB3.out.trans (hb.mono HB3.out.size)); have HB9 := hid (HBWd.out.trans (hb.mono HBWd.out.size)); clear hr))
                go_wp2
                go_roundw
                case rel => exact ⟨i + 1, by omega, by simp, HB8, HQX⟩
                case measure => simp [Go.RowKit.intOf]; omega
              · have HE := hid he
                clear he
                have HQX := hid (HNE.out HE.out)
                clear HNE HNX
                go_region_held3 (fun w' => Below wr.heap.size wr w' ∧ w'.cell? ⟨B, off + i * 8, none⟩ = some (.int .u8 d.kind) ∧ w'.cell? ⟨B, off + i * 8 + 1, none⟩ = some (.string d.name) ∧ w'.cell? ⟨B, off + i * 8 + 2, none⟩ = some (.int .u8 d.op) ∧ w'.cell? ⟨B, off + i * 8 + 3, none⟩ = some (.int .i64 d.e) ∧ w'.cell? ⟨B, off + i * 8 + 4, none⟩ = some (.int .i64 d.cond) ∧ w'.cell? ⟨B, off + i * 8 + 5, none⟩ = some (.slice P0 d.acts.length pc0) ∧ w'.cell? ⟨B, off + i * 8 + 6, none⟩ = some (.slice P1 d.thn.length pc1) ∧ w'.cell? ⟨B, off + i * 8 + 7, none⟩ = some (.slice P2 d.els.length pc2) ∧ w'.cell? ⟨B2, off2 + i * 8, none⟩ = some (.int .u8 d2.kind) ∧ w'.cell? ⟨B2, off2 + i * 8 + 1, none⟩ = some (.string d2.name) ∧ w'.cell? ⟨B2, off2 + i * 8 + 2, none⟩ = some (.int .u8 d2.op) ∧ w'.cell? ⟨B2, off2 + i * 8 + 3, none⟩ = some (.int .i64 d2.e) ∧ w'.cell? ⟨B2, off2 + i * 8 + 4, none⟩ = some (.int .i64 d2.cond) ∧ w'.cell? ⟨B2, off2 + i * 8 + 5, none⟩ = some (.slice Q0 d2.acts.length qc0) ∧ w'.cell? ⟨B2, off2 + i * 8 + 6, none⟩ = some (.slice Q1 d2.thn.length qc1) ∧ w'.cell? ⟨B2, off2 + i * 8 + 7, none⟩ = some (.slice Q2 d2.els.length qc2) ∧ w'.cell? ⟨w.heap.size, 2, none⟩ = some (.slice (some ⟨B, off, none⟩) xstmts.length cstmts) ∧ w'.cell? ⟨w.heap.size + 1, 2, none⟩ = some (.slice (some ⟨B2, off2, none⟩) ystmts.length dstmts)) (first | assumption | exact HSK.out _ (drewB (Below.refl _ _)) | exact HSK.out _ ((drewB (Below.refl _ _)).trans (hb.mono (Nat.le_refl _))) | exact HSK.out _ (drewB ((drewB (Below.refl _ _)).trans (hb.mono (Nat.le_refl _))))) (first | (go_at_call 22; refine (refStmt_any d d2 _ _ _ _ _ _ _ (by exact HP0.out.below (drewB (Below.refl _ _))) (by exact HQ0.out.below (drewB (Below.refl _ _))) (by exact HP1.out.below (drewB (Below.refl _ _))) (by exact HQ1.out.below (drewB (Below.refl _ _))) (by exact HP2.out.below (drewB (Below.refl _ _))) (by exact HQ2.out.below (drewB (Below.refl _ _)))).mono ?_; rintro e w3 ⟨⟨r, rfl, hr⟩, hb⟩; obtain rfl : r = false := (by cases r with | false => rfl | true => exact (HE.out (hr.1 rfl)).elim); have HB8 := hid (HB3.out.trans (hb.mono HB3.out.size)); have HB9 := hid (HBWd.out.trans (hb.mono HBWd.out.size)); clear hr))
                go_wp2
                go_ret
                exact ⟨says_false HQX.out, HB9.out⟩
            · have hie : i = xstmts.length := by omega
              subst hie
              have hli : ¬ ((xstmts.length : Int) < (xstmts.length : Int)) := by omega
              have NA2 := hid (ext_nth L2.out HN.out)
              clear HN
              have HQ := hid (show EqP (⟨xdecls, xexprs, xstmts, xmain⟩ : ProgM) ⟨ydecls, yexprs, ystmts, ymain⟩ from by have a := NA0.out; have b := NA1.out; have c := NA2.out; have d := NM.out; subst a; subst b; subst c; subst d; exact rfl)
              go_wp2
              go_ret
              exact ⟨says_true HQ.out, HB.out⟩
theorem refSame_any (p q : ProgM) (v v2 : Value) (w : World) (hp : ProgR w v p) (hq : ProgR w v2 q) : Calls Try.prog 11 #[v, v2] w fun e w' => Says (EqP p q) e ∧ Below w.heap.size w w' := by
  obtain ⟨a0, a1, a2, a3, rfl, h0, h1, h2, h3⟩ := hp.out
  obtain ⟨b0, b1, b2, b3, rfl, g0, g1, g2, g3⟩ := hq.out
  clear hp hq
  obtain ⟨pd, px, ps, pm⟩ := p
  obtain ⟨qd, qx, qs, qm⟩ := q
  obtain ⟨A0, c0, rfl, _, _⟩ := Row.slice h0
  obtain ⟨B0, d0, rfl, _, _⟩ := Row.slice g0
  obtain ⟨A1, c1, rfl, _, _⟩ := Row.slice h1
  obtain ⟨B1, d1, rfl, _, _⟩ := Row.slice g1
  obtain ⟨A2, c2, rfl, _, _⟩ := Row.slice h2
  obtain ⟨B2, d2, rfl, _, _⟩ := Row.slice g2
  obtain ⟨A3, c3, rfl, _, _⟩ := Row.slice h3
  obtain ⟨B3, d3, rfl, _, _⟩ := Row.slice g3
  by_cases n0 : pd.length = qd.length
  · by_cases n1 : px.length = qx.length
    · by_cases n2 : ps.length = qs.length
      · by_cases n3 : pm = qm
        · exact refSame_all _ _ _ _ _ _ _ _ _ _ _ _ _ _ _ _ _ _ _ _ _ _ _ _ w (hid h0) (hid g0) (hid h1) (hid g1) (hid h2) (hid g2) (hid h3) (hid g3) (hid n0) (hid n1) (hid n2) (hid n3)
        · exact refSame_main _ _ _ _ _ _ _ _ _ _ _ _ _ _ _ _ _ _ _ _ _ _ _ _ w (hid h0) (hid g0) (hid h1) (hid g1) (hid h2) (hid g2) (hid h3) (hid g3) (hid n0) (hid n1) (hid n2) (hid n3)
      · exact refSame_len2 _ _ _ _ _ _ _ _ _ _ _ _ _ _ _ _ _ _ _ _ _ _ _ _ w (hid h0) (hid g0) (hid h1) (hid g1) (hid h2) (hid g2) (hid h3) (hid g3) (hid n0) (hid n1) (hid n2)
    · exact refSame_len1 _ _ _ _ _ _ _ _ _ _ _ _ _ _ _ _ _ _ _ _ _ _ _ _ w (hid h0) (hid g0) (hid h1) (hid g1) (hid h2) (hid g2) (hid h3) (hid g3) (hid n0) (hid n1)
  · exact refSame_len0 _ _ _ _ _ _ _ _ _ _ _ _ _ _ _ _ _ _ _ _ _ _ _ _ w (hid h0) (hid g0) (hid h1) (hid g1) (hid h2) (hid g2) (hid h3) (hid g3) (hid n0)
end Go.Proofs.Ytlajcmoiopaemaa
