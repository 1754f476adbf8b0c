/- Programs that are the same: the program's. Printed by gen_same5.py. -/
import Derived.Test.YtgaginegcjpddaaQt14
import Derived.Laws.Rows
import Derived.Lib.Builder
import Derived.Lib.UnsafeStr
import Derived.Lib.AppendStr
import Derived.OwnWalk
import Derived.Shelf.RegionOpenPlain
import Derived.Lib.Strings
import Derived.Lib.Walk
import Derived.Laws.Externs
import Derived.Lib.ItoaLen
set_option linter.unusedVariables false
set_option linter.unusedSimpArgs false
namespace Go.Proofs.Ytgaginegcjpddaa
open Go.RowKit
theorem Row.below0 {w w' : World} {v : Value} {l : List DeclM} (h : Decls w v l) (hb : Below w.heap.size w w') : Decls w' v l := h.below hb
theorem Row.below1 {w w' : World} {v : Value} {l : List ExprM} (h : ExprsR w v l) (hb : Below w.heap.size w w') : ExprsR w' v l := h.below hb
theorem Row.below2 {w w' : World} {v : Value} {l : List StmtM} (h : StmtsR w v l) (hb : Below w.heap.size w w') : StmtsR w' v l := h.below hb
theorem Row.below3 {w w' : World} {v : Value} {l : List Int} (h : IntsR w v l) (hb : Below w.heap.size w w') : IntsR w' v l := h.below hb
set_option maxHeartbeats 3200000 in
set_option maxRecDepth 100000 in
theorem progSame_0 (xdecls ydecls : List DeclM) (xexprs yexprs : List ExprM) (xstmts ystmts : List StmtM) (xmain ymain : List Int) (Adecls Bdecls : Option Addr) (cdecls ddecls : Nat) (Aexprs Bexprs : Option Addr) (cexprs dexprs : Nat) (Astmts Bstmts : Option Addr) (cstmts dstmts : Nat) (Amain Bmain : Option Addr) (cmain dmain : Nat) (w : World) (Hdecls : Hid (Decls w (.slice Adecls xdecls.length cdecls) xdecls)) (Gdecls : Hid (Decls w (.slice Bdecls ydecls.length ddecls) ydecls)) (Hexprs : Hid (ExprsR w (.slice Aexprs xexprs.length cexprs) xexprs)) (Gexprs : Hid (ExprsR w (.slice Bexprs yexprs.length dexprs) yexprs)) (Hstmts : Hid (StmtsR w (.slice Astmts xstmts.length cstmts) xstmts)) (Gstmts : Hid (StmtsR w (.slice Bstmts ystmts.length dstmts) ystmts)) (Hmain : Hid (IntsR w (.slice Amain xmain.length cmain) xmain)) (Gmain : Hid (IntsR w (.slice Bmain ymain.length dmain) ymain))  (N0 : Hid (¬ xdecls = ydecls)) :
    Calls Try.prog 12 #[.agg #[.slice Adecls xdecls.length cdecls, .slice Aexprs xexprs.length cexprs, .slice Astmts xstmts.length cstmts, .slice Amain xmain.length cmain], .agg #[.slice Bdecls ydecls.length ddecls, .slice Bexprs yexprs.length dexprs, .slice Bstmts ystmts.length dstmts, .slice Bmain ymain.length dmain]] w fun e w' => Says (EqP (⟨xdecls, xexprs, xstmts, xmain⟩ : ProgM) ⟨ydecls, yexprs, ystmts, ymain⟩) e ∧ Below w.heap.size w w' := by
  have HB0 := hid (((Below.refl w.heap.size w).alloc (Nat.le_refl _) (.cells #[.slice Adecls xdecls.length cdecls, .slice Aexprs xexprs.length cexprs, .slice Astmts xstmts.length cstmts, .slice Amain xmain.length cmain] 27)).alloc (by simp) (.cells #[.slice Bdecls ydecls.length ddecls, .slice Bexprs yexprs.length dexprs, .slice Bstmts ystmts.length dstmts, .slice Bmain ymain.length dmain] 27))
  have es : (w.alloc (.cells #[.slice Adecls xdecls.length cdecls, .slice Aexprs xexprs.length cexprs, .slice Astmts xstmts.length cstmts, .slice Amain xmain.length cmain] 27)).heap.size = w.heap.size + 1 := by rw [World.size_alloc]
  have hx := old_blk (new_blk w (.cells #[.slice Adecls xdecls.length cdecls, .slice Aexprs xexprs.length cexprs, .slice Astmts xstmts.length cstmts, .slice Amain xmain.length cmain] 27)) (.cells #[.slice Bdecls ydecls.length ddecls, .slice Bexprs yexprs.length dexprs, .slice Bstmts ystmts.length dstmts, .slice Bmain ymain.length dmain] 27)
  have hy := new_blk (w.alloc (.cells #[.slice Adecls xdecls.length cdecls, .slice Aexprs xexprs.length cexprs, .slice Astmts xstmts.length cstmts, .slice Amain xmain.length cmain] 27)) (.cells #[.slice Bdecls ydecls.length ddecls, .slice Bexprs yexprs.length dexprs, .slice Bstmts ystmts.length dstmts, .slice Bmain ymain.length dmain] 27)
  rw [es] at hy
  have HX10 := hid (show ((w.alloc (.cells #[.slice Adecls xdecls.length cdecls, .slice Aexprs xexprs.length cexprs, .slice Astmts xstmts.length cstmts, .slice Amain xmain.length cmain] 27)).alloc (.cells #[.slice Bdecls ydecls.length ddecls, .slice Bexprs yexprs.length dexprs, .slice Bstmts ystmts.length dstmts, .slice Bmain ymain.length dmain] 27)).cell? ⟨w.heap.size, 1, none⟩ = some (.slice Aexprs xexprs.length cexprs) by rw [blk_cell hx]; rfl)
  have HY10 := hid (show ((w.alloc (.cells #[.slice Adecls xdecls.length cdecls, .slice Aexprs xexprs.length cexprs, .slice Astmts xstmts.length cstmts, .slice Amain xmain.length cmain] 27)).alloc (.cells #[.slice Bdecls ydecls.length ddecls, .slice Bexprs yexprs.length dexprs, .slice Bstmts ystmts.length dstmts, .slice Bmain ymain.length dmain] 27)).cell? ⟨w.heap.size + 1, 1, none⟩ = some (.slice Bexprs yexprs.length dexprs) by rw [blk_cell hy]; rfl)
  have HX20 := hid (show ((w.alloc (.cells #[.slice Adecls xdecls.length cdecls, .slice Aexprs xexprs.length cexprs, .slice Astmts xstmts.length cstmts, .slice Amain xmain.length cmain] 27)).alloc (.cells #[.slice Bdecls ydecls.length ddecls, .slice Bexprs yexprs.length dexprs, .slice Bstmts ystmts.length dstmts, .slice Bmain ymain.length dmain] 27)).cell? ⟨w.heap.size, 2, none⟩ = some (.slice Astmts xstmts.length cstmts) by rw [blk_cell hx]; rfl)
  have HY20 := hid (show ((w.alloc (.cells #[.slice Adecls xdecls.length cdecls, .slice Aexprs xexprs.length cexprs, .slice Astmts xstmts.length cstmts, .slice Amain xmain.length cmain] 27)).alloc (.cells #[.slice Bdecls ydecls.length ddecls, .slice Bexprs yexprs.length dexprs, .slice Bstmts ystmts.length dstmts, .slice Bmain ymain.length dmain] 27)).cell? ⟨w.heap.size + 1, 2, none⟩ = some (.slice Bstmts ystmts.length dstmts) by rw [blk_cell hy]; rfl)
  have HX30 := hid (show ((w.alloc (.cells #[.slice Adecls xdecls.length cdecls, .slice Aexprs xexprs.length cexprs, .slice Astmts xstmts.length cstmts, .slice Amain xmain.length cmain] 27)).alloc (.cells #[.slice Bdecls ydecls.length ddecls, .slice Bexprs yexprs.length dexprs, .slice Bstmts ystmts.length dstmts, .slice Bmain ymain.length dmain] 27)).cell? ⟨w.heap.size, 3, none⟩ = some (.slice Amain xmain.length cmain) by rw [blk_cell hx]; rfl)
  have HY30 := hid (show ((w.alloc (.cells #[.slice Adecls xdecls.length cdecls, .slice Aexprs xexprs.length cexprs, .slice Astmts xstmts.length cstmts, .slice Amain xmain.length cmain] 27)).alloc (.cells #[.slice Bdecls ydecls.length ddecls, .slice Bexprs yexprs.length dexprs, .slice Bstmts ystmts.length dstmts, .slice Bmain ymain.length dmain] 27)).cell? ⟨w.heap.size + 1, 3, none⟩ = some (.slice Bmain ymain.length dmain) by rw [blk_cell hy]; rfl)
  clear hx hy es
  have HQ := hid (show ¬ EqP (⟨xdecls, xexprs, xstmts, xmain⟩ : ProgM) ⟨ydecls, yexprs, ystmts, ymain⟩ from fun h => N0.out (by cases h; rfl))
  go_enter Try.func12, Try.ntmps12
  go_wp2_with first | (go_at_call 23; refine (equalDecls_any _ _ _ _ _ (by exact Row.below0 Hdecls.out HB0.out) (by exact Row.below0 Gdecls.out HB0.out)).mono ?_; rintro e w2 ⟨⟨r0, rfl, hr0⟩, hb⟩; obtain rfl : r0 = false := (by cases r0 with | false => rfl | true => exact (N0.out (hr0.1 rfl)).elim); have HB1 := hid (HB0.out.trans (hb.mono HB0.out.size)); clear hr0 hb)
  go_ret
  exact ⟨says_false HQ.out, HB1.out⟩
set_option maxHeartbeats 3200000 in
set_option maxRecDepth 100000 in
theorem progSame_1 (xdecls ydecls : List DeclM) (xexprs yexprs : List ExprM) (xstmts ystmts : List StmtM) (xmain ymain : List Int) (Adecls Bdecls : Option Addr) (cdecls ddecls : Nat) (Aexprs Bexprs : Option Addr) (cexprs dexprs : Nat) (Astmts Bstmts : Option Addr) (cstmts dstmts : Nat) (Amain Bmain : Option Addr) (cmain dmain : Nat) (w : World) (Hdecls : Hid (Decls w (.slice Adecls xdecls.length cdecls) xdecls)) (Gdecls : Hid (Decls w (.slice Bdecls ydecls.length ddecls) ydecls)) (Hexprs : Hid (ExprsR w (.slice Aexprs xexprs.length cexprs) xexprs)) (Gexprs : Hid (ExprsR w (.slice Bexprs yexprs.length dexprs) yexprs)) (Hstmts : Hid (StmtsR w (.slice Astmts xstmts.length cstmts) xstmts)) (Gstmts : Hid (StmtsR w (.slice Bstmts ystmts.length dstmts) ystmts)) (Hmain : Hid (IntsR w (.slice Amain xmain.length cmain) xmain)) (Gmain : Hid (IntsR w (.slice Bmain ymain.length dmain) ymain)) (N0 : Hid (xdecls = ydecls)) (N1 : Hid (¬ xexprs = yexprs)) :
    Calls Try.prog 12 #[.agg #[.slice Adecls xdecls.length cdecls, .slice Aexprs xexprs.length cexprs, .slice Astmts xstmts.length cstmts, .slice Amain xmain.length cmain], .agg #[.slice Bdecls ydecls.length ddecls, .slice Bexprs yexprs.length dexprs, .slice Bstmts ystmts.length dstmts, .slice Bmain ymain.length dmain]] w fun e w' => Says (EqP (⟨xdecls, xexprs, xstmts, xmain⟩ : ProgM) ⟨ydecls, yexprs, ystmts, ymain⟩) e ∧ Below w.heap.size w w' := by
  have HB0 := hid (((Below.refl w.heap.size w).alloc (Nat.le_refl _) (.cells #[.slice Adecls xdecls.length cdecls, .slice Aexprs xexprs.length cexprs, .slice Astmts xstmts.length cstmts, .slice Amain xmain.length cmain] 27)).alloc (by simp) (.cells #[.slice Bdecls ydecls.length ddecls, .slice Bexprs yexprs.length dexprs, .slice Bstmts ystmts.length dstmts, .slice Bmain ymain.length dmain] 27))
  have es : (w.alloc (.cells #[.slice Adecls xdecls.length cdecls, .slice Aexprs xexprs.length cexprs, .slice Astmts xstmts.length cstmts, .slice Amain xmain.length cmain] 27)).heap.size = w.heap.size + 1 := by rw [World.size_alloc]
  have hx := old_blk (new_blk w (.cells #[.slice Adecls xdecls.length cdecls, .slice Aexprs xexprs.length cexprs, .slice Astmts xstmts.length cstmts, .slice Amain xmain.length cmain] 27)) (.cells #[.slice Bdecls ydecls.length ddecls, .slice Bexprs yexprs.length dexprs, .slice Bstmts ystmts.length dstmts, .slice Bmain ymain.length dmain] 27)
  have hy := new_blk (w.alloc (.cells #[.slice Adecls xdecls.length cdecls, .slice Aexprs xexprs.length cexprs, .slice Astmts xstmts.length cstmts, .slice Amain xmain.length cmain] 27)) (.cells #[.slice Bdecls ydecls.length ddecls, .slice Bexprs yexprs.length dexprs, .slice Bstmts ystmts.length dstmts, .slice Bmain ymain.length dmain] 27)
  rw [es] at hy
  have HX10 := hid (show ((w.alloc (.cells #[.slice Adecls xdecls.length cdecls, .slice Aexprs xexprs.length cexprs, .slice Astmts xstmts.length cstmts, .slice Amain xmain.length cmain] 27)).alloc (.cells #[.slice Bdecls ydecls.length ddecls, .slice Bexprs yexprs.length dexprs, .slice Bstmts ystmts.length dstmts, .slice Bmain ymain.length dmain] 27)).cell? ⟨w.heap.size, 1, none⟩ = some (.slice Aexprs xexprs.length cexprs) by rw [blk_cell hx]; rfl)
  have HY10 := hid (show ((w.alloc (.cells #[.slice Adecls xdecls.length cdecls, .slice Aexprs xexprs.length cexprs, .slice Astmts xstmts.length cstmts, .slice Amain xmain.length cmain] 27)).alloc (.cells #[.slice Bdecls ydecls.length ddecls, .slice Bexprs yexprs.length dexprs, .slice Bstmts ystmts.length dstmts, .slice Bmain ymain.length dmain] 27)).cell? ⟨w.heap.size + 1, 1, none⟩ = some (.slice Bexprs yexprs.length dexprs) by rw [blk_cell hy]; rfl)
  have HX20 := hid (show ((w.alloc (.cells #[.slice Adecls xdecls.length cdecls, .slice Aexprs xexprs.length cexprs, .slice Astmts xstmts.length cstmts, .slice Amain xmain.length cmain] 27)).alloc (.cells #[.slice Bdecls ydecls.length ddecls, .slice Bexprs yexprs.length dexprs, .slice Bstmts ystmts.length dstmts, .slice Bmain ymain.length dmain] 27)).cell? ⟨w.heap.size, 2, none⟩ = some (.slice Astmts xstmts.length cstmts) by rw [blk_cell hx]; rfl)
  have HY20 := hid (show ((w.alloc (.cells #[.slice Adecls xdecls.length cdecls, .slice Aexprs xexprs.length cexprs, .slice Astmts xstmts.length cstmts, .slice Amain xmain.length cmain] 27)).alloc (.cells #[.slice Bdecls ydecls.length ddecls, .slice Bexprs yexprs.length dexprs, .slice Bstmts ystmts.length dstmts, .slice Bmain ymain.length dmain] 27)).cell? ⟨w.heap.size + 1, 2, none⟩ = some (.slice Bstmts ystmts.length dstmts) by rw [blk_cell hy]; rfl)
  have HX30 := hid (show ((w.alloc (.cells #[.slice Adecls xdecls.length cdecls, .slice Aexprs xexprs.length cexprs, .slice Astmts xstmts.length cstmts, .slice Amain xmain.length cmain] 27)).alloc (.cells #[.slice Bdecls ydecls.length ddecls, .slice Bexprs yexprs.length dexprs, .slice Bstmts ystmts.length dstmts, .slice Bmain ymain.length dmain] 27)).cell? ⟨w.heap.size, 3, none⟩ = some (.slice Amain xmain.length cmain) by rw [blk_cell hx]; rfl)
  have HY30 := hid (show ((w.alloc (.cells #[.slice Adecls xdecls.length cdecls, .slice Aexprs xexprs.length cexprs, .slice Astmts xstmts.length cstmts, .slice Amain xmain.length cmain] 27)).alloc (.cells #[.slice Bdecls ydecls.length ddecls, .slice Bexprs yexprs.length dexprs, .slice Bstmts ystmts.length dstmts, .slice Bmain ymain.length dmain] 27)).cell? ⟨w.heap.size + 1, 3, none⟩ = some (.slice Bmain ymain.length dmain) by rw [blk_cell hy]; rfl)
  clear hx hy es
  have HQ := hid (show ¬ EqP (⟨xdecls, xexprs, xstmts, xmain⟩ : ProgM) ⟨ydecls, yexprs, ystmts, ymain⟩ from fun h => N1.out (by cases h; rfl))
  go_enter Try.func12, Try.ntmps12
  go_wp2_with first | (go_at_call 23; refine (equalDecls_any _ _ _ _ _ (by exact Row.below0 Hdecls.out HB0.out) (by exact Row.below0 Gdecls.out HB0.out)).mono ?_; rintro e w2 ⟨⟨r0, rfl, hr0⟩, hb⟩; obtain rfl : r0 = true := hr0.2 N0.out; have HB1 := hid (HB0.out.trans (hb.mono HB0.out.size)); have x1' := cell_keep hb HX10.out; have y1' := cell_keep hb HY10.out; have HX21 := hid (cell_keep hb HX20.out); have HY21 := hid (cell_keep hb HY20.out); have HX31 := hid (cell_keep hb HX30.out); have HY31 := hid (cell_keep hb HY30.out); clear hr0 hb) | (go_at_call 24; refine (equalExprs_any _ _ _ _ _ (by exact Row.below1 Hexprs.out HB1.out) (by exact Row.below1 Gexprs.out HB1.out)).mono ?_; rintro e w3 ⟨⟨r1, rfl, hr1⟩, hb⟩; obtain rfl : r1 = false := (by cases r1 with | false => rfl | true => exact (N1.out (hr1.1 rfl)).elim); have HB2 := hid (HB1.out.trans (hb.mono HB1.out.size)); clear hr1 hb)
  go_ret
  exact ⟨says_false HQ.out, HB2.out⟩
set_option maxHeartbeats 3200000 in
set_option maxRecDepth 100000 in
theorem progSame_2 (xdecls ydecls : List DeclM) (xexprs yexprs : List ExprM) (xstmts ystmts : List StmtM) (xmain ymain : List Int) (Adecls Bdecls : Option Addr) (cdecls ddecls : Nat) (Aexprs Bexprs : Option Addr) (cexprs dexprs : Nat) (Astmts Bstmts : Option Addr) (cstmts dstmts : Nat) (Amain Bmain : Option Addr) (cmain dmain : Nat) (w : World) (Hdecls : Hid (Decls w (.slice Adecls xdecls.length cdecls) xdecls)) (Gdecls : Hid (Decls w (.slice Bdecls ydecls.length ddecls) ydecls)) (Hexprs : Hid (ExprsR w (.slice Aexprs xexprs.length cexprs) xexprs)) (Gexprs : Hid (ExprsR w (.slice Bexprs yexprs.length dexprs) yexprs)) (Hstmts : Hid (StmtsR w (.slice Astmts xstmts.length cstmts) xstmts)) (Gstmts : Hid (StmtsR w (.slice Bstmts ystmts.length dstmts) ystmts)) (Hmain : Hid (IntsR w (.slice Amain xmain.length cmain) xmain)) (Gmain : Hid (IntsR w (.slice Bmain ymain.length dmain) ymain)) (N0 : Hid (xdecls = ydecls)) (N1 : Hid (xexprs = yexprs)) (N2 : Hid (¬ xstmts = ystmts)) :
    Calls Try.prog 12 #[.agg #[.slice Adecls xdecls.length cdecls, .slice Aexprs xexprs.length cexprs, .slice Astmts xstmts.length cstmts, .slice Amain xmain.length cmain], .agg #[.slice Bdecls ydecls.length ddecls, .slice Bexprs yexprs.length dexprs, .slice Bstmts ystmts.length dstmts, .slice Bmain ymain.length dmain]] w fun e w' => Says (EqP (⟨xdecls, xexprs, xstmts, xmain⟩ : ProgM) ⟨ydecls, yexprs, ystmts, ymain⟩) e ∧ Below w.heap.size w w' := by
  have HB0 := hid (((Below.refl w.heap.size w).alloc (Nat.le_refl _) (.cells #[.slice Adecls xdecls.length cdecls, .slice Aexprs xexprs.length cexprs, .slice Astmts xstmts.length cstmts, .slice Amain xmain.length cmain] 27)).alloc (by simp) (.cells #[.slice Bdecls ydecls.length ddecls, .slice Bexprs yexprs.length dexprs, .slice Bstmts ystmts.length dstmts, .slice Bmain ymain.length dmain] 27))
  have es : (w.alloc (.cells #[.slice Adecls xdecls.length cdecls, .slice Aexprs xexprs.length cexprs, .slice Astmts xstmts.length cstmts, .slice Amain xmain.length cmain] 27)).heap.size = w.heap.size + 1 := by rw [World.size_alloc]
  have hx := old_blk (new_blk w (.cells #[.slice Adecls xdecls.length cdecls, .slice Aexprs xexprs.length cexprs, .slice Astmts xstmts.length cstmts, .slice Amain xmain.length cmain] 27)) (.cells #[.slice Bdecls ydecls.length ddecls, .slice Bexprs yexprs.length dexprs, .slice Bstmts ystmts.length dstmts, .slice Bmain ymain.length dmain] 27)
  have hy := new_blk (w.alloc (.cells #[.slice Adecls xdecls.length cdecls, .slice Aexprs xexprs.length cexprs, .slice Astmts xstmts.length cstmts, .slice Amain xmain.length cmain] 27)) (.cells #[.slice Bdecls ydecls.length ddecls, .slice Bexprs yexprs.length dexprs, .slice Bstmts ystmts.length dstmts, .slice Bmain ymain.length dmain] 27)
  rw [es] at hy
  have HX10 := hid (show ((w.alloc (.cells #[.slice Adecls xdecls.length cdecls, .slice Aexprs xexprs.length cexprs, .slice Astmts xstmts.length cstmts, .slice Amain xmain.length cmain] 27)).alloc (.cells #[.slice Bdecls ydecls.length ddecls, .slice Bexprs yexprs.length dexprs, .slice Bstmts ystmts.length dstmts, .slice Bmain ymain.length dmain] 27)).cell? ⟨w.heap.size, 1, none⟩ = some (.slice Aexprs xexprs.length cexprs) by rw [blk_cell hx]; rfl)
  have HY10 := hid (show ((w.alloc (.cells #[.slice Adecls xdecls.length cdecls, .slice Aexprs xexprs.length cexprs, .slice Astmts xstmts.length cstmts, .slice Amain xmain.length cmain] 27)).alloc (.cells #[.slice Bdecls ydecls.length ddecls, .slice Bexprs yexprs.length dexprs, .slice Bstmts ystmts.length dstmts, .slice Bmain ymain.length dmain] 27)).cell? ⟨w.heap.size + 1, 1, none⟩ = some (.slice Bexprs yexprs.length dexprs) by rw [blk_cell hy]; rfl)
  have HX20 := hid (show ((w.alloc (.cells #[.slice Adecls xdecls.length cdecls, .slice Aexprs xexprs.length cexprs, .slice Astmts xstmts.length cstmts, .slice Amain xmain.length cmain] 27)).alloc (.cells #[.slice Bdecls ydecls.length ddecls, .slice Bexprs yexprs.length dexprs, .slice Bstmts ystmts.length dstmts, .slice Bmain ymain.length dmain] 27)).cell? ⟨w.heap.size, 2, none⟩ = some (.slice Astmts xstmts.length cstmts) by rw [blk_cell hx]; rfl)
  have HY20 := hid (show ((w.alloc (.cells #[.slice Adecls xdecls.length cdecls, .slice Aexprs xexprs.length cexprs, .slice Astmts xstmts.length cstmts, .slice Amain xmain.length cmain] 27)).alloc (.cells #[.slice Bdecls ydecls.length ddecls, .slice Bexprs yexprs.length dexprs, .slice Bstmts ystmts.length dstmts, .slice Bmain ymain.length dmain] 27)).cell? ⟨w.heap.size + 1, 2, none⟩ = some (.slice Bstmts ystmts.length dstmts) by rw [blk_cell hy]; rfl)
  have HX30 := hid (show ((w.alloc (.cells #[.slice Adecls xdecls.length cdecls, .slice Aexprs xexprs.length cexprs, .slice Astmts xstmts.length cstmts, .slice Amain xmain.length cmain] 27)).alloc (.cells #[.slice Bdecls ydecls.length ddecls, .slice Bexprs yexprs.length dexprs, .slice Bstmts ystmts.length dstmts, .slice Bmain ymain.length dmain] 27)).cell? ⟨w.heap.size, 3, none⟩ = some (.slice Amain xmain.length cmain) by rw [blk_cell hx]; rfl)
  have HY30 := hid (show ((w.alloc (.cells #[.slice Adecls xdecls.length cdecls, .slice Aexprs xexprs.length cexprs, .slice Astmts xstmts.length cstmts, .slice Amain xmain.length cmain] 27)).alloc (.cells #[.slice Bdecls ydecls.length ddecls, .slice Bexprs yexprs.length dexprs, .slice Bstmts ystmts.length dstmts, .slice Bmain ymain.length dmain] 27)).cell? ⟨w.heap.size + 1, 3, none⟩ = some (.slice Bmain ymain.length dmain) by rw [blk_cell hy]; rfl)
  clear hx hy es
  have HQ := hid (show ¬ EqP (⟨xdecls, xexprs, xstmts, xmain⟩ : ProgM) ⟨ydecls, yexprs, ystmts, ymain⟩ from fun h => N2.out (by cases h; rfl))
  go_enter Try.func12, Try.ntmps12
  go_wp2_with first | (go_at_call 23; refine (equalDecls_any _ _ _ _ _ (by exact Row.below0 Hdecls.out HB0.out) (by exact Row.below0 Gdecls.out HB0.out)).mono ?_; rintro e w2 ⟨⟨r0, rfl, hr0⟩, hb⟩; obtain rfl : r0 = true := hr0.2 N0.out; have HB1 := hid (HB0.out.trans (hb.mono HB0.out.size)); have x1' := cell_keep hb HX10.out; have y1' := cell_keep hb HY10.out; have HX21 := hid (cell_keep hb HX20.out); have HY21 := hid (cell_keep hb HY20.out); have HX31 := hid (cell_keep hb HX30.out); have HY31 := hid (cell_keep hb HY30.out); clear hr0 hb) | (go_at_call 24; refine (equalExprs_any _ _ _ _ _ (by exact Row.below1 Hexprs.out HB1.out) (by exact Row.below1 Gexprs.out HB1.out)).mono ?_; rintro e w3 ⟨⟨r1, rfl, hr1⟩, hb⟩; obtain rfl : r1 = true := hr1.2 N1.out; have HB2 := hid (HB1.out.trans (hb.mono HB1.out.size)); have x2' := cell_keep hb HX21.out; have y2' := cell_keep hb HY21.out; have HX32 := hid (cell_keep hb HX31.out); have HY32 := hid (cell_keep hb HY31.out); clear hr1 hb) | (go_at_call 26; refine (equalStmts_any _ _ _ _ _ (by exact Row.below2 Hstmts.out HB2.out) (by exact Row.below2 Gstmts.out HB2.out)).mono ?_; rintro e w4 ⟨⟨r2, rfl, hr2⟩, hb⟩; obtain rfl : r2 = false := (by cases r2 with | false => rfl | true => exact (N2.out (hr2.1 rfl)).elim); have HB3 := hid (HB2.out.trans (hb.mono HB2.out.size)); clear hr2 hb)
  go_ret
  exact ⟨says_false HQ.out, HB3.out⟩
set_option maxHeartbeats 3200000 in
set_option maxRecDepth 100000 in
theorem progSame_3 (xdecls ydecls : List DeclM) (xexprs yexprs : List ExprM) (xstmts ystmts : List StmtM) (xmain ymain : List Int) (Adecls Bdecls : Option Addr) (cdecls ddecls : Nat) (Aexprs Bexprs : Option Addr) (cexprs dexprs : Nat) (Astmts Bstmts : Option Addr) (cstmts dstmts : Nat) (Amain Bmain : Option Addr) (cmain dmain : Nat) (w : World) (Hdecls : Hid (Decls w (.slice Adecls xdecls.length cdecls) xdecls)) (Gdecls : Hid (Decls w (.slice Bdecls ydecls.length ddecls) ydecls)) (Hexprs : Hid (ExprsR w (.slice Aexprs xexprs.length cexprs) xexprs)) (Gexprs : Hid (ExprsR w (.slice Bexprs yexprs.length dexprs) yexprs)) (Hstmts : Hid (StmtsR w (.slice Astmts xstmts.length cstmts) xstmts)) (Gstmts : Hid (StmtsR w (.slice Bstmts ystmts.length dstmts) ystmts)) (Hmain : Hid (IntsR w (.slice Amain xmain.length cmain) xmain)) (Gmain : Hid (IntsR w (.slice Bmain ymain.length dmain) ymain)) (N0 : Hid (xdecls = ydecls)) (N1 : Hid (xexprs = yexprs)) (N2 : Hid (xstmts = ystmts)) :
    Calls Try.prog 12 #[.agg #[.slice Adecls xdecls.length cdecls, .slice Aexprs xexprs.length cexprs, .slice Astmts xstmts.length cstmts, .slice Amain xmain.length cmain], .agg #[.slice Bdecls ydecls.length ddecls, .slice Bexprs yexprs.length dexprs, .slice Bstmts ystmts.length dstmts, .slice Bmain ymain.length dmain]] w fun e w' => Says (EqP (⟨xdecls, xexprs, xstmts, xmain⟩ : ProgM) ⟨ydecls, yexprs, ystmts, ymain⟩) e ∧ Below w.heap.size w w' := by
  have HB0 := hid (((Below.refl w.heap.size w).alloc (Nat.le_refl _) (.cells #[.slice Adecls xdecls.length cdecls, .slice Aexprs xexprs.length cexprs, .slice Astmts xstmts.length cstmts, .slice Amain xmain.length cmain] 27)).alloc (by simp) (.cells #[.slice Bdecls ydecls.length ddecls, .slice Bexprs yexprs.length dexprs, .slice Bstmts ystmts.length dstmts, .slice Bmain ymain.length dmain] 27))
  have es : (w.alloc (.cells #[.slice Adecls xdecls.length cdecls, .slice Aexprs xexprs.length cexprs, .slice Astmts xstmts.length cstmts, .slice Amain xmain.length cmain] 27)).heap.size = w.heap.size + 1 := by rw [World.size_alloc]
  have hx := old_blk (new_blk w (.cells #[.slice Adecls xdecls.length cdecls, .slice Aexprs xexprs.length cexprs, .slice Astmts xstmts.length cstmts, .slice Amain xmain.length cmain] 27)) (.cells #[.slice Bdecls ydecls.length ddecls, .slice Bexprs yexprs.length dexprs, .slice Bstmts ystmts.length dstmts, .slice Bmain ymain.length dmain] 27)
  have hy := new_blk (w.alloc (.cells #[.slice Adecls xdecls.length cdecls, .slice Aexprs xexprs.length cexprs, .slice Astmts xstmts.length cstmts, .slice Amain xmain.length cmain] 27)) (.cells #[.slice Bdecls ydecls.length ddecls, .slice Bexprs yexprs.length dexprs, .slice Bstmts ystmts.length dstmts, .slice Bmain ymain.length dmain] 27)
  rw [es] at hy
  have HX10 := hid (show ((w.alloc (.cells #[.slice Adecls xdecls.length cdecls, .slice Aexprs xexprs.length cexprs, .slice Astmts xstmts.length cstmts, .slice Amain xmain.length cmain] 27)).alloc (.cells #[.slice Bdecls ydecls.length ddecls, .slice Bexprs yexprs.length dexprs, .slice Bstmts ystmts.length dstmts, .slice Bmain ymain.length dmain] 27)).cell? ⟨w.heap.size, 1, none⟩ = some (.slice Aexprs xexprs.length cexprs) by rw [blk_cell hx]; rfl)
  have HY10 := hid (show ((w.alloc (.cells #[.slice Adecls xdecls.length cdecls, .slice Aexprs xexprs.length cexprs, .slice Astmts xstmts.length cstmts, .slice Amain xmain.length cmain] 27)).alloc (.cells #[.slice Bdecls ydecls.length ddecls, .slice Bexprs yexprs.length dexprs, .slice Bstmts ystmts.length dstmts, .slice Bmain ymain.length dmain] 27)).cell? ⟨w.heap.size + 1, 1, none⟩ = some (.slice Bexprs yexprs.length dexprs) by rw [blk_cell hy]; rfl)
  have HX20 := hid (show ((w.alloc (.cells #[.slice Adecls xdecls.length cdecls, .slice Aexprs xexprs.length cexprs, .slice Astmts xstmts.length cstmts, .slice Amain xmain.length cmain] 27)).alloc (.cells #[.slice Bdecls ydecls.length ddecls, .slice Bexprs yexprs.length dexprs, .slice Bstmts ystmts.length dstmts, .slice Bmain ymain.length dmain] 27)).cell? ⟨w.heap.size, 2, none⟩ = some (.slice Astmts xstmts.length cstmts) by rw [blk_cell hx]; rfl)
  have HY20 := hid (show ((w.alloc (.cells #[.slice Adecls xdecls.length cdecls, .slice Aexprs xexprs.length cexprs, .slice Astmts xstmts.length cstmts, .slice Amain xmain.length cmain] 27)).alloc (.cells #[.slice Bdecls ydecls.length ddecls, .slice Bexprs yexprs.length dexprs, .slice Bstmts ystmts.length dstmts, .slice Bmain ymain.length dmain] 27)).cell? ⟨w.heap.size + 1, 2, none⟩ = some (.slice Bstmts ystmts.length dstmts) by rw [blk_cell hy]; rfl)
  have HX30 := hid (show ((w.alloc (.cells #[.slice Adecls xdecls.length cdecls, .slice Aexprs xexprs.length cexprs, .slice Astmts xstmts.length cstmts, .slice Amain xmain.length cmain] 27)).alloc (.cells #[.slice Bdecls ydecls.length ddecls, .slice Bexprs yexprs.length dexprs, .slice Bstmts ystmts.length dstmts, .slice Bmain ymain.length dmain] 27)).cell? ⟨w.heap.size, 3, none⟩ = some (.slice Amain xmain.length cmain) by rw [blk_cell hx]; rfl)
  have HY30 := hid (show ((w.alloc (.cells #[.slice Adecls xdecls.length cdecls, .slice Aexprs xexprs.length cexprs, .slice Astmts xstmts.length cstmts, .slice Amain xmain.length cmain] 27)).alloc (.cells #[.slice Bdecls ydecls.length ddecls, .slice Bexprs yexprs.length dexprs, .slice Bstmts ystmts.length dstmts, .slice Bmain ymain.length dmain] 27)).cell? ⟨w.heap.size + 1, 3, none⟩ = some (.slice Bmain ymain.length dmain) by rw [blk_cell hy]; rfl)
  clear hx hy es
  go_enter Try.func12, Try.ntmps12
  go_wp2_with first | (go_at_call 23; refine (equalDecls_any _ _ _ _ _ (by exact Row.below0 Hdecls.out HB0.out) (by exact Row.below0 Gdecls.out HB0.out)).mono ?_; rintro e w2 ⟨⟨r0, rfl, hr0⟩, hb⟩; obtain rfl : r0 = true := hr0.2 N0.out; have HB1 := hid (HB0.out.trans (hb.mono HB0.out.size)); have x1' := cell_keep hb HX10.out; have y1' := cell_keep hb HY10.out; have HX21 := hid (cell_keep hb HX20.out); have HY21 := hid (cell_keep hb HY20.out); have HX31 := hid (cell_keep hb HX30.out); have HY31 := hid (cell_keep hb HY30.out); clear hr0 hb) | (go_at_call 24; refine (equalExprs_any _ _ _ _ _ (by exact Row.below1 Hexprs.out HB1.out) (by exact Row.below1 Gexprs.out HB1.out)).mono ?_; rintro e w3 ⟨⟨r1, rfl, hr1⟩, hb⟩; obtain rfl : r1 = true := hr1.2 N1.out; have HB2 := hid (HB1.out.trans (hb.mono HB1.out.size)); have x2' := cell_keep hb HX21.out; have y2' := cell_keep hb HY21.out; have HX32 := hid (cell_keep hb HX31.out); have HY32 := hid (cell_keep hb HY31.out); clear hr1 hb) | (go_at_call 26; refine (equalStmts_any _ _ _ _ _ (by exact Row.below2 Hstmts.out HB2.out) (by exact Row.below2 Gstmts.out HB2.out)).mono ?_; rintro e w4 ⟨⟨r2, rfl, hr2⟩, hb⟩; obtain rfl : r2 = true := hr2.2 N2.out; have HB3 := hid (HB2.out.trans (hb.mono HB2.out.size)); have x3' := cell_keep hb HX32.out; have y3' := cell_keep hb HY32.out; clear hr2 hb) | (go_at_call 28; refine (equalInts_any _ _ _ _ _ (by exact Row.below3 Hmain.out HB3.out) (by exact Row.below3 Gmain.out HB3.out)).mono ?_; rintro e w5 ⟨⟨r3, rfl, hr3⟩, hb⟩; have HB4 := hid (HB3.out.trans (hb.mono HB3.out.size)); clear hb)
  go_ret
  exact ⟨⟨r3, rfl, hr3.trans ⟨fun h => by have a := N0.out; have b := N1.out; have c := N2.out; subst h; subst a; subst b; subst c; exact rfl, fun h => by cases h; rfl⟩⟩, HB4.out⟩
/-- a program in memory -/
structure ProgR (w : World) (v : Value) (p : ProgM) : Prop where
  out : ∃ dv xv sv mv, v = .agg #[dv, xv, sv, mv] ∧ Decls w dv p.decls ∧ ExprsR w xv p.exprs ∧ StmtsR w sv p.stmts ∧ IntsR w mv p.main
theorem ProgR.below {w w' : World} {v : Value} {p : ProgM} (h : ProgR w v p) (hb : Below w.heap.size w w') : ProgR w' v p := by
  obtain ⟨a, b, c, d, h0, h1, h2, h3, h4⟩ := h.out
  exact ⟨a, b, c, d, h0, h1.below hb, h2.below hb, h3.below hb, h4.below hb⟩
theorem progSame_any (p q : ProgM) (v v2 : Value) (w : World) (hp : ProgR w v p) (hq : ProgR w v2 q) : Calls Try.prog 12 #[v, v2] w fun e w' => Says (EqP p q) e ∧ Below w.heap.size w w' := by
  obtain ⟨a0, a1, a2, a3, rfl, h0, h1, h2, h3⟩ := hp.out
  obtain ⟨b0, b1, b2, b3, rfl, g0, g1, g2, g3⟩ := hq.out
  clear hp hq
  obtain ⟨pd, px, ps, pm⟩ := p
  obtain ⟨qd, qx, qs, qm⟩ := q
  obtain ⟨A0, c0, rfl, _, _⟩ := Row.slice h0
  obtain ⟨B0, d0, rfl, _, _⟩ := Row.slice g0
  obtain ⟨A1, c1, rfl, _, _⟩ := Row.slice h1
  obtain ⟨B1, d1, rfl, _, _⟩ := Row.slice g1
  obtain ⟨A2, c2, rfl, _, _⟩ := Row.slice h2
  obtain ⟨B2, d2, rfl, _, _⟩ := Row.slice g2
  obtain ⟨A3, c3, rfl, _, _⟩ := Row.slice h3
  obtain ⟨B3, d3, rfl, _, _⟩ := Row.slice g3
  by_cases n0 : pd = qd
  · by_cases n1 : px = qx
    · by_cases n2 : ps = qs
      · exact progSame_3 _ _ _ _ _ _ _ _ _ _ _ _ _ _ _ _ _ _ _ _ _ _ _ _ w (hid h0) (hid g0) (hid h1) (hid g1) (hid h2) (hid g2) (hid h3) (hid g3) (hid n0) (hid n1) (hid n2)
      · exact progSame_2 _ _ _ _ _ _ _ _ _ _ _ _ _ _ _ _ _ _ _ _ _ _ _ _ w (hid h0) (hid g0) (hid h1) (hid g1) (hid h2) (hid g2) (hid h3) (hid g3) (hid n0) (hid n1) (hid n2)
    · exact progSame_1 _ _ _ _ _ _ _ _ _ _ _ _ _ _ _ _ _ _ _ _ _ _ _ _ w (hid h0) (hid g0) (hid h1) (hid g1) (hid h2) (hid g2) (hid h3) (hid g3) (hid n0) (hid n1)
  · exact progSame_0 _ _ _ _ _ _ _ _ _ _ _ _ _ _ _ _ _ _ _ _ _ _ _ _ w (hid h0) (hid g0) (hid h1) (hid g1) (hid h2) (hid g2) (hid h3) (hid g3) (hid n0)
end Go.Proofs.Ytgaginegcjpddaa
/- A part of a program. Printed by gen_part.py. -/
namespace Go.Proofs.Ytgaginegcjpddaa
open Go.RowKit
theorem Row.take {α : Type} [Inhabited α] {w : World} {D : Nat → Prop} {R : α → List Value → Prop} {size : Nat} {A : Option Addr} {c m : Nat} {l : List α} (h : Row w D R size (.slice A l.length c) l) (hm : m ≤ l.length) : Row w D R size (.slice A m c) (l.take m) := by
  obtain ⟨A', c', h1, h2, h3, h4⟩ := h.out
  simp only [Value.slice.injEq] at h1
  obtain ⟨rfl, _, rfl⟩ := h1
  refine ⟨A, c, by rw [List.length_take, Nat.min_eq_left hm], by rw [List.length_take]; omega, h3, fun h0 => ?_⟩
  rw [List.length_take] at h0
  obtain ⟨b, off, hA, hD, hall⟩ := h4 (by omega)
  refine ⟨b, off, hA, hD, fun i hi => ?_⟩
  rw [List.length_take] at hi
  obtain ⟨cs, hr, hl, hcs⟩ := hall i (by omega)
  have : nth (l.take m) i = nth l i := by
    rw [nth_eq (by rw [List.length_take]; omega), nth_eq (by omega)]; simp
  exact ⟨cs, by rw [this]; exact hr, hl, hcs⟩
theorem Row.some {α : Type} [Inhabited α] {w : World} {D : Nat → Prop} {R : α → List Value → Prop} {size : Nat} {A : Option Addr} {n c : Nat} {l : List α} (h : Row w D R size (.slice A n c) l) (h0 : 0 < l.length) : ∃ b off, A = some ⟨b, off, none⟩ := by
  obtain ⟨A', c', h1, h2, h3, h4⟩ := h.out
  simp only [Value.slice.injEq] at h1
  obtain ⟨rfl, _, rfl⟩ := h1
  obtain ⟨b, off, hA, _⟩ := h4 h0
  exact ⟨b, off, hA⟩
end Go.Proofs.Ytgaginegcjpddaa
/- What the program's Write comes to. -/
namespace Go.Proofs.Ytgaginegcjpddaa
open Go.RowKit
def PDecl.m (d : PDecl) : DeclM := ⟨d.name, d.side, d.kind⟩
def Expr.m (x : Expr) : ExprM := ⟨x.kind, x.of_, x.op, x.name, x.num, x.kids⟩
def PAct.m (a : PAct) : ActM := ⟨a.kind, a.name, a.op, a.inn, a.e, a.cond⟩
def PStmt.m (s : PStmt) : StmtM := ⟨s.kind, s.name, s.op, s.e, s.cond, s.acts.map PAct.m, s.thn, s.els⟩
def Prg.m (p : Prg) : ProgM := ⟨p.decls.map PDecl.m, p.exprs.map Expr.m, p.stmts.map PStmt.m, p.main⟩
/-- the same row, told otherwise -/
theorem Row.map {α β : Type} [Inhabited α] [Inhabited β] {w : World} {D D' : Nat → Prop} {R : α → List Value → Prop} {R' : β → List Value → Prop} {size : Nat} {v : Value} {l : List α} (f : α → β) (h : Row w D R size v l)
    (hR : ∀ a cs, R a cs → R' (f a) cs) (hD : ∀ b, D b → b < w.heap.size → D' b) (hs : 0 < size) : Row w D' R' size v (l.map f) := by
  obtain ⟨A, c, h1, h2, h3, h4⟩ := h.out
  refine ⟨A, c, by simpa using h1, by simpa using h2, h3, fun h0 => ?_⟩
  simp only [List.length_map] at h0
  obtain ⟨b, off, hA, hDb, hall⟩ := h4 h0
  obtain ⟨cs0, _, hl0, hc0⟩ := hall 0 h0
  have hlt : b < w.heap.size := World.block_lt_of_cell? w _ (hc0 0 _ (List.getElem?_eq_getElem (by omega)))
  refine ⟨b, off, hA, hD b hDb hlt, fun i hi => ?_⟩
  simp only [List.length_map] at hi
  obtain ⟨cs, hr, hl, hc⟩ := hall i hi
  have : nth (l.map f) i = f (nth l i) := by rw [nth_eq (by simpa using hi), nth_eq hi]; simp
  exact ⟨cs, by rw [this]; exact hR _ _ hr, hl, hc⟩
theorem PRd.progR {w : World} {Z : Nat → Prop} {D : Nat → Value} {p : Prg} (h : PRd w Z D p) : ProgR w (.agg #[D 0, D 1, D 2, D 3]) p.m := by
  have hi : ∀ v l, Ints w Z v l → IntsR w v l := fun v l h => h.imp (D' := T') fun b _ _ => ⟨trivial, rfl⟩
  refine ⟨_, _, _, _, rfl, ?_, ?_, ?_, hi _ _ h.main⟩
  · exact Row.map _ h.decls (fun a cs h => h) (fun _ _ _ => trivial) (by omega)
  · exact Row.map _ h.exprs (fun a cs h => by obtain ⟨kv, rfl, h2⟩ := h; exact ⟨kv, rfl, hi _ _ h2⟩) (fun _ _ _ => trivial) (by omega)
  · exact Row.map _ h.stmts (fun a cs h => by
      obtain ⟨av, tv, ev, rfl, h1, h2, h3⟩ := h
      exact ⟨av, tv, ev, rfl, Row.map _ h1 (fun _ _ h => h) (fun _ _ _ => trivial) (by omega), hi _ _ h2, hi _ _ h3⟩) (fun _ _ _ => trivial) (by omega)
open Classical in
/-- forms that say a program, and why there are none -/
noncomputable def writeS (p : Prg) : List Form × List Int × Int :=
  match writtenS p with
  | none => ([], [], 3)
  | some s => if (readS s.1 s.2).2.2 = 0 ∧ p.m = (readS s.1 s.2).1.m then (s.1, s.2, 0) else ([], [], 3)
def WriteP (w : World) (r : List Form × List Int × Int) (e : Ending) (w' : World) : Prop :=
  ∃ fv tv, e = .returned (.tuple #[fv, tv, .int .i64 r.2.2]) ∧ Below w.heap.size w w' ∧ Forms w' (fun b => w.heap.size ≤ b) fv r.1 ∧ Ints w' (fun b => w.heap.size ≤ b) tv r.2.1
/-- what writing asks of a program -/
structure WOk (p : Prg) : Prop where
  ops : OpsOk p.exprs p.stmts
  texts : ∀ s, writtenS p = some s → ∀ f ∈ s.1, f.text.size ≤ 9223372036854775807
theorem WriteP.no (w w' : World) (h : Below w.heap.size w w') : WriteP w ([], [], 3) (.returned (.tuple #[nilv, nilv, .int .i64 3])) w' := ⟨_, _, rfl, h, Row.nil _ _ _ _, Row.nil _ _ _ _⟩
set_option maxHeartbeats 3200000 in
set_option maxRecDepth 100000 in
theorem write_any (p : Prg) (D : Nat → Value) (w : World) (hp : PRd w (fun b => b < w.heap.size) D p) (hok : WOk p) :
    Calls Try.prog 6 #[.agg #[D 0, D 1, D 2, D 3]] w (WriteP w (writeS p)) := by
  obtain ⟨A0, c0, hD0, _, _⟩ := hp.decls.slice
  obtain ⟨A1, c1, hD1, _, _⟩ := hp.exprs.slice
  obtain ⟨A2, c2, hD2, _, _⟩ := hp.stmts.slice
  obtain ⟨A3, c3, hD3, _, _⟩ := hp.main.slice
  have HD := hid (And.intro hD0 (And.intro hD1 (And.intro hD2 hD3)))
  have b1 := new_blk w (.cells #[D 0, D 1, D 2, D 3] 27 (0, 0))
  have hB1 : Below w.heap.size w (w.alloc (.cells #[D 0, D 1, D 2, D 3] 27 (0, 0))) := (Below.refl _ _).alloc (Nat.le_refl _) _
  have hp1 : PRd (w.alloc (.cells #[D 0, D 1, D 2, D 3] 27 (0, 0))) (fun b => b < (w.alloc (.cells #[D 0, D 1, D 2, D 3] 27 (0, 0))).heap.size) D p := hp.imp fun b hb _ => ⟨by rw [World.size_alloc]; omega, hB1.block b hb⟩
  have HP1 := hid hp1; have HB1 := hid hB1; have HN1 := hid b1; have HOK := hid hok
  rw [hD0, hD1, hD2, hD3] at HP1 HB1 HN1 ⊢
  clear hp hok hp1 hB1 b1
  go_enter Try.func6, Try.ntmps6
  go_upto_region 1 with fail
  obtain ⟨n, hn⟩ : ∃ n, w.heap.size = n := ⟨_, rfl⟩
  generalize w.alloc (.cells #[.slice A0 p.decls.length c0, .slice A1 p.exprs.length c1, .slice A2 p.stmts.length c2, .slice A3 p.main.length c3] 27 (0, 0)) = w1 at HP1 HB1 HN1 ⊢
  rw [hn] at HN1 HB1 ⊢
  have x1 := blk_cell HN1.out
  have hwc := written_any p D w1 HP1.out HOK.out.ops
  have hpr := fun (w' : World) (hp : PRd w' (fun b => b < w'.heap.size) D p) => hp.progR
  rw [hD0, hD1, hD2, hD3] at hwc
  simp only [hD0, hD1, hD2, hD3] at hpr
  have HWC := hid hwc; have HPR := hid hpr
  clear hD0 hD1 hD2 hD3 hwc hpr HD
  rcases hws : writtenS p with _ | s
  · have HWS := hid hws
    have HR : Hid (writeS p = ([], [], 3)) := hid (by unfold writeS; rw [hws])
    clear hws
    go_wp2_with (go_at_call 13; refine HWC.out.mono ?_; rintro e w2 he; rw [HWS.out] at he; obtain ⟨rfl, hb2⟩ := he)
    refine bodyPost_ret (results_tmp3 rfl _ _ _) rfl ?_
    rw [HR.out]
    exact WriteP.no _ _ (by rw [hn]; exact HB1.out.trans (hb2.mono (by have := HB1.out.size; omega)))
  · have HWS := hid hws
    have hsz1 := HB1.out.size
    clear hws
    obtain ⟨R, hR⟩ : ∃ R, readS s.1 s.2 = R := ⟨_, rfl⟩
    obtain ⟨q, pos, why⟩ := R
    go_upto_region 4 with (go_at_call 13; refine HWC.out.mono ?_; rintro e w2 he; rw [HWS.out] at he; obtain ⟨fv, tv, rfl, hb2, hf2, ht2, hwf2⟩ := he)
    have hsz2 := hb2.size
    have hf2' : Forms w2 (fun b => b < w2.heap.size) fv s.1 := hf2.imp0 fun b _ hb => ⟨hb, rfl⟩
    have ht2' : Ints w2 (fun b => b < w2.heap.size) tv s.2 := ht2.imp fun b _ hb => ⟨hb, rfl⟩
    have x2 : ∀ j, w2.cell? ⟨n, j, none⟩ = #[Value.slice A0 p.decls.length c0, .slice A1 p.exprs.length c1, .slice A2 p.stmts.length c2, .slice A3 p.main.length c3][j]? := fun j => (World.cell?_of_block (a := ⟨n, j, none⟩) (hb2.block n (blk_lt HN1.out))).trans (x1 j)
    have HP2 := hid (HP1.out.imp (w' := w2) (Z' := fun b => b < w2.heap.size) fun b hb _ => ⟨by omega, hb2.block b hb⟩)
    have HF := hid hf2; have HT := hid ht2; have HB2 := hid hb2; have HF2 := hid hf2'; have HT2 := hid ht2'
    obtain ⟨AF, cF, rfl, _⟩ := hf2.slice
    obtain ⟨AT, cT, rfl, _⟩ := ht2.slice
    have HRR := hid hR
    clear hf2 ht2 hf2' ht2' hb2 hwf2 x1 hR
    by_cases hw0 : why = 0
    case neg =>
      have hR2 : Hid (writeS p = ([], [], 3)) := hid (by unfold writeS; rw [HWS.out]; exact if_neg fun h => hw0 (by have := h.1; rw [HRR.out] at this; exact this))
      have hwb : (why == 0) = false := by rw [beq_eq_false_iff_ne]; exact hw0
      have hwb2 : (why != 0) = true := by rw [bne, hwb]; rfl
      go_wp2_with (go_at_call 9; refine (read_any s.1 s.2 _ _ w2 HF2.out HT2.out (HOK.out.texts s HWS.out)).mono ?_; rintro e w3 he; rw [HRR.out] at he; obtain ⟨D2, rfl, hb3, hp3⟩ := he; obtain ⟨B0, d0, g0, _⟩ := hp3.decls.slice; obtain ⟨B1, d1, g1, _⟩ := hp3.exprs.slice; obtain ⟨B2, d2, g2, _⟩ := hp3.stmts.slice; obtain ⟨B3, d3, g3, _⟩ := hp3.main.slice; have hq3 := hp3.progR; simp only [g0, g1, g2, g3] at hq3 ⊢; have HQ3 := hid hq3; have HB3 := hid hb3; clear hq3 hp3 g0 g1 g2 g3 hb3)
      refine bodyPost_ret (results_tmp3 rfl _ _ _) rfl ?_
      rw [hR2.out]
      exact WriteP.no _ _ (by rw [hn]; exact (HB1.out.trans (HB2.out.mono (by omega))).trans ((HB3.out.mono (by omega)).alloc (by have := HB3.out.size; omega) _))
    subst hw0
    go_upto_region 5 with (go_at_call 9; refine (read_any s.1 s.2 _ _ w2 HF2.out HT2.out (HOK.out.texts s HWS.out)).mono ?_; rintro e w3 he; rw [HRR.out] at he; obtain ⟨D2, rfl, hb3, hp3⟩ := he; obtain ⟨B0, d0, g0, _⟩ := hp3.decls.slice; obtain ⟨B1, d1, g1, _⟩ := hp3.exprs.slice; obtain ⟨B2, d2, g2, _⟩ := hp3.stmts.slice; obtain ⟨B3, d3, g3, _⟩ := hp3.main.slice; have hq3 := hp3.progR; simp only [g0, g1, g2, g3] at hq3 ⊢; have HQ3 := hid hq3; have HB3 := hid hb3; clear hq3 hp3 g0 g1 g2 g3 hb3)
    have hsz3 := HB3.out.size
    have hBa := HB3.out.alloc (Nat.le_trans hsz3 (Nat.le_refl _)) (.cells #[.slice B0 q.decls.length d0, .slice B1 q.exprs.length d1, .slice B2 q.stmts.length d2, .slice B3 q.main.length d3] 27)
    have n3 := new_blk w3 (.cells #[.slice B0 q.decls.length d0, .slice B1 q.exprs.length d1, .slice B2 q.stmts.length d2, .slice B3 q.main.length d3] 27 (0, 0))
    have hq4 := HQ3.out.below ((Below.refl w3.heap.size w3).alloc (Nat.le_refl _) (.cells #[.slice B0 q.decls.length d0, .slice B1 q.exprs.length d1, .slice B2 q.stmts.length d2, .slice B3 q.main.length d3] 27))
    generalize w3.alloc (.cells #[.slice B0 q.decls.length d0, .slice B1 q.exprs.length d1, .slice B2 q.stmts.length d2, .slice B3 q.main.length d3] 27) = w4 at hBa n3 hq4 ⊢
    obtain ⟨k, hk⟩ : ∃ k, w3.heap.size = k := ⟨_, rfl⟩
    rw [hk] at n3 ⊢
    have hp4 := HPR.out w4 (HP2.out.imp fun b hb _ => ⟨by have := hBa.size; omega, hBa.block b hb⟩)
    have hnlt : n < w2.heap.size := by have := blk_lt HN1.out; omega
    have x4 : ∀ j, w4.cell? ⟨n, j, none⟩ = #[Value.slice A0 p.decls.length c0, .slice A1 p.exprs.length c1, .slice A2 p.stmts.length c2, .slice A3 p.main.length c3][j]? := fun j => (World.cell?_of_block (a := ⟨n, j, none⟩) (hBa.block n hnlt)).trans (x2 j)
    have y4 := blk_cell n3
    have HP4 := hid hp4; have HQ4 := hid hq4; have HBA := hid hBa
    clear x2 hp4 hq4 hBa n3 hk
    by_cases he : p.m = q.m
    · have hR2 : Hid (writeS p = (s.1, s.2, 0)) := hid (by unfold writeS; rw [HWS.out]; exact if_pos (by rw [HRR.out]; exact ⟨rfl, he⟩))
      have HE := hid (show EqP p.m q.m from he)
      clear he
      go_wp2_with (go_at_call 12; refine (progSame_any p.m q.m _ _ w4 HP4.out HQ4.out).mono ?_; rintro e w5 ⟨⟨r0, rfl, hr0⟩, hb5⟩; obtain rfl : r0 = true := hr0.2 HE.out; clear hr0)
      refine bodyPost_ret (results_tmp3 rfl _ _ _) rfl ?_
      rw [hR2.out]
      have hsz4 := HBA.out.size
      have hB5 := HBA.out.trans (hb5.mono hsz4)
      exact ⟨_, _, rfl, by rw [hn]; exact (HB1.out.trans (HB2.out.mono (by omega))).trans (hB5.mono (by omega)), HF.out.imp0 fun b hb hlt => ⟨by omega, hB5.block b hlt⟩, HT.out.imp fun b hb hlt => ⟨by omega, hB5.block b hlt⟩⟩
    · have hR2 : Hid (writeS p = ([], [], 3)) := hid (by unfold writeS; rw [HWS.out]; exact if_neg fun h => he (by have := h.2; rw [HRR.out] at this; exact this))
      have HE := hid (show ¬ EqP p.m q.m from he)
      clear he
      go_wp2_with (go_at_call 12; refine (progSame_any p.m q.m _ _ w4 HP4.out HQ4.out).mono ?_; rintro e w5 ⟨⟨r0, rfl, hr0⟩, hb5⟩; obtain rfl : r0 = false := (by cases r0 with | false => rfl | true => exact absurd (hr0.1 rfl) HE.out); clear hr0)
      refine bodyPost_ret (results_tmp3 rfl _ _ _) rfl ?_
      rw [hR2.out]
      exact WriteP.no _ _ (by rw [hn]; exact (HB1.out.trans (HB2.out.mono (by omega))).trans ((HBA.out.trans (hb5.mono HBA.out.size)).mono (by omega)))
end Go.Proofs.Ytgaginegcjpddaa
/- The program's strings.Builder: copyCheck, WriteByte, WriteString (the shelf's proofs, turned to this program, whose copyCheck has another body). -/
namespace Go.Proofs.Ytgaginegcjpddaa
open Go.RowKit
/-- nothing turns but a builder and the bytes of it -/
def Only (b : Nat) (w w' : World) : Prop := ∀ k o, k ≠ b → w.heap[k]? = some o → (∀ cur fr, o ≠ .cells cur 5 fr) → w'.heap[k]? = some o
theorem Only.refl (b : Nat) (w : World) : Only b w w := fun _ _ _ h _ => h
theorem Only.trans {b : Nat} {w w1 w2 : World} (h : Only b w w1) (k : Only b w1 w2) : Only b w w2 := fun i o hi ho hn => k i o hi (h i o hi ho hn) hn
theorem Only.set {b : Nat} {w w1 : World} (h : Only b w w1) (j : Nat) (v : Value) : Only b w (w1.setCell ⟨b, j, none⟩ v) := fun i o hi ho hn => (Below.heap_setCell w1 ⟨b, j, none⟩ v i hi).trans (h i o hi ho hn)
theorem Only.grown {b B : Nat} {w w1 w2 : World} {v : Value} {n : Nat} {xs : List Value} (h : Only b w w1) (hown : w1.ownsRow B 5 1 v n xs) (hg : w1.grownBy w2 v.ownBlock) : Only b w w2 := fun i o hi ho hn => by
  have h1 := h i o hi ho hn
  have hlt := blk_lt h1
  rw [hg.block i hlt ?_]; exact h1
  intro e
  rcases hown.2 with ⟨rfl, _⟩ | ⟨g, cap, cur, rfl, _, hh, _⟩
  · cases e
  · cases e
    rw [h1] at hh
    cases hh
    exact hn _ _ rfl
theorem Only.alloc {b : Nat} {w w1 : World} (h : Only b w w1) (o : Obj) : Only b w (w1.alloc o) := fun i o' hi ho hn => old_blk (h i o' hi ho hn) o
set_option maxHeartbeats 1000000 in
set_option maxRecDepth 100000 in
theorem cc_used (b : Nat) (w : World) (h0 : w.cell? ⟨b, 0, none⟩ = some (.pointer (some ⟨b, 0, none⟩))) :
    Calls Try.prog 71 #[.pointer (some ⟨b, 0, none⟩)] w fun e w' => e = .returned (.tuple #[]) ∧ w' = w := by
  obtain ⟨j, hj, hjs⟩ := Option.map_eq_some_iff.1 (show (Try.prog.info? 110).map (·.size) = some 2 by kernel_rfl)
  go_enter Try.func71, Try.ntmps71
  go_wp2
  rw [Lib.run_neq_ptr_same w _ Try.underlying107 hj]
  go_wp2
  go_end0
  exact ⟨rfl, rfl⟩
set_option maxHeartbeats 1000000 in
set_option maxRecDepth 100000 in
theorem cc_fresh (b : Nat) (w : World) (h0 : w.cell? ⟨b, 0, none⟩ = some (.pointer none)) (hsh : w.shape? b = some (110, 2)) (hfz : w.frozen? ⟨b, 0, none⟩ = false) :
    Calls Try.prog 71 #[.pointer (some ⟨b, 0, none⟩)] w fun e w' => e = .returned (.tuple #[]) ∧ w' = w.setCell ⟨b, 0, none⟩ (.pointer (some ⟨b, 0, none⟩)) := by
  obtain ⟨j, hj, hjs⟩ := Option.map_eq_some_iff.1 (show (Try.prog.info? 110).map (·.size) = some 2 by kernel_rfl)
  go_enter Try.func71, Try.ntmps71
  go_wp2
  rw [Lib.run_to_unsafe w ⟨b, 0, none⟩ Try.underlying107 Try.underlying177 hj (by rw [hjs]; decide) hsh (Nat.zero_lt_succ 1)]
  simp only [Result.andThen]
  rw [Oper.upon_value]
  go_wp2
  rw [run_callFunc_extern Try.func89 (by kernel_rfl) (by kernel_rfl) (by kernel_rfl) (e := Extern.AbiNoEscape.same) (by kernel_rfl)]
  rw [Lib.run_noEscape]
  simp only [Result.andThen]
  rw [Oper.upon_value]
  go_wp2
  rw [Lib.run_from_unsafe w ⟨b, 0, none⟩ Try.underlying177 Try.underlying107 hj hsh (by kernel_rfl)]
  simp only [Result.andThen]
  rw [Oper.upon_value]
  go_wp2
  go_end0
  exact ⟨rfl, rfl⟩
theorem cc_any (B b : Nat) (bs : List Value) (w : World) (h : Lib.IsBuilder 110 5 B b bs w) :
    Calls Try.prog 71 #[.pointer (some ⟨b, 0, none⟩)] w fun e w' => e = .returned (.tuple #[]) ∧ (Lib.BuilderAt 110 5 B b (.pointer (some ⟨b, 0, none⟩)) bs w' ∧ Below B w w' ∧ Only b w w') := by
  rcases h with h | h
  · refine (cc_fresh b w h.cell0 h.shape h.frozen0).mono ?_
    rintro e w' ⟨rfl, rfl⟩
    exact ⟨rfl, h.used _, (Below.refl B w).setCell (p := ⟨b, 0, none⟩) h.1 _, (Only.refl b w).set 0 _⟩
  · refine (cc_used b w h.cell0).mono ?_
    rintro e w' ⟨rfl, rfl⟩
    exact ⟨rfl, h, Below.refl B _, Only.refl b _⟩
set_option maxHeartbeats 2000000 in
set_option maxRecDepth 100000 in
theorem wByte_any (B b : Nat) (bs : List Value) (c : Int) (w : World) (h : Lib.IsBuilder 110 5 B b bs w) (hlen : bs.length + 1 ≤ 140737488355328) (hBw : B ≤ w.heap.size) :
    Calls Try.prog 44 #[.pointer (some ⟨b, 0, none⟩), .int .u8 c] w fun e w' => e = .returned .nilIface ∧ (Lib.BuilderAt 110 5 B b (.pointer (some ⟨b, 0, none⟩)) (bs ++ [.int .u8 c]) w' ∧ Below B w w' ∧ Only b w w') := by
  obtain ⟨i0, hi, hz0, hz1, hz2⟩ := info_parts (show (Try.prog.info? 5).map (fun i => (i.zero, i.size, i.bytes)) = some (some (.int .u8 0), 1, 1) by kernel_rfl)
  go_enter Try.func44, Try.ntmps44
  go_wp2_with (go_at_call 71; refine (cc_any B b bs _ h).mono ?_)
  rintro e w1 ⟨rfl, h1, hb1, ho1⟩
  obtain ⟨hB, v, hbk, hown, hne⟩ := h1
  have c0 : w1.cell? ⟨b, 0, none⟩ = some (.pointer (some ⟨b, 0, none⟩)) := by rw [Lib.cell_of_heap hbk]; rfl
  have c1 : w1.cell? ⟨b, 1, none⟩ = some v := by rw [Lib.cell_of_heap hbk]; rfl
  go_wp2_with (at_builtin; refine wpList_append_own _ rfl _ _ 108 rfl B 5 i0 (.int .u8 0) 1 1 Try.underlying108 hi hz0 hz1 hz2 rfl (by decide) _ _ _ rfl (hown.alloc _) ⟨w1.heap.size, 0, none⟩ 1 1 [.int .u8 c] rfl rfl ?c1 ?c2 ?c3 ?c4 ?c5 ?_)
  case c1 =>
    intro j u hj
    match j, hj with
    | 0, hj => simp at hj; subst hj; simp [Addr.add]
  case c2 => intro u hu; simp at hu; subst hu; rfl
  case c3 => unfold maxLen; omega
  case c4 => omega
  case c5 => have := hb1.size; simp; omega
  intro v' w2 hown' hgrow _
  have hlt : b < w1.heap.size := by
    rcases Nat.lt_or_ge b w1.heap.size with h' | h'
    · exact h'
    · simp [Array.getElem?_eq_none h'] at hbk
  have hb2 : w2.heap[b]? = some (.cells #[.pointer (some ⟨b, 0, none⟩), v] 110 (0, 0)) := by
    rw [hgrow.block b (by simp; omega) (fun e => hne e.symm), Lib.alloc_old w1 _ b hlt]
    exact hbk
  have d0 : w2.cell? ⟨b, 0, none⟩ = some (.pointer (some ⟨b, 0, none⟩)) := by rw [Lib.cell_of_heap hb2]; rfl
  have d1 : w2.cell? ⟨b, 1, none⟩ = some v := by rw [Lib.cell_of_heap hb2]; rfl
  have f1 : w2.frozen? ⟨b, 1, none⟩ = false := Lib.frozen_of_heap hb2 1
  obtain ⟨g, cap, rfl⟩ : ∃ g cap, v' = .slice (some ⟨g, 0, none⟩) (bs.length + 1) cap := by
    rcases hown'.2 with ⟨_, h0⟩ | ⟨g, cap, cur, hv, _⟩
    · omega
    · exact ⟨g, cap, hv⟩
  go_wp2
  go_ret
  refine ⟨rfl, ?_, ?_, ?_⟩
  · exact Lib.BuilderAt.put (T := 110) (e := 5) hB hb2 (bs' := bs ++ [.int .u8 c]) (by simpa using hown') (by decide)
  · exact ((hb1.alloc (by have := hb1.size; omega) _).grown hgrow (by have := hb1.size; simp; omega) (fun k hk => (hown.lt k hk).1)).setCell (p := ⟨b, 1, none⟩) hB _
  · exact ((ho1.alloc _).grown (hown.alloc _) hgrow).set 1 _
set_option maxHeartbeats 2000000 in
set_option maxRecDepth 100000 in
theorem wString_any (B b : Nat) (bs : List Value) (s : ByteArray) (w : World) (h : Lib.IsBuilder 110 5 B b bs w) (hlen : bs.length + s.size ≤ 140737488355328) (hBw : B ≤ w.heap.size) :
    Calls Try.prog 43 #[.pointer (some ⟨b, 0, none⟩), .string s] w fun e w' => e = .returned (.tuple #[.int .i64 s.size, .nilIface]) ∧ (Lib.BuilderAt 110 5 B b (.pointer (some ⟨b, 0, none⟩)) (bs ++ Lib.strCells s) w' ∧ Below B w w' ∧ Only b w w') := by
  obtain ⟨i0, hi, hz0, hz1, hz2⟩ := info_parts (show (Try.prog.info? 5).map (fun i => (i.zero, i.size, i.bytes)) = some (some (.int .u8 0), 1, 1) by kernel_rfl)
  go_enter Try.func43, Try.ntmps43
  go_wp2_with (go_at_call 71; refine (cc_any B b bs _ h).mono ?_)
  rintro e w1 ⟨rfl, h1, hb1, ho1⟩
  obtain ⟨hB, v, hbk, hown, hne⟩ := h1
  have c0 : w1.cell? ⟨b, 0, none⟩ = some (.pointer (some ⟨b, 0, none⟩)) := by rw [Lib.cell_of_heap hbk]; rfl
  have c1 : w1.cell? ⟨b, 1, none⟩ = some v := by rw [Lib.cell_of_heap hbk]; rfl
  go_wp2_with (at_builtin; refine Lib.wpList_append_own_string _ rfl _ _ 108 9 rfl B 5 i0 Try.underlying108 Try.underlying9 hi hz0 hz1 hz2 _ _ _ rfl hown s rfl ?c3 ?c4 ?c5 ?_)
  case c3 => unfold maxLen; omega
  case c4 => omega
  case c5 => have := hb1.size; omega
  intro v' w2 hown' hgrow _
  have hlt : b < w1.heap.size := by
    rcases Nat.lt_or_ge b w1.heap.size with h' | h'
    · exact h'
    · simp [Array.getElem?_eq_none h'] at hbk
  have hb2 : w2.heap[b]? = some (.cells #[.pointer (some ⟨b, 0, none⟩), v] 110 (0, 0)) := by
    rw [hgrow.block b hlt (fun e => hne e.symm)]
    exact hbk
  have d0 : w2.cell? ⟨b, 0, none⟩ = some (.pointer (some ⟨b, 0, none⟩)) := by rw [Lib.cell_of_heap hb2]; rfl
  have d1 : w2.cell? ⟨b, 1, none⟩ = some v := by rw [Lib.cell_of_heap hb2]; rfl
  have f1 : w2.frozen? ⟨b, 1, none⟩ = false := Lib.frozen_of_heap hb2 1
  obtain ⟨ao, n', cap, rfl⟩ : ∃ ao n' cap, v' = .slice ao n' cap := by
    rcases hown'.2 with ⟨hv, _⟩ | ⟨g, cap, cur, hv, _⟩
    · exact ⟨_, _, _, hv⟩
    · exact ⟨_, _, _, hv⟩
  go_wp2
  go_ret2
  refine ⟨rfl, ?_, ?_, ?_⟩
  · exact Lib.BuilderAt.put (T := 110) (e := 5) hB hb2 (bs' := bs ++ Lib.strCells s) (by simpa [Lib.strCells_length] using hown') (by decide)
  · exact (hb1.grown hgrow (by have := hb1.size; omega) (fun k hk => (hown.lt k hk).1)).setCell (p := ⟨b, 1, none⟩) hB _
  · exact (ho1.grown hown hgrow).set 1 _
/-- what walking hands its pieces to -/
theorem tell_any (B b : Nat) (bs : List Value) (s : ByteArray) (w : World) (h : Lib.IsBuilder 110 5 B b bs w) (hlen : bs.length + s.size ≤ 140737488355328) (hBw : B ≤ w.heap.size) :
    Calls Try.prog 69 #[.string s, .pointer (some ⟨b, 0, none⟩)] w fun e w' => e = .returned (.tuple #[]) ∧ (Lib.BuilderAt 110 5 B b (.pointer (some ⟨b, 0, none⟩)) (bs ++ Lib.strCells s) w' ∧ Below B w w' ∧ Only b w w') := by
  go_enter Try.func69, Try.ntmps69
  go_wp2_with (go_at_call 43; refine (wString_any B b bs s w h hlen hBw).mono ?_; rintro e w1 ⟨rfl, h1⟩)
  go_end0
  exact ⟨rfl, h1⟩
end Go.Proofs.Ytgaginegcjpddaa
/- The program's show: a form, and all below it, as text. -/
namespace Go.Proofs.Ytgaginegcjpddaa
open Go.RowKit
/-- one behind the other, a space between -/
def spacedT (g : Int → List UInt8) : List Int → List UInt8
  | [] => []
  | [k] => g k
  | k :: j :: r => g k ++ 32 :: spacedT g (j :: r)
/-- a form as text -/
def textS (l : List Form) : Nat → Int → List UInt8
  | 0, _ => []
  | f + 1, n => if (fm l n).kind = 4 then (digs (fm l n).num).data.toList else if (fm l n).kind = 3 then (fm l n).text.data.toList
    else 40 :: (spacedT (textS l f) (fm l n).kids ++ [41])
/-- what showing asks of forms -/
structure ShowOk (l : List Form) : Prop where
  wf : WF l
  len : l.length ≤ 400
  kids : ∀ k, (fm l k).kids.length ≤ 400
  kind : ∀ n, n < l.length → (nth l n).kind = 1 ∨ (nth l n).kind = 3 ∨ (nth l n).kind = 4
  leaf : ∀ n, n < l.length → (nth l n).kind ≠ 1 → (nth l n).kids = []
  num : ∀ n, n < l.length → InW (nth l n).num
  text : ∀ n, n < l.length → (nth l n).text.size ≤ 20
/-- what comes behind the first i -/
def moreT (g : Int → List UInt8) (i : Nat) (ks : List Int) : List UInt8 := if i = 0 then spacedT g ks else ks.flatMap fun k => 32 :: g k
theorem spacedT_cons (g : Int → List UInt8) (k : Int) (r : List Int) : spacedT g (k :: r) = g k ++ r.flatMap fun k => 32 :: g k := by
  induction r generalizing k with
  | nil => simp [spacedT]
  | cons j r ih => simp [spacedT, ih]
theorem moreT_cons (g : Int → List UInt8) (i : Nat) (k : Int) (r : List Int) : moreT g i (k :: r) = (if i = 0 then [] else [32]) ++ (g k ++ moreT g (i + 1) r) := by
  unfold moreT
  by_cases h : i = 0
  · simp [h, spacedT_cons]
  · simp [h]
theorem digs_len (a : Int) (h : InW a) : (digs a).data.toList.length ≤ 21 := by
  simpa [digs] using Lib.itoa_length_le a h.1 h.2
theorem textS_len {l : List Form} (h : ShowOk l) : ∀ f n, Kin l f n → (textS l f n).length + 1 ≤ 30 * cntE l f n
  | 0, n, hn => by obtain ⟨k, h1, h2, h3⟩ := hn; omega
  | f + 1, n, hn => by
    obtain ⟨k, rfl, hk, hf⟩ := hn
    have hc : cntE l (f + 1) (k : Int) = 1 + cntL l f (fm l (k : Int)).kids := rfl
    rw [hc]
    unfold textS
    split
    · have := digs_len (fm l (k : Int)).num (by rw [fm_nat]; exact h.num k hk); omega
    · split
      · have := h.text k hk
        rw [fm_nat, sz]; omega
      · have hb : ∀ ks : List Int, (∀ j ∈ ks, Kin l f j) → (spacedT (textS l f) ks).length ≤ 30 * cntL l f ks := by
          intro ks
          induction ks with
          | nil => intro _; simp [spacedT]
          | cons a r ih =>
            intro hks
            have h1 := textS_len h f a (hks a (by simp))
            have h2 := ih fun j hj => hks j (by simp [hj])
            rw [cntL_cons]
            cases r with
            | nil => simp [spacedT]; omega
            | cons b r => simp only [spacedT, List.length_append, List.length_cons]; omega
        have := hb (fm l (k : Int)).kids (kin_tail h.wf ⟨k, rfl, hk, hf⟩)
        simp only [List.length_cons, List.length_append, List.length_nil]
        omega
/-- walking, in memory -/
structure SX (w : World) (B lo xb bb : Nat) (l : List Form) (bs : List UInt8) (left : Nat) : Prop where
  blk : ∃ fv, w.heap[xb]? = some (.cells #[fv, .int .i64 (left : Int), .func (.func 69) #[] #[.pointer (some ⟨bb, 0, none⟩)]] 155 (0, 0)) ∧ Forms w (fun b => b < lo) fv l
  bld : Lib.IsBuilder 110 5 B bb (Lib.byteCells bs) w
  lo : lo ≤ B
  bx : B ≤ xb
  ne : xb ≠ bb
  many : left ≤ 400
theorem bld_keep {B bb : Nat} {p : Value} {bs : List Value} {w w' : World} (h : Lib.BuilderAt 110 5 B bb p bs w) (t : Nat) (ht : ∀ cur fr, w.heap[t]? ≠ some (.cells cur 5 fr)) (hb : t ≠ bb) (hk : ∀ k o, w.heap[k]? = some o → k ≠ t → w'.heap[k]? = some o) :
    Lib.BuilderAt 110 5 B bb p bs w' := by
  obtain ⟨hB, v, hh, hown, hne⟩ := h
  refine ⟨hB, v, hk _ _ hh (fun e => hb e.symm), ⟨hown.1, ?_⟩, hne⟩
  rcases hown.2 with h1 | ⟨g, cap, cur, h1, h2, h3, h4⟩
  · exact .inl h1
  · exact .inr ⟨g, cap, cur, h1, h2, hk _ _ h3 (fun e => ht _ _ (e ▸ h3)), h4⟩
theorem SX.keep {w w' : World} {B lo xb bb : Nat} {l : List Form} {bs : List UInt8} {left : Nat} (h : SX w B lo xb bb l bs left) (t : Nat) (ht : ∀ cur fr, w.heap[t]? ≠ some (.cells cur 5 fr)) (hx : t ≠ xb) (hb : t ≠ bb) (hlo : lo ≤ t)
    (hk : ∀ k o, w.heap[k]? = some o → k ≠ t → w'.heap[k]? = some o) : SX w' B lo xb bb l bs left := by
  obtain ⟨fv, h1, h2⟩ := h.blk
  refine ⟨⟨fv, hk _ _ h1 (fun e => hx e.symm), h2.imp0 fun b hb hlt => ⟨hb, ?_⟩⟩, ?_, h.lo, h.bx, h.ne, h.many⟩
  · rw [hk b w.heap[b] (Array.getElem?_eq_getElem hlt) (by omega), Array.getElem?_eq_getElem hlt]
  · rcases h.bld with h3 | h3
    · exact .inl (bld_keep h3 t ht hb hk)
    · exact .inr (bld_keep h3 t ht hb hk)
theorem SX.sizes {w : World} {B lo xb bb : Nat} {l : List Form} {bs : List UInt8} {left : Nat} (h : SX w B lo xb bb l bs left) : xb < w.heap.size ∧ bb < w.heap.size ∧ B ≤ bb := by
  obtain ⟨fv, h1, h2⟩ := h.blk
  refine ⟨blk_lt h1, ?_, ?_⟩
  · rcases h.bld with h3 | h3 <;> exact h3.lt
  · rcases h.bld with h3 | h3 <;> exact h3.1
theorem SX.below {w w' : World} {B lo xb bb : Nat} {l : List Form} {bs : List UInt8} {left : Nat} (h : SX w B lo xb bb l bs left) (hb : Below w.heap.size w w') : SX w' B lo xb bb l bs left := by
  have hs := h.sizes
  have := h.lo
  exact h.keep w.heap.size (fun cur fr e => by have := blk_lt e; omega) (by omega) (by omega) (by omega) fun k o hk _ => (hb.block k (blk_lt hk)).trans hk
theorem SX.set {w : World} {B lo xb bb : Nat} {l : List Form} {bs : List UInt8} {left : Nat} (h : SX w B lo xb bb l bs left) {t : Nat} {cs : Array Value} {fr : Nat × Nat} (ht : w.heap[t]? = some (.cells cs 93 fr)) (hx : t ≠ xb) (hb : t ≠ bb) (hlo : lo ≤ t) (j : Nat) (v : Value) :
    SX (w.setCell ⟨t, j, none⟩ v) B lo xb bb l bs left :=
  h.keep t (fun cur fr' e => by rw [ht] at e; cases e) hx hb hlo fun k o hk hne => (Below.heap_setCell w ⟨t, j, none⟩ v k hne).trans hk
/-- one form less is left -/
theorem SX.less {w : World} {B lo xb bb : Nat} {l : List Form} {bs : List UInt8} {left : Nat} (h : SX w B lo xb bb l bs (left + 1)) : SX (w.setCell ⟨xb, 1, none⟩ (.int .i64 (left : Int))) B lo xb bb l bs left := by
  obtain ⟨fv, h1, h2⟩ := h.blk
  have hk : ∀ k o, w.heap[k]? = some o → k ≠ xb → (w.setCell ⟨xb, 1, none⟩ (.int .i64 (left : Int))).heap[k]? = some o := fun k o hk hne => (Below.heap_setCell w ⟨xb, 1, none⟩ _ k hne).trans hk
  have hlo := h.lo; have hbx := h.bx
  refine ⟨⟨fv, by rw [blk_set h1]; rfl, h2.imp0 fun b hb hlt => ⟨hb, Below.heap_setCell w ⟨xb, 1, none⟩ _ b (show b ≠ xb by omega)⟩⟩, ?_, h.lo, h.bx, h.ne, by have := h.many; omega⟩
  · rcases h.bld with h3 | h3
    · exact .inl (bld_keep h3 xb (fun cur fr e => by rw [h1] at e; cases e) h.ne hk)
    · exact .inr (bld_keep h3 xb (fun cur fr e => by rw [h1] at e; cases e) h.ne hk)
theorem SX.tell {w : World} {B lo xb bb : Nat} {l : List Form} {bs : List UInt8} {left : Nat} (h : SX w B lo xb bb l bs left) (s : ByteArray) (hl : bs.length + s.size ≤ 100000) :
    Calls Try.prog 69 #[.string s, .pointer (some ⟨bb, 0, none⟩)] w fun e w' => e = .returned (.tuple #[]) ∧ SX w' B lo xb bb l (bs ++ s.data.toList) left ∧ Below B w w' ∧ Only bb w w' := by
  obtain ⟨fv, hb, hf⟩ := h.blk
  have hlt := blk_lt hb
  have hbx := h.bx
  refine (tell_any B bb (Lib.byteCells bs) s w h.bld (by simp [Lib.byteCells]; omega) (by omega)).mono ?_
  rintro e w' ⟨rfl, h1, h2, h3⟩
  refine ⟨rfl, ⟨⟨fv, h3 xb _ h.ne hb (fun cur fr e => by cases e), hf.imp0 fun b hb _ => ⟨hb, h2.block b (by have := h.lo; omega)⟩⟩, .inr ?_, h.lo, h.bx, h.ne, h.many⟩, h2, h3⟩
  have : Lib.byteCells (bs ++ s.data.toList) = Lib.byteCells bs ++ Lib.strCells s := by simp [Lib.byteCells, Lib.strCells]
  rw [this]; exact h1
theorem SX.cells {w : World} {B lo xb bb : Nat} {l : List Form} {bs : List UInt8} {left : Nat} (h : SX w B lo xb bb l bs left) :
    ∃ AF cF, w.cell? ⟨xb, 0, none⟩ = some (.slice AF l.length cF) ∧ w.cell? ⟨xb, 1, none⟩ = some (.int .i64 (left : Int)) ∧ w.cell? ⟨xb, 2, none⟩ = some (.func (.func 69) #[] #[.pointer (some ⟨bb, 0, none⟩)]) ∧ (∀ j, w.frozen? ⟨xb, j, none⟩ = false) ∧ Forms w (fun b => b < lo) (.slice AF l.length cF) l := by
  obtain ⟨fv, h1, h2⟩ := h.blk
  obtain ⟨AF, cF, rfl, _⟩ := h2.slice
  exact ⟨AF, cF, blk_cell h1 0, blk_cell h1 1, blk_cell h1 2, blk_free h1, h2⟩
end Go.Proofs.Ytgaginegcjpddaa
/- The program's show: a bracket; a form, and all below it. -/
namespace Go.Proofs.Ytgaginegcjpddaa
open Go.RowKit
def OneP (w : World) (B lo xb bb : Nat) (l : List Form) (bs : List UInt8) (left : Nat) (e : Ending) (w' : World) : Prop :=
  e = .returned (.bool true) ∧ SX w' B lo xb bb l bs left ∧ Below B w w'
/-- the walk through one form, at a fuel -/
def OneC (l : List Form) (f : Nat) : Prop := ∀ (n : Nat) (w : World) (B lo xb bb : Nat) (bs : List UInt8) (left : Nat), n < l.length → (l.length : Int) - n < f → SX w B lo xb bb l bs left → cntE l f n ≤ left → bs.length + 30 * cntE l f n ≤ 90000 →
  Calls Try.prog 70 #[.pointer (some ⟨xb, 0, none⟩), .int .i64 (n : Int)] w (OneP w B lo xb bb l (bs ++ textS l f n) (left - cntE l f n))
set_option maxHeartbeats 3200000 in
set_option maxRecDepth 100000 in
theorem bracket_any (l : List Form) (hs : ShowOk l) (f : Nat) (ih : OneC l f) (n : Nat) (hn : n < l.length) (kids : List Int) (hkk : kids = (fm l n).kids) (hkf : ∀ k ∈ kids, Kin l f k) (kv : Value) (w : World) (B lo xb bb : Nat) (bs : List UInt8) (left : Nat)
    (hk : Ints w (fun b => b < lo) kv kids) (h : SX w B lo xb bb l bs left) (hc : cntL l f kids ≤ left) (hb : bs.length + 30 * cntL l f kids ≤ 89990) :
    Calls Try.prog 88 #[.pointer (some ⟨xb, 0, none⟩), .int .i64 (n : Int), kv] w (OneP w B lo xb bb l (bs ++ 40 :: (spacedT (textS l f) kids ++ [41])) (left - cntL l f kids)) := by
  obtain ⟨A, c, rfl, hle, hcap, _⟩ := hk.out
  obtain ⟨fv, hx, _⟩ := h.blk
  have x2 := blk_cell hx 2
  have H := hid h; have HK := hid hk; have HKF := hid hkf; have HKK := hid hkk
  clear hk h hkf hkk hx
  go_enter Try.func88, Try.ntmps88
  go_wp2_with fail
  refine (H.out.tell ⟨#[40]⟩ (by show bs.length + 1 ≤ 100000; omega)).mono ?_
  rintro e w2 ⟨rfl, h2, hb2, _⟩
  have HS2 := hid h2; have HB2 := hid hb2
  clear x2 h2 hb2
  go_wp2_with fail
  go_loopw [7, 8, 16] (fun s7 s8 s16 wr => ∃ (i left' : Nat) (bs' : List UInt8), s16 = .int .i64 (i : Int) ∧ i ≤ kids.length ∧ Hid (SX wr B lo xb bb l bs' left') ∧ Hid (Below B w wr) ∧ Hid (bs' ++ moreT (textS l f) i (kids.drop i) = bs ++ 40 :: spacedT (textS l f) kids) ∧
    Hid (left' + cntL l f kids = left + cntL l f (kids.drop i)) ∧ Hid (bs'.length + 30 * cntL l f (kids.drop i) ≤ bs.length + 1 + 30 * cntL l f kids)) (fun s7 s8 s16 wr => kids.length - cnt s16)
  case atStart => exact ⟨0, left, _, rfl, Nat.zero_le _, HS2, HB2, hid (by simp [moreT]), hid (by simp), hid (by simp)⟩
  case round =>
    obtain ⟨i, left', bs', rfl, hi, hS, hB, hT, hL, hN⟩ := hrel
    by_cases hlt : i < kids.length
    · obtain ⟨kb, ko, kc, he, _, _, hkD, hkb, hc0⟩ := HK.out.at_ i hlt
      simp only [Value.slice.injEq] at he
      obtain ⟨rfl, _, rfl⟩ := he
      have hlo := hS.out.lo
      have hcr : wr.cell? ⟨kb, ko + i, none⟩ = some (.int .i64 (nth kids i)) := (World.cell?_of_block (a := ⟨kb, ko + i, none⟩) (hB.out.block kb (by omega))).trans hc0
      obtain ⟨kn, hkn, hknl, hknf⟩ := HKF.out _ (nth_mem hlt)
      have hgt : (n : Int) < (kn : Int) := by
        have := hs.wf n hn (nth kids i) (by have h9 := nth_mem hlt; have h8 := HKK.out; rw [fm_nat] at h8; rw [← h8]; exact h9)
        omega
      have hdr : kids.drop i = (kn : Int) :: kids.drop (i + 1) := by rw [drop_nth hlt, hkn]
      rw [hkn] at hcr
      have hT2 := hT.out; have hL2 := hL.out; have hN2 := hN.out
      rw [hdr] at hT2 hL2 hN2
      rw [cntL_cons] at hL2 hN2
      rw [moreT_cons] at hT2
      have htl := textS_len hs f (kn : Int) ⟨kn, rfl, hknl, hknf⟩
      have hsub := cntL_drop l f kids i
      rw [hdr, cntL_cons] at hsub
      have hnle : ¬ ((kn : Int) ≤ (n : Int)) := by omega
      have hkl : ¬ ((l.length : Int) ≤ (kn : Int)) := by omega
      have hce : cntE l f (kn : Int) ≤ left' := by omega
      have hbe : bs'.length + 1 + 30 * cntE l f (kn : Int) ≤ 90000 := by omega
      obtain ⟨AF, cF, x0, _, x2, _, _⟩ := hS.out.cells
      clear hT hL hN hdr hc0 hkn hsub
      by_cases h0 : i = 0
      · subst h0
        rw [Nat.add_zero] at hcr
        go_wp2_with (go_at_call 70; refine (ih kn wr B lo xb bb bs' left' hknl hknf hS.out hce (by omega)).mono ?_; rintro e w3 ⟨rfl, h3, hb3⟩)
        go_roundw
        case rel =>
          refine ⟨1, _, _, by simp, by omega, hid h3, hid (hB.out.trans hb3), hid ?_, hid (by simp only [Nat.zero_add] at hL2; omega), hid ?_⟩
          · rw [← hT2]; simp
          · simp only [List.length_append]; simp only [Nat.zero_add] at hN2; omega
        case measure => simp only [cnt]; omega
      · have hi0 : (0 : Int) < (i : Int) := by omega
        go_wp2_with (first | (go_at_call 70; refine (ih kn _ B lo xb bb _ left' hknl hknf H3.out hce (by simp; omega)).mono ?_; rintro e w4 ⟨rfl, h4, hb4⟩) | (go_at_call 69; refine (hS.out.tell ⟨#[32]⟩ (by show bs'.length + 1 ≤ 100000; omega)).mono ?_; rintro e w3 ⟨rfl, h3, hb3, _⟩; clear x0 x2; obtain ⟨AF, cF, x0, _, x2, _, _⟩ := h3.cells; have H3 := hid h3; have HB3 := hid hb3; clear h3 hb3))
        go_roundw
        case rel =>
          refine ⟨i + 1, _, _, by simp, by omega, hid h4, hid (hB.out.trans (HB3.out.trans hb4)), hid ?_, hid (by omega), hid ?_⟩
          · rw [← hT2, if_neg h0]; simp
          · simp only [List.length_append, List.length_cons, List.length_nil]; omega
        case measure => simp only [cnt]; omega
    · have hk' : i = kids.length := by omega
      subst hk'
      have hT2 := hT.out; have hL2 := hL.out; have hN2 := hN.out
      rw [List.drop_length] at hT2 hL2 hN2
      have hmt : moreT (textS l f) kids.length [] = [] := by unfold moreT; split <;> simp [spacedT]
      rw [hmt, List.append_nil] at hT2
      have hc0 : cntL l f [] = 0 := rfl
      rw [hc0] at hL2 hN2
      obtain ⟨AF, cF, x0, _, x2, _, _⟩ := hS.out.cells
      clear hT hL hN
      go_wp2_with (go_at_call 69; refine (hS.out.tell ⟨#[41]⟩ (by show bs'.length + 1 ≤ 100000; omega)).mono ?_; rintro e w3 ⟨rfl, h3, hb3, _⟩)
      go_ret
      refine ⟨rfl, ?_, hB.out.trans hb3⟩
      have e1 : bs ++ 40 :: (spacedT (textS l f) kids ++ [41]) = bs' ++ [41] := by rw [hT2]; simp
      rw [e1, show left - cntL l f kids = left' by omega]
      exact h3
end Go.Proofs.Ytgaginegcjpddaa
/- The program's show: a form, and all below it. -/
namespace Go.Proofs.Ytgaginegcjpddaa
open Go.RowKit
set_option maxHeartbeats 3200000 in
set_option maxRecDepth 100000 in
theorem one_step (l : List Form) (hs : ShowOk l) (f : Nat) (ih : OneC l f) : OneC l (f + 1) := by
  intro n w B lo xb bb bs left hn hf h hc hb
  have hC : cntE l (f + 1) (n : Int) = 1 + cntL l f (fm l (n : Int)).kids := rfl
  rw [hC] at hc hb
  obtain ⟨m, rfl⟩ : ∃ m, left = m + 1 := ⟨left - 1, by omega⟩
  obtain ⟨_, _, _, x1, _, xf, _⟩ := h.cells
  have h1 := h.less
  have hlo := h.lo; have hbx := h.bx; have hsz := h.sizes; have hmm := h.many
  have hB1 : Below B w (w.setCell ⟨xb, 1, none⟩ (.int .i64 (m : Int))) := (Below.refl B w).setCell (p := ⟨xb, 1, none⟩) hbx _
  have hw1 : IntKind.i64.wrap (m : Int) = (m : Int) := i64w (by omega) (by omega)
  have hni : (n : Int) < (l.length : Int) := by omega
  have hT : textS l (f + 1) (n : Int) = if (nth l n).kind = 4 then (digs (nth l n).num).data.toList else if (nth l n).kind = 3 then (nth l n).text.data.toList else 40 :: (spacedT (textS l f) (nth l n).kids ++ [41]) := by rw [textS, fm_nat]
  rw [fm_nat] at hC hc hb
  have HKF := hid (kin_tail hs.wf (show Kin l (f + 1) (n : Int) from ⟨n, rfl, hn, hf⟩))
  rw [fm_nat] at HKF
  have hkd := hs.kind n hn; have hnum := hs.num n hn; have hlf := hs.leaf n hn; have htx := hs.text n hn
  have HH1 := hid h1; have HB1 := hid hB1
  clear h h1 hB1
  go_enter Try.func70, Try.ntmps70
  go_upto_region 4 with fail
  generalize w.setCell ⟨xb, 1, none⟩ (.int .i64 (m : Int)) = w1 at HH1 HB1 ⊢
  obtain ⟨AF, cF, x0, _, x2, _, hfF⟩ := HH1.out.cells
  obtain ⟨fb, fo, fc, hfe, hfl, hfcap, hfb, kv, hkv, hfc⟩ := hfF.at_ (n := n) hn
  simp only [Value.slice.injEq] at hfe
  obtain ⟨rfl, _, rfl⟩ := hfe
  obtain ⟨KA, kc, rfl, hkl, hkc⟩ := hkv.slice
  have c0 := hfc 0 _ rfl; have c1 := hfc 1 _ rfl; have c2 := hfc 2 _ rfl; have c3 := hfc 3 _ rfl; have c4 := hfc 4 _ rfl
  rw [Nat.add_zero] at c0
  have HKV := hid hkv
  obtain ⟨F, hF⟩ : ∃ F, nth l n = F := ⟨_, rfl⟩
  rw [hF] at c0 c1 c2 c3 c4 HKV hkd hnum hlf htx hT hC hc hb HKF
  clear hfF hkv hfc x1 xf
  go_upto_region 5 with fail
  have hs1 := HH1.out.sizes
  have h2 := HH1.out.below ((Below.refl w1.heap.size w1).alloc (Nat.le_refl _) (.cells #[.int .u8 F.kind, .string F.text, .int .i64 F.num, .slice KA F.kids.length kc, .int .i64 F.pos] 93))
  have b2 := new_blk w1 (.cells #[.int .u8 F.kind, .string F.text, .int .i64 F.num, .slice KA F.kids.length kc, .int .i64 F.pos] 93)
  have kv2 := HKV.out.imp (w' := w1.alloc (.cells #[.int .u8 F.kind, .string F.text, .int .i64 F.num, .slice KA F.kids.length kc, .int .i64 F.pos] 93)) (D' := fun b => b < lo) fun b hb hlt => ⟨hb, Below.heap_alloc w1 _ b hlt⟩
  have hB2 := HB1.out.alloc (by omega) (.cells #[.int .u8 F.kind, .string F.text, .int .i64 F.num, .slice KA F.kids.length kc, .int .i64 F.pos] 93)
  generalize w1.alloc (.cells #[.int .u8 F.kind, .string F.text, .int .i64 F.num, .slice KA F.kids.length kc, .int .i64 F.pos] 93) = w2 at h2 b2 kv2 hB2 ⊢
  obtain ⟨tb, htb⟩ : ∃ tb, w1.heap.size = tb := ⟨_, rfl⟩
  rw [htb] at b2 hs1 ⊢
  have HH2 := hid h2; have HB2 := hid hB2; have KV2 := hid kv2; have HT2 := hid b2
  have z := blk_cell b2; have zf := blk_free b2
  have z0 := z 0; have z1 := z 1; have z2 := z 2; have z3 := z 3
  clear z h2 hB2 kv2 b2 x0 x2 c0 c1 c2 c3 c4 HKV htb hfb
  rcases hkd with hk | hk | hk
  · have hT1 := hT
    rw [if_neg (by omega), if_neg (by omega)] at hT1
    rw [hk] at z0
    go_wp2_with (go_at_call 88; refine (bracket_any l hs f ih n hn F.kids (by rw [fm_nat, hF]) HKF.out _ w2 B lo xb bb bs m KV2.out HH2.out (by omega) (by omega)).mono ?_; rintro e w3 ⟨rfl, h3, hb3⟩)
    go_ret
    rw [hT1, hC, show m + 1 - (1 + cntL l f F.kids) = m - cntL l f F.kids by omega]
    exact ⟨rfl, h3, HB2.out.trans hb3⟩
  · have hT1 := hT
    rw [if_neg (by omega), if_pos hk] at hT1
    rw [hk] at z0
    obtain ⟨_, _, _, _, x2, _, _⟩ := HH2.out.cells
    go_upto_region 10 with fail
    have H2D := hid (HH2.out.below (below_drewN (Below.refl w2.heap.size w2) 1))
    have HB2D := hid (below_drewN HB2.out 1)
    (refine wp_still_tail 6 (by kernel_rfl) (by kernel_rfl) ?_; simp only [List.take_succ_cons, List.take_zero, List.drop_succ_cons, List.drop_zero]; (repeat (first | (refine wpStill_skip (by rfl) ?_; simp only [Act.put, List.setIfInBounds_toArray, List.set_cons_succ, List.set_cons_zero]) | still_step | (refine wpStill_step (fun K hK => ?_); simp [go_sem, ↓IntWalk.iteOmega, *]; refine hK _ ?_; clear hK K))); refine wpStill_nil ?_)
    go_wp2_with (go_at_call 69; refine (H2D.out.tell F.text (by omega)).mono ?_; rintro e w3 ⟨rfl, h3, hb3, _⟩)
    go_ret
    rw [hlf (by omega)] at hC
    have hc0 : cntL l f [] = 0 := rfl
    rw [hT1, hC, hc0]
    exact ⟨rfl, h3, HB2D.out.trans hb3⟩
  · have hT1 := hT
    rw [if_pos hk] at hT1
    rw [hk] at z0
    have hdl := digs_len F.num hnum
    go_upto_region 10 with (go_at_call 87; refine (digs_any F.num _ hnum).mono ?_; rintro e w3 ⟨rfl, hb3⟩; have b3 := (hb3.block tb (blk_lt HT2.out)).trans HT2.out; have h3 := HH2.out.below hb3; have HB3 := hid (HB2.out.trans (hb3.mono (by have := HH2.out.sizes; omega))); clear z0 z1 z2 z3 zf; have z1 := blk_cell b3 1; have z2 := blk_cell b3 2; have zf := blk_free b3; have HT3 := hid b3; have HH3 := hid h3; clear b3 h3 hb3)
    have h4 := HH3.out.set HT3.out (by omega) (by omega) (by omega) 1 (.string (digs F.num))
    have b4 := blk_set (j := 1) HT3.out (.string (digs F.num))
    have hB4 := HB3.out.setCell (p := ⟨tb, 1, none⟩) (show B ≤ tb by omega) (.string (digs F.num))
    generalize w3.setCell ⟨tb, 1, none⟩ (.string (digs F.num)) = w4 at h4 b4 hB4 ⊢
    have y1 : w4.cell? ⟨tb, 1, none⟩ = some (.string (digs F.num)) := blk_cell b4 1
    obtain ⟨_, _, _, _, x2, _, _⟩ := h4.cells
    have H4D := hid (h4.below (below_drewN (Below.refl w4.heap.size w4) 1))
    have HB4D := hid (below_drewN hB4 1)
    clear z1 z2 zf HT2 HT3 HH3 b4 h4 hB4
    (refine wp_still_tail 6 (by kernel_rfl) (by kernel_rfl) ?_; simp only [List.take_succ_cons, List.take_zero, List.drop_succ_cons, List.drop_zero]; (repeat (first | (refine wpStill_skip (by rfl) ?_; simp only [Act.put, List.setIfInBounds_toArray, List.set_cons_succ, List.set_cons_zero]) | still_step | (refine wpStill_step (fun K hK => ?_); simp [go_sem, ↓IntWalk.iteOmega, *]; refine hK _ ?_; clear hK K))); refine wpStill_nil ?_)
    go_wp2_with (go_at_call 69; refine (H4D.out.tell (digs F.num) (by rw [sz] at hdl; omega)).mono ?_; rintro e w5 ⟨rfl, h5, hb5, _⟩)
    go_ret
    rw [hlf (by omega)] at hC
    have hc0 : cntL l f [] = 0 := rfl
    rw [hT1, hC, hc0]
    exact ⟨rfl, h5, HB4D.out.trans hb5⟩
theorem one_any (l : List Form) (hs : ShowOk l) : ∀ f, OneC l f
  | 0 => fun n w B lo xb bb bs left hn hf => by omega
  | f + 1 => one_step l hs f (one_any l hs f)
end Go.Proofs.Ytgaginegcjpddaa
/- The program's show: One, Print. -/
namespace Go.Proofs.Ytgaginegcjpddaa
open Go.RowKit
theorem isb_keep {B bb : Nat} {bs : List Value} {w w' : World} (h : Lib.IsBuilder 110 5 B bb bs w) (hk : ∀ (k : Nat) (o : Obj), w.heap[k]? = some o → w'.heap[k]? = some o) : Lib.IsBuilder 110 5 B bb bs w' := by
  have hb : w.heap.size ≠ bb := by rcases h with h | h <;> (have := h.lt; omega)
  have ht : ∀ cur fr, w.heap[w.heap.size]? ≠ some (.cells cur 5 fr) := fun cur fr e => by have := blk_lt e; omega
  rcases h with h | h
  · exact .inl (bld_keep h w.heap.size ht hb fun k o hk' _ => hk k o hk')
  · exact .inr (bld_keep h w.heap.size ht hb fun k o hk' _ => hk k o hk')
theorem isb_below {B bb : Nat} {bs : List Value} {w w' : World} (h : Lib.IsBuilder 110 5 B bb bs w) (hb : Below w.heap.size w w') : Lib.IsBuilder 110 5 B bb bs w' :=
  isb_keep h fun k o hk => (hb.block k (blk_lt hk)).trans hk
set_option maxHeartbeats 3200000 in
set_option maxRecDepth 100000 in
theorem showOne_any (l : List Form) (hs : ShowOk l) (n : Nat) (hn : n < l.length) (hc : cntE l (l.length + 1) (n : Int) ≤ 400) (v : Value) (w : World) (hf : Forms w (fun b => b < w.heap.size) v l) :
    Calls Try.prog 42 #[v, .int .i64 (n : Int)] w fun e w' => e = .returned (.tuple #[.string ⟨(textS l (l.length + 1) (n : Int)).toArray⟩, .int .i64 0]) ∧ Below w.heap.size w w' := by
  have hmf : ∀ (fn : Fn) (first cap : Array Value) (w : World), (Instr.makeFunc fn first cap).run Try.prog w = .ok (.func fn first cap) w := fun _ _ _ _ => rfl
  obtain ⟨A, c, rfl, hle, hcap⟩ := hf.slice
  have hni : ¬ ((n : Int) < 0) := by omega
  have hnl : ¬ ((l.length : Int) ≤ (n : Int)) := by omega
  have HF := hid hf
  clear hf
  go_enter Try.func42, Try.ntmps42
  go_upto_region 5 with fail
  obtain ⟨k, hk⟩ : ∃ k, w.heap.size = k := ⟨_, rfl⟩
  obtain ⟨w1, hw1⟩ : ∃ w1, w.alloc (.cells #[.pointer none, .slice none 0 0] 110) = w1 := ⟨_, rfl⟩
  have z1 : w1.heap.size = k + 1 := by rw [← hw1]; simp [hk]
  have hb1 : Lib.IsBuilder 110 5 k k [] w1 := by rw [← hw1, ← hk]; exact Lib.fresh_isBuilder _ _ w
  have hB1 : Below k w w1 := by rw [← hw1]; exact (Below.refl k w).alloc (by omega) _
  have hf1 : Forms w1 (fun b => b < k) (.slice A l.length c) l := HF.out.imp0 fun b hb hlt => ⟨by omega, hB1.block b (by omega)⟩
  obtain ⟨w2, hw2⟩ : ∃ w2, w1.alloc (.cells #[.slice A l.length c, .int .i64 400, .func (.func 69) #[] #[.pointer (some ⟨k, 0, none⟩)]] 155) = w2 := ⟨_, rfl⟩
  have hx2 : SX w2 k k (k + 1) k l [] 400 := by
    rw [← hw2]
    have hBa := (Below.refl w1.heap.size w1).alloc (Nat.le_refl _) (.cells #[.slice A l.length c, .int .i64 400, .func (.func 69) #[] #[.pointer (some ⟨k, 0, none⟩)]] 155)
    exact ⟨⟨_, by rw [← z1]; exact new_blk w1 _, hf1.imp0 fun b hb hlt => ⟨hb, hBa.block b hlt⟩⟩, isb_below hb1 hBa, Nat.le_refl _, by omega, by omega, Nat.le_refl _⟩
  have hB2 : Below k w w2 := by rw [← hw2]; exact hB1.alloc (by omega) _
  rw [hk, hw1, hw2]
  have HX2 := hid hx2; have HB2 := hid hB2
  clear hw1 hw2 hb1 hB1 hf1 hx2 hB2 hmf
  go_wp2_with (first | (go_at_call 70; refine (one_any l hs (l.length + 1) n w2 k k (k + 1) k [] 400 hn (by omega) HX2.out hc (by simp; omega)).mono ?_; rintro e w3 ⟨rfl, h3, hb3⟩; have H3 := hid h3; have HB3 := hid hb3; clear h3 hb3) | (go_at_call 45; refine (Try.Builder_String_any k k ([] ++ textS l (l.length + 1) (n : Int)) w3 H3.out.bld (by have := H3.out.sizes; omega)).mono ?_; rintro e w4 ⟨rfl, hb4⟩))
  refine bodyPost_ret (results_tmp2 rfl _ _ _) rfl ?_
  exact ⟨rfl, by rw [hk]; exact HB2.out.trans (HB3.out.trans hb4)⟩
/-- forms as text -/
def printS (l : List Form) (top : List Int) : List UInt8 := top.flatMap fun k => textS l (l.length + 1) k ++ [10]
set_option maxHeartbeats 3200000 in
set_option maxRecDepth 100000 in
theorem print_any (l : List Form) (top : List Int) (hs : ShowOk l) (hr : rightS l top = true) (hts : ∀ f ∈ l, f.text.size ≤ 9223372036854775807) (v tv : Value) (w : World) (hf : Forms w (fun b => b < w.heap.size) v l) (ht : Ints w (fun b => b < w.heap.size) tv top) :
    Calls Try.prog 20 #[v, tv] w fun e w' => e = .returned (.tuple #[.string ⟨(printS l top).toArray⟩, .int .i64 0]) ∧ Below w.heap.size w w' := by
  obtain ⟨B, d, rfl, hle2, hcap2, _⟩ := ht.out
  have HF := hid hf; have HT := hid ht; have HR := hid hr; have HRF := hid (right_facts hr); have HTS := hid hts
  clear hf ht hr hts
  go_enter Try.func20, Try.ntmps20
  go_upto_region 4 with (go_at_call 16; refine (right_any l top _ _ _ _ HF.out HT.out HTS.out).mono ?_; rintro e w1 ⟨rfl, hb1⟩; rw [HR.out]; have HB1 := hid hb1; clear hb1)
  obtain ⟨k, hk⟩ : ∃ k, w1.heap.size = k := ⟨_, rfl⟩
  obtain ⟨w2, hw2⟩ : ∃ w2, w1.alloc (.cells #[.pointer none, .slice none 0 0] 110) = w2 := ⟨_, rfl⟩
  have hwk : w.heap.size ≤ k := by rw [← hk]; exact HB1.out.size
  have hb2 : Lib.IsBuilder 110 5 k k (Lib.byteCells []) w2 := by rw [← hw2, ← hk]; exact Lib.fresh_isBuilder _ _ w1
  have hB2 : Below w.heap.size w w2 := by rw [← hw2]; exact HB1.out.alloc (by omega) _
  rw [hk, hw2]
  have HB2 := hid hB2; have HS2 := hid hb2
  clear hw2 hk hb2 hB2
  go_wp2_with fail
  go_loopw [8, 9, 10, 17] (fun s8 s9 s10 s17 wr => ∃ (i : Nat) (bs : List UInt8), s17 = .int .i64 (i : Int) ∧ i ≤ top.length ∧ Hid (Lib.IsBuilder 110 5 k k (Lib.byteCells bs) wr) ∧ Hid (Below k w2 wr) ∧ Hid (bs ++ (top.drop i).flatMap (fun k => textS l (l.length + 1) k ++ [10]) = printS l top) ∧
    Hid (bs.length + 30 * cntL l (l.length + 1) (top.drop i) ≤ 12000)) (fun s8 s9 s10 s17 wr => top.length - cnt s17)
  case atStart => exact ⟨0, [], rfl, Nat.zero_le _, HS2, hid (Below.refl _ _), hid (by simp [printS]), hid (by have := HRF.out.cnt (l.length + 1); simp; omega)⟩
  case round =>
    obtain ⟨i, bs, rfl, hi, hS, hB, hT, hN⟩ := hrel
    by_cases hlt : i < top.length
    · obtain ⟨kb, ko, kc, he, _, _, hkD, hkb, hc0⟩ := HT.out.at_ i hlt
      simp only [Value.slice.injEq] at he
      obtain ⟨rfl, _, rfl⟩ := he
      have hBr : Below w.heap.size w wr := HB2.out.trans (hB.out.mono hwk)
      have hcr : wr.cell? ⟨kb, ko + i, none⟩ = some (.int .i64 (nth top i)) := (World.cell?_of_block (a := ⟨kb, ko + i, none⟩) (hBr.block kb hkb)).trans hc0
      obtain ⟨kn, hkn, hknl, hknf⟩ := HRF.out.topIn _ (nth_mem hlt)
      have hdr : top.drop i = (kn : Int) :: top.drop (i + 1) := by rw [drop_nth hlt, hkn]
      rw [hkn] at hcr
      have hT2 := hT.out; have hN2 := hN.out
      rw [hdr] at hT2 hN2
      rw [cntL_cons] at hN2
      simp only [List.flatMap_cons] at hT2
      have htl := textS_len hs (l.length + 1) (kn : Int) ⟨kn, rfl, hknl, hknf⟩
      have hsz : k < wr.heap.size := by rcases hS.out with h | h <;> exact h.lt
      have hfr : Forms wr (fun b => b < wr.heap.size) v l := HF.out.imp0 fun b hb hlt => ⟨by have := hBr.size; omega, hBr.block b hlt⟩
      have hcc : cntE l (l.length + 1) (kn : Int) ≤ 400 := by have := HRF.out.cnt (l.length + 1); have h2 := cntL_drop l (l.length + 1) top i; rw [hdr, cntL_cons] at h2; omega
      obtain ⟨T, hTT⟩ : ∃ T, textS l (l.length + 1) (kn : Int) = T := ⟨_, rfl⟩
      rw [hTT] at hT2 htl
      have HT0 := hid hT2; have HFR := hid hfr; have HTT := hid hTT
      clear hT hN hdr hc0 hkn hT2 hfr hTT
      go_wp2_with (first | (go_at_call 42; refine (showOne_any l hs kn hknl hcc v wr HFR.out).mono ?_; rintro e w3 ⟨rfl, hb3⟩; rw [HTT.out]; have hS3 := isb_below hS.out hb3; have H3 := hid hS3; have HB3 := hid hb3; have hz3 := hb3.size; clear hS3 hb3) | (go_at_call 43; refine (wString_any k k (Lib.byteCells bs) ⟨T.toArray⟩ w3 H3.out (by rw [Lib.byteCells_length]; show bs.length + T.toArray.size ≤ _; simp; omega) (by omega)).mono ?_; rintro e w4 ⟨rfl, h4, hb4, _⟩; have H4 := hid h4; have HB4 := hid hb4; have hz4 := hb4.size; clear h4 hb4) | (go_at_call 44; refine (wByte_any k k _ 10 w4 (.inr H4.out) (by simp only [List.length_append, Lib.byteCells_length, Lib.strCells_length]; show bs.length + T.toArray.size + 1 ≤ _; simp; omega) (by omega)).mono ?_; rintro e w5 ⟨rfl, h5, hb5, _⟩))
      go_roundw
      case rel =>
        refine ⟨i + 1, bs ++ (T ++ [10]), by simp, by omega, hid (.inr ?_), hid (hB.out.trans ((HB3.out.mono (by omega)).trans (HB4.out.trans hb5))), hid ?_, hid (by simp; omega)⟩
        · have : Lib.byteCells (bs ++ (T ++ [10])) = Lib.byteCells bs ++ Lib.strCells ⟨T.toArray⟩ ++ [.int .u8 10] := by simp [Lib.byteCells, Lib.strCells]
          rw [this]; exact h5
        · rw [← HT0.out]; simp
      case measure => simp only [cnt]; omega
    · have hk' : i = top.length := by omega
      subst hk'
      have hT2 := hT.out
      rw [List.drop_length] at hT2
      simp only [List.flatMap_nil, List.append_nil] at hT2
      have hsz : k < wr.heap.size := by rcases hS.out with h | h <;> exact h.lt
      go_wp2_with (go_at_call 45; refine (Try.Builder_String_any k k bs wr hS.out (by omega)).mono ?_; rintro e w4 ⟨rfl, hb4⟩)
      refine bodyPost_ret (results_tmp2 rfl _ _ _) rfl ?_
      exact ⟨rfl, HB2.out.trans ((hB.out.trans hb4).mono hwk)⟩
end Go.Proofs.Ytgaginegcjpddaa
