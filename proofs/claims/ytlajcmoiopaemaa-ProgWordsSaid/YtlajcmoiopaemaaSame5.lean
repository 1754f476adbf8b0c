/- Statements that are the same: the program's. Printed by gen_same3.py. -/
import Derived.Test.YtlajcmoiopaemaaSame4
import Derived.Deep.Cut
set_option linter.unusedVariables false
set_option linter.unusedSimpArgs false
namespace Go.Proofs.Ytlajcmoiopaemaa
open Go.RowKit
theorem cell_keep {w1 w2 : World} (h : Below w1.heap.size w1 w2) {p : Addr} {v : Value} (hc : w1.cell? p = some v) : w2.cell? p = some v := (h.cell (World.block_lt_of_cell? w1 p hc)).trans hc
set_option maxHeartbeats 3200000 in
set_option maxRecDepth 100000 in
theorem sameStmt_acts (xkind xop xe xcond : Int) (xname : ByteArray) (xacts yacts : List ActM) (xthn ythn xels yels : List Int) (Aacts Bacts : Option Addr) (cacts dacts : Nat) (Athn Bthn : Option Addr) (cthn dthn : Nat) (Aels Bels : Option Addr) (cels dels : Nat) (w : World) (Hacts : Hid (ActsR w (.slice Aacts xacts.length cacts) xacts)) (Gacts : Hid (ActsR w (.slice Bacts yacts.length dacts) yacts)) (Hthn : Hid (IntsR w (.slice Athn xthn.length cthn) xthn)) (Gthn : Hid (IntsR w (.slice Bthn ythn.length dthn) ythn)) (Hels : Hid (IntsR w (.slice Aels xels.length cels) xels)) (Gels : Hid (IntsR w (.slice Bels yels.length dels) yels)) (NA : Hid (¬ xacts = yacts)) :
    Calls Try.prog 19 #[.agg #[.int .u8 xkind, .string xname, .int .u8 xop, .int .i64 xe, .int .i64 xcond, .slice Aacts xacts.length cacts, .slice Athn xthn.length cthn, .slice Aels xels.length cels], .agg #[.int .u8 xkind, .string xname, .int .u8 xop, .int .i64 xe, .int .i64 xcond, .slice Bacts yacts.length dacts, .slice Bthn ythn.length dthn, .slice Bels yels.length dels]] w fun e w' => Says (EqP (⟨xkind, xname, xop, xe, xcond, xacts, xthn, xels⟩ : StmtM) ⟨xkind, xname, xop, xe, xcond, yacts, ythn, yels⟩) e ∧ Below w.heap.size w w' := by
  have HB := hid (((Below.refl w.heap.size w).alloc (Nat.le_refl _) (.cells #[.int .u8 xkind, .string xname, .int .u8 xop, .int .i64 xe, .int .i64 xcond, .slice Aacts xacts.length cacts, .slice Athn xthn.length cthn, .slice Aels xels.length cels] 61)).alloc (by simp) (.cells #[.int .u8 xkind, .string xname, .int .u8 xop, .int .i64 xe, .int .i64 xcond, .slice Bacts yacts.length dacts, .slice Bthn ythn.length dthn, .slice Bels yels.length dels] 61))
  have es : (w.alloc (.cells #[.int .u8 xkind, .string xname, .int .u8 xop, .int .i64 xe, .int .i64 xcond, .slice Aacts xacts.length cacts, .slice Athn xthn.length cthn, .slice Aels xels.length cels] 61)).heap.size = w.heap.size + 1 := by rw [World.size_alloc]
  have hx := old_blk (new_blk w (.cells #[.int .u8 xkind, .string xname, .int .u8 xop, .int .i64 xe, .int .i64 xcond, .slice Aacts xacts.length cacts, .slice Athn xthn.length cthn, .slice Aels xels.length cels] 61)) (.cells #[.int .u8 xkind, .string xname, .int .u8 xop, .int .i64 xe, .int .i64 xcond, .slice Bacts yacts.length dacts, .slice Bthn ythn.length dthn, .slice Bels yels.length dels] 61)
  have hy := new_blk (w.alloc (.cells #[.int .u8 xkind, .string xname, .int .u8 xop, .int .i64 xe, .int .i64 xcond, .slice Aacts xacts.length cacts, .slice Athn xthn.length cthn, .slice Aels xels.length cels] 61)) (.cells #[.int .u8 xkind, .string xname, .int .u8 xop, .int .i64 xe, .int .i64 xcond, .slice Bacts yacts.length dacts, .slice Bthn ythn.length dthn, .slice Bels yels.length dels] 61)
  rw [es] at hy
  have HX6 := hid (show ((w.alloc (.cells #[.int .u8 xkind, .string xname, .int .u8 xop, .int .i64 xe, .int .i64 xcond, .slice Aacts xacts.length cacts, .slice Athn xthn.length cthn, .slice Aels xels.length cels] 61)).alloc (.cells #[.int .u8 xkind, .string xname, .int .u8 xop, .int .i64 xe, .int .i64 xcond, .slice Bacts yacts.length dacts, .slice Bthn ythn.length dthn, .slice Bels yels.length dels] 61)).cell? ⟨w.heap.size, 6, none⟩ = some (.slice Athn xthn.length cthn) by rw [blk_cell hx]; rfl)
  have HY6 := hid (show ((w.alloc (.cells #[.int .u8 xkind, .string xname, .int .u8 xop, .int .i64 xe, .int .i64 xcond, .slice Aacts xacts.length cacts, .slice Athn xthn.length cthn, .slice Aels xels.length cels] 61)).alloc (.cells #[.int .u8 xkind, .string xname, .int .u8 xop, .int .i64 xe, .int .i64 xcond, .slice Bacts yacts.length dacts, .slice Bthn ythn.length dthn, .slice Bels yels.length dels] 61)).cell? ⟨w.heap.size + 1, 6, none⟩ = some (.slice Bthn ythn.length dthn) by rw [blk_cell hy]; rfl)
  have HX7 := hid (show ((w.alloc (.cells #[.int .u8 xkind, .string xname, .int .u8 xop, .int .i64 xe, .int .i64 xcond, .slice Aacts xacts.length cacts, .slice Athn xthn.length cthn, .slice Aels xels.length cels] 61)).alloc (.cells #[.int .u8 xkind, .string xname, .int .u8 xop, .int .i64 xe, .int .i64 xcond, .slice Bacts yacts.length dacts, .slice Bthn ythn.length dthn, .slice Bels yels.length dels] 61)).cell? ⟨w.heap.size, 7, none⟩ = some (.slice Aels xels.length cels) by rw [blk_cell hx]; rfl)
  have HY7 := hid (show ((w.alloc (.cells #[.int .u8 xkind, .string xname, .int .u8 xop, .int .i64 xe, .int .i64 xcond, .slice Aacts xacts.length cacts, .slice Athn xthn.length cthn, .slice Aels xels.length cels] 61)).alloc (.cells #[.int .u8 xkind, .string xname, .int .u8 xop, .int .i64 xe, .int .i64 xcond, .slice Bacts yacts.length dacts, .slice Bthn ythn.length dthn, .slice Bels yels.length dels] 61)).cell? ⟨w.heap.size + 1, 7, none⟩ = some (.slice Bels yels.length dels) by rw [blk_cell hy]; rfl)
  clear hx hy es
  have HQ := hid (show ¬ EqP (⟨xkind, xname, xop, xe, xcond, xacts, xthn, xels⟩ : StmtM) ⟨xkind, xname, xop, xe, xcond, yacts, ythn, yels⟩ from fun h => NA.out (by cases h; rfl))
  go_enter Try.func19, Try.ntmps19
  go_wp2_with (go_at_call 28; refine (equalActs_any _ _ _ _ _ (by exact Hacts.out.below HB.out) (by exact Gacts.out.below HB.out)).mono ?_; rintro e w2 ⟨⟨r, rfl, hr⟩, hb2⟩; obtain rfl : r = false := (by cases r with | false => rfl | true => exact (NA.out (hr.1 rfl)).elim); have HB2 := hid (HB.out.trans (hb2.mono HB.out.size)); clear hr hb2)
  go_ret
  exact ⟨says_false HQ.out, HB2.out⟩
set_option maxHeartbeats 3200000 in
set_option maxRecDepth 100000 in
theorem sameStmt_thn (xkind xop xe xcond : Int) (xname : ByteArray) (xacts yacts : List ActM) (xthn ythn xels yels : List Int) (Aacts Bacts : Option Addr) (cacts dacts : Nat) (Athn Bthn : Option Addr) (cthn dthn : Nat) (Aels Bels : Option Addr) (cels dels : Nat) (w : World) (Hacts : Hid (ActsR w (.slice Aacts xacts.length cacts) xacts)) (Gacts : Hid (ActsR w (.slice Bacts yacts.length dacts) yacts)) (Hthn : Hid (IntsR w (.slice Athn xthn.length cthn) xthn)) (Gthn : Hid (IntsR w (.slice Bthn ythn.length dthn) ythn)) (Hels : Hid (IntsR w (.slice Aels xels.length cels) xels)) (Gels : Hid (IntsR w (.slice Bels yels.length dels) yels)) (NA : Hid (xacts = yacts)) (NT : Hid (¬ xthn = ythn)) :
    Calls Try.prog 19 #[.agg #[.int .u8 xkind, .string xname, .int .u8 xop, .int .i64 xe, .int .i64 xcond, .slice Aacts xacts.length cacts, .slice Athn xthn.length cthn, .slice Aels xels.length cels], .agg #[.int .u8 xkind, .string xname, .int .u8 xop, .int .i64 xe, .int .i64 xcond, .slice Bacts yacts.length dacts, .slice Bthn ythn.length dthn, .slice Bels yels.length dels]] w fun e w' => Says (EqP (⟨xkind, xname, xop, xe, xcond, xacts, xthn, xels⟩ : StmtM) ⟨xkind, xname, xop, xe, xcond, yacts, ythn, yels⟩) e ∧ Below w.heap.size w w' := by
  have HB := hid (((Below.refl w.heap.size w).alloc (Nat.le_refl _) (.cells #[.int .u8 xkind, .string xname, .int .u8 xop, .int .i64 xe, .int .i64 xcond, .slice Aacts xacts.length cacts, .slice Athn xthn.length cthn, .slice Aels xels.length cels] 61)).alloc (by simp) (.cells #[.int .u8 xkind, .string xname, .int .u8 xop, .int .i64 xe, .int .i64 xcond, .slice Bacts yacts.length dacts, .slice Bthn ythn.length dthn, .slice Bels yels.length dels] 61))
  have es : (w.alloc (.cells #[.int .u8 xkind, .string xname, .int .u8 xop, .int .i64 xe, .int .i64 xcond, .slice Aacts xacts.length cacts, .slice Athn xthn.length cthn, .slice Aels xels.length cels] 61)).heap.size = w.heap.size + 1 := by rw [World.size_alloc]
  have hx := old_blk (new_blk w (.cells #[.int .u8 xkind, .string xname, .int .u8 xop, .int .i64 xe, .int .i64 xcond, .slice Aacts xacts.length cacts, .slice Athn xthn.length cthn, .slice Aels xels.length cels] 61)) (.cells #[.int .u8 xkind, .string xname, .int .u8 xop, .int .i64 xe, .int .i64 xcond, .slice Bacts yacts.length dacts, .slice Bthn ythn.length dthn, .slice Bels yels.length dels] 61)
  have hy := new_blk (w.alloc (.cells #[.int .u8 xkind, .string xname, .int .u8 xop, .int .i64 xe, .int .i64 xcond, .slice Aacts xacts.length cacts, .slice Athn xthn.length cthn, .slice Aels xels.length cels] 61)) (.cells #[.int .u8 xkind, .string xname, .int .u8 xop, .int .i64 xe, .int .i64 xcond, .slice Bacts yacts.length dacts, .slice Bthn ythn.length dthn, .slice Bels yels.length dels] 61)
  rw [es] at hy
  have HX6 := hid (show ((w.alloc (.cells #[.int .u8 xkind, .string xname, .int .u8 xop, .int .i64 xe, .int .i64 xcond, .slice Aacts xacts.length cacts, .slice Athn xthn.length cthn, .slice Aels xels.length cels] 61)).alloc (.cells #[.int .u8 xkind, .string xname, .int .u8 xop, .int .i64 xe, .int .i64 xcond, .slice Bacts yacts.length dacts, .slice Bthn ythn.length dthn, .slice Bels yels.length dels] 61)).cell? ⟨w.heap.size, 6, none⟩ = some (.slice Athn xthn.length cthn) by rw [blk_cell hx]; rfl)
  have HY6 := hid (show ((w.alloc (.cells #[.int .u8 xkind, .string xname, .int .u8 xop, .int .i64 xe, .int .i64 xcond, .slice Aacts xacts.length cacts, .slice Athn xthn.length cthn, .slice Aels xels.length cels] 61)).alloc (.cells #[.int .u8 xkind, .string xname, .int .u8 xop, .int .i64 xe, .int .i64 xcond, .slice Bacts yacts.length dacts, .slice Bthn ythn.length dthn, .slice Bels yels.length dels] 61)).cell? ⟨w.heap.size + 1, 6, none⟩ = some (.slice Bthn ythn.length dthn) by rw [blk_cell hy]; rfl)
  have HX7 := hid (show ((w.alloc (.cells #[.int .u8 xkind, .string xname, .int .u8 xop, .int .i64 xe, .int .i64 xcond, .slice Aacts xacts.length cacts, .slice Athn xthn.length cthn, .slice Aels xels.length cels] 61)).alloc (.cells #[.int .u8 xkind, .string xname, .int .u8 xop, .int .i64 xe, .int .i64 xcond, .slice Bacts yacts.length dacts, .slice Bthn ythn.length dthn, .slice Bels yels.length dels] 61)).cell? ⟨w.heap.size, 7, none⟩ = some (.slice Aels xels.length cels) by rw [blk_cell hx]; rfl)
  have HY7 := hid (show ((w.alloc (.cells #[.int .u8 xkind, .string xname, .int .u8 xop, .int .i64 xe, .int .i64 xcond, .slice Aacts xacts.length cacts, .slice Athn xthn.length cthn, .slice Aels xels.length cels] 61)).alloc (.cells #[.int .u8 xkind, .string xname, .int .u8 xop, .int .i64 xe, .int .i64 xcond, .slice Bacts yacts.length dacts, .slice Bthn ythn.length dthn, .slice Bels yels.length dels] 61)).cell? ⟨w.heap.size + 1, 7, none⟩ = some (.slice Bels yels.length dels) by rw [blk_cell hy]; rfl)
  clear hx hy es
  have HQ := hid (show ¬ EqP (⟨xkind, xname, xop, xe, xcond, xacts, xthn, xels⟩ : StmtM) ⟨xkind, xname, xop, xe, xcond, yacts, ythn, yels⟩ from fun h => NT.out (by cases h; rfl))
  go_enter Try.func19, Try.ntmps19
  go_wp2_with first | (go_at_call 28; refine (equalActs_any _ _ _ _ _ (by exact Hacts.out.below HB.out) (by exact Gacts.out.below HB.out)).mono ?_; rintro e w2 ⟨⟨r, rfl, hr⟩, hb2⟩; obtain rfl : r = true := hr.2 NA.out; have HB2 := hid (HB.out.trans (hb2.mono HB.out.size)); have x6' := cell_keep hb2 HX6.out; have y6' := cell_keep hb2 HY6.out; have HX7' := hid (cell_keep hb2 HX7.out); have HY7' := hid (cell_keep hb2 HY7.out); clear hr hb2) | (go_at_call 20; refine (equalInts_any _ _ _ _ _ (by exact Hthn.out.below HB2.out) (by exact Gthn.out.below HB2.out)).mono ?_; rintro e w3 ⟨⟨r3, rfl, hr⟩, hb3⟩; obtain rfl : r3 = false := (by cases r3 with | false => rfl | true => exact (NT.out (hr.1 rfl)).elim); have HB3 := hid (HB2.out.trans (hb3.mono HB2.out.size)); clear hr hb3)
  go_ret
  exact ⟨says_false HQ.out, HB3.out⟩
set_option maxHeartbeats 3200000 in
set_option maxRecDepth 100000 in
theorem sameStmt_els (xkind xop xe xcond : Int) (xname : ByteArray) (xacts yacts : List ActM) (xthn ythn xels yels : List Int) (Aacts Bacts : Option Addr) (cacts dacts : Nat) (Athn Bthn : Option Addr) (cthn dthn : Nat) (Aels Bels : Option Addr) (cels dels : Nat) (w : World) (Hacts : Hid (ActsR w (.slice Aacts xacts.length cacts) xacts)) (Gacts : Hid (ActsR w (.slice Bacts yacts.length dacts) yacts)) (Hthn : Hid (IntsR w (.slice Athn xthn.length cthn) xthn)) (Gthn : Hid (IntsR w (.slice Bthn ythn.length dthn) ythn)) (Hels : Hid (IntsR w (.slice Aels xels.length cels) xels)) (Gels : Hid (IntsR w (.slice Bels yels.length dels) yels)) (NA : Hid (xacts = yacts)) (NT : Hid (xthn = ythn)) :
    Calls Try.prog 19 #[.agg #[.int .u8 xkind, .string xname, .int .u8 xop, .int .i64 xe, .int .i64 xcond, .slice Aacts xacts.length cacts, .slice Athn xthn.length cthn, .slice Aels xels.length cels], .agg #[.int .u8 xkind, .string xname, .int .u8 xop, .int .i64 xe, .int .i64 xcond, .slice Bacts yacts.length dacts, .slice Bthn ythn.length dthn, .slice Bels yels.length dels]] w fun e w' => Says (EqP (⟨xkind, xname, xop, xe, xcond, xacts, xthn, xels⟩ : StmtM) ⟨xkind, xname, xop, xe, xcond, yacts, ythn, yels⟩) e ∧ Below w.heap.size w w' := by
  have HB := hid (((Below.refl w.heap.size w).alloc (Nat.le_refl _) (.cells #[.int .u8 xkind, .string xname, .int .u8 xop, .int .i64 xe, .int .i64 xcond, .slice Aacts xacts.length cacts, .slice Athn xthn.length cthn, .slice Aels xels.length cels] 61)).alloc (by simp) (.cells #[.int .u8 xkind, .string xname, .int .u8 xop, .int .i64 xe, .int .i64 xcond, .slice Bacts yacts.length dacts, .slice Bthn ythn.length dthn, .slice Bels yels.length dels] 61))
  have es : (w.alloc (.cells #[.int .u8 xkind, .string xname, .int .u8 xop, .int .i64 xe, .int .i64 xcond, .slice Aacts xacts.length cacts, .slice Athn xthn.length cthn, .slice Aels xels.length cels] 61)).heap.size = w.heap.size + 1 := by rw [World.size_alloc]
  have hx := old_blk (new_blk w (.cells #[.int .u8 xkind, .string xname, .int .u8 xop, .int .i64 xe, .int .i64 xcond, .slice Aacts xacts.length cacts, .slice Athn xthn.length cthn, .slice Aels xels.length cels] 61)) (.cells #[.int .u8 xkind, .string xname, .int .u8 xop, .int .i64 xe, .int .i64 xcond, .slice Bacts yacts.length dacts, .slice Bthn ythn.length dthn, .slice Bels yels.length dels] 61)
  have hy := new_blk (w.alloc (.cells #[.int .u8 xkind, .string xname, .int .u8 xop, .int .i64 xe, .int .i64 xcond, .slice Aacts xacts.length cacts, .slice Athn xthn.length cthn, .slice Aels xels.length cels] 61)) (.cells #[.int .u8 xkind, .string xname, .int .u8 xop, .int .i64 xe, .int .i64 xcond, .slice Bacts yacts.length dacts, .slice Bthn ythn.length dthn, .slice Bels yels.length dels] 61)
  rw [es] at hy
  have HX6 := hid (show ((w.alloc (.cells #[.int .u8 xkind, .string xname, .int .u8 xop, .int .i64 xe, .int .i64 xcond, .slice Aacts xacts.length cacts, .slice Athn xthn.length cthn, .slice Aels xels.length cels] 61)).alloc (.cells #[.int .u8 xkind, .string xname, .int .u8 xop, .int .i64 xe, .int .i64 xcond, .slice Bacts yacts.length dacts, .slice Bthn ythn.length dthn, .slice Bels yels.length dels] 61)).cell? ⟨w.heap.size, 6, none⟩ = some (.slice Athn xthn.length cthn) by rw [blk_cell hx]; rfl)
  have HY6 := hid (show ((w.alloc (.cells #[.int .u8 xkind, .string xname, .int .u8 xop, .int .i64 xe, .int .i64 xcond, .slice Aacts xacts.length cacts, .slice Athn xthn.length cthn, .slice Aels xels.length cels] 61)).alloc (.cells #[.int .u8 xkind, .string xname, .int .u8 xop, .int .i64 xe, .int .i64 xcond, .slice Bacts yacts.length dacts, .slice Bthn ythn.length dthn, .slice Bels yels.length dels] 61)).cell? ⟨w.heap.size + 1, 6, none⟩ = some (.slice Bthn ythn.length dthn) by rw [blk_cell hy]; rfl)
  have HX7 := hid (show ((w.alloc (.cells #[.int .u8 xkind, .string xname, .int .u8 xop, .int .i64 xe, .int .i64 xcond, .slice Aacts xacts.length cacts, .slice Athn xthn.length cthn, .slice Aels xels.length cels] 61)).alloc (.cells #[.int .u8 xkind, .string xname, .int .u8 xop, .int .i64 xe, .int .i64 xcond, .slice Bacts yacts.length dacts, .slice Bthn ythn.length dthn, .slice Bels yels.length dels] 61)).cell? ⟨w.heap.size, 7, none⟩ = some (.slice Aels xels.length cels) by rw [blk_cell hx]; rfl)
  have HY7 := hid (show ((w.alloc (.cells #[.int .u8 xkind, .string xname, .int .u8 xop, .int .i64 xe, .int .i64 xcond, .slice Aacts xacts.length cacts, .slice Athn xthn.length cthn, .slice Aels xels.length cels] 61)).alloc (.cells #[.int .u8 xkind, .string xname, .int .u8 xop, .int .i64 xe, .int .i64 xcond, .slice Bacts yacts.length dacts, .slice Bthn ythn.length dthn, .slice Bels yels.length dels] 61)).cell? ⟨w.heap.size + 1, 7, none⟩ = some (.slice Bels yels.length dels) by rw [blk_cell hy]; rfl)
  clear hx hy es
  go_enter Try.func19, Try.ntmps19
  go_wp2_with first | (go_at_call 28; refine (equalActs_any _ _ _ _ _ (by exact Hacts.out.below HB.out) (by exact Gacts.out.below HB.out)).mono ?_; rintro e w2 ⟨⟨r, rfl, hr⟩, hb2⟩; obtain rfl : r = true := hr.2 NA.out; have HB2 := hid (HB.out.trans (hb2.mono HB.out.size)); have x6' := cell_keep hb2 HX6.out; have y6' := cell_keep hb2 HY6.out; have HX7' := hid (cell_keep hb2 HX7.out); have HY7' := hid (cell_keep hb2 HY7.out); clear hr hb2) | (go_at_call 20; refine (equalInts_any _ _ _ _ _ (by exact Hthn.out.below HB2.out) (by exact Gthn.out.below HB2.out)).mono ?_; rintro e w3 ⟨⟨r3, rfl, hr⟩, hb3⟩; obtain rfl : r3 = true := hr.2 NT.out; have HB3 := hid (HB2.out.trans (hb3.mono HB2.out.size)); have x7' := cell_keep hb3 HX7'.out; have y7' := cell_keep hb3 HY7'.out; clear hr hb3) | (go_at_call 20; refine (equalInts_any _ _ _ _ _ (by exact Hels.out.below HB3.out) (by exact Gels.out.below HB3.out)).mono ?_; rintro e w4 ⟨⟨r4, rfl, hr4⟩, hb4⟩)
  go_ret
  exact ⟨⟨r4, rfl, hr4.trans ⟨fun h => by have a := NA.out; have b := NT.out; subst h; subst a; subst b; exact rfl, fun h => by cases h; rfl⟩⟩, HB3.out.trans (hb4.mono HB3.out.size)⟩
set_option maxHeartbeats 3200000 in
set_option maxRecDepth 100000 in
theorem sameStmt_any (x y : StmtM) (vacts uacts vthn uthn vels uels : Value) (w : World) (hacts : ActsR w vacts x.acts) (gacts : ActsR w uacts y.acts) (hthn : IntsR w vthn x.thn) (gthn : IntsR w uthn y.thn) (hels : IntsR w vels x.els) (gels : IntsR w uels y.els) :
    Calls Try.prog 19 #[.agg #[.int .u8 x.kind, .string x.name, .int .u8 x.op, .int .i64 x.e, .int .i64 x.cond, vacts, vthn, vels], .agg #[.int .u8 y.kind, .string y.name, .int .u8 y.op, .int .i64 y.e, .int .i64 y.cond, uacts, uthn, uels]] w fun e w' => Says (EqP x y) e ∧ Below w.heap.size w w' := by
  obtain ⟨Aacts, cacts, rfl, _, _⟩ := Row.slice hacts
  obtain ⟨Bacts, dacts, rfl, _, _⟩ := Row.slice gacts
  obtain ⟨Athn, cthn, rfl, _, _⟩ := Row.slice hthn
  obtain ⟨Bthn, dthn, rfl, _, _⟩ := Row.slice gthn
  obtain ⟨Aels, cels, rfl, _, _⟩ := Row.slice hels
  obtain ⟨Bels, dels, rfl, _, _⟩ := Row.slice gels
  obtain ⟨xkind, xname, xop, xe, xcond, xacts, xthn, xels⟩ := x
  obtain ⟨ykind, yname, yop, ye, ycond, yacts, ythn, yels⟩ := y
  have Hacts := hid hacts
  have Gacts := hid gacts
  have Hthn := hid hthn
  have Gthn := hid gthn
  have Hels := hid hels
  have Gels := hid gels
  clear hacts gacts hthn gthn hels gels
  have HB := hid (((Below.refl w.heap.size w).alloc (Nat.le_refl _) (.cells #[.int .u8 xkind, .string xname, .int .u8 xop, .int .i64 xe, .int .i64 xcond, .slice Aacts xacts.length cacts, .slice Athn xthn.length cthn, .slice Aels xels.length cels] 61)).alloc (by simp) (.cells #[.int .u8 ykind, .string yname, .int .u8 yop, .int .i64 ye, .int .i64 ycond, .slice Bacts yacts.length dacts, .slice Bthn ythn.length dthn, .slice Bels yels.length dels] 61))
  by_cases n0 : xkind = ykind
  · subst n0
    by_cases n1 : xname = yname
    · subst n1
      by_cases n2 : xop = yop
      · subst n2
        by_cases n3 : xe = ye
        · subst n3
          by_cases n4 : xcond = ycond
          · subst n4
            by_cases na : xacts = yacts
            · by_cases nt : xthn = ythn
              · exact sameStmt_els _ _ _ _ _ _ _ _ _ _ _ _ _ _ _ _ _ _ _ _ _ _ _ w Hacts Gacts Hthn Gthn Hels Gels (hid na) (hid nt)
              · exact sameStmt_thn _ _ _ _ _ _ _ _ _ _ _ _ _ _ _ _ _ _ _ _ _ _ _ w Hacts Gacts Hthn Gthn Hels Gels (hid na) (hid nt)
            · exact sameStmt_acts _ _ _ _ _ _ _ _ _ _ _ _ _ _ _ _ _ _ _ _ _ _ _ w Hacts Gacts Hthn Gthn Hels Gels (hid na)
          · skip
            have HQ := hid (show ¬ EqP (⟨xkind, xname, xop, xe, xcond, xacts, xthn, xels⟩ : StmtM) ⟨xkind, xname, xop, xe, ycond, yacts, ythn, yels⟩ from fun h => by cases h; exact n4 rfl)
            go_enter Try.func19, Try.ntmps19
            go_wp2
            go_ret
            exact ⟨says_false HQ.out, HB.out⟩
        · skip
          have HQ := hid (show ¬ EqP (⟨xkind, xname, xop, xe, xcond, xacts, xthn, xels⟩ : StmtM) ⟨xkind, xname, xop, ye, ycond, yacts, ythn, yels⟩ from fun h => by cases h; exact n3 rfl)
          go_enter Try.func19, Try.ntmps19
          go_wp2
          go_ret
          exact ⟨says_false HQ.out, HB.out⟩
      · skip
        have HQ := hid (show ¬ EqP (⟨xkind, xname, xop, xe, xcond, xacts, xthn, xels⟩ : StmtM) ⟨xkind, xname, yop, ye, ycond, yacts, ythn, yels⟩ from fun h => by cases h; exact n2 rfl)
        go_enter Try.func19, Try.ntmps19
        go_wp2
        go_ret
        exact ⟨says_false HQ.out, HB.out⟩
    · skip
      have HQ := hid (show ¬ EqP (⟨xkind, xname, xop, xe, xcond, xacts, xthn, xels⟩ : StmtM) ⟨xkind, yname, yop, ye, ycond, yacts, ythn, yels⟩ from fun h => by cases h; exact n1 rfl)
      have nl : ¬ xname.toList = yname.toList := fun e => n1 (strl.1 e)
      clear n1
      go_enter Try.func19, Try.ntmps19
      go_wp2
      go_ret
      exact ⟨says_false HQ.out, HB.out⟩
  · skip
    have HQ := hid (show ¬ EqP (⟨xkind, xname, xop, xe, xcond, xacts, xthn, xels⟩ : StmtM) ⟨ykind, yname, yop, ye, ycond, yacts, ythn, yels⟩ from fun h => by cases h; exact n0 rfl)
    go_enter Try.func19, Try.ntmps19
    go_wp2
    go_ret
    exact ⟨says_false HQ.out, HB.out⟩
end Go.Proofs.Ytlajcmoiopaemaa
