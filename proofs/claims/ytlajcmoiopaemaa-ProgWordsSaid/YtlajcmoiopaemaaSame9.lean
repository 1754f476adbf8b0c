/- Statements that are the same: the reference's. Printed by gen_same6.py. -/
import Derived.Test.YtlajcmoiopaemaaSame5
set_option linter.unusedVariables false
set_option linter.unusedSimpArgs false
namespace Go.Proofs.Ytlajcmoiopaemaa
open Go.RowKit
set_option maxHeartbeats 6400000 in
set_option maxRecDepth 100000 in
theorem refStmt_rows (xkind xop xe xcond : Int) (xname : ByteArray) (xacts yacts : List ActM) (xthn ythn xels yels : List Int) (Aacts Bacts : Option Addr) (cacts dacts : Nat) (Athn Bthn : Option Addr) (cthn dthn : Nat) (Aels Bels : Option Addr) (cels dels : Nat) (w : World) (Hacts : Hid (ActsR w (.slice Aacts xacts.length cacts) xacts)) (Gacts : Hid (ActsR w (.slice Bacts yacts.length dacts) yacts)) (Hthn : Hid (IntsR w (.slice Athn xthn.length cthn) xthn)) (Gthn : Hid (IntsR w (.slice Bthn ythn.length dthn) ythn)) (Hels : Hid (IntsR w (.slice Aels xels.length cels) xels)) (Gels : Hid (IntsR w (.slice Bels yels.length dels) yels)) (HL : Hid (xacts.length = yacts.length)) :
    Calls Try.prog 22 #[.agg #[.int .u8 xkind, .string xname, .int .u8 xop, .int .i64 xe, .int .i64 xcond, .slice Aacts xacts.length cacts, .slice Athn xthn.length cthn, .slice Aels xels.length cels], .agg #[.int .u8 xkind, .string xname, .int .u8 xop, .int .i64 xe, .int .i64 xcond, .slice Bacts yacts.length dacts, .slice Bthn ythn.length dthn, .slice Bels yels.length dels]] w fun e w' => Says (EqP (⟨xkind, xname, xop, xe, xcond, xacts, xthn, xels⟩ : StmtM) ⟨xkind, xname, xop, xe, xcond, yacts, ythn, yels⟩) e ∧ Below w.heap.size w w' := by
  obtain ⟨_, cc, hcc, hc1, hm1⟩ := Row.slice Hacts.out
  clear hcc
  have hlq : (xacts.length : Int) = (yacts.length : Int) := by have := HL.out; omega
  have HB0 := hid (((Below.refl w.heap.size w).alloc (Nat.le_refl _) (.cells #[.int .u8 xkind, .string xname, .int .u8 xop, .int .i64 xe, .int .i64 xcond, .slice Aacts xacts.length cacts, .slice Athn xthn.length cthn, .slice Aels xels.length cels] 61)).alloc (by simp) (.cells #[.int .u8 xkind, .string xname, .int .u8 xop, .int .i64 xe, .int .i64 xcond, .slice Bacts yacts.length dacts, .slice Bthn ythn.length dthn, .slice Bels yels.length dels] 61))
  have es : (w.alloc (.cells #[.int .u8 xkind, .string xname, .int .u8 xop, .int .i64 xe, .int .i64 xcond, .slice Aacts xacts.length cacts, .slice Athn xthn.length cthn, .slice Aels xels.length cels] 61)).heap.size = w.heap.size + 1 := by rw [World.size_alloc]
  have hx := old_blk (new_blk w (.cells #[.int .u8 xkind, .string xname, .int .u8 xop, .int .i64 xe, .int .i64 xcond, .slice Aacts xacts.length cacts, .slice Athn xthn.length cthn, .slice Aels xels.length cels] 61)) (.cells #[.int .u8 xkind, .string xname, .int .u8 xop, .int .i64 xe, .int .i64 xcond, .slice Bacts yacts.length dacts, .slice Bthn ythn.length dthn, .slice Bels yels.length dels] 61)
  have hy := new_blk (w.alloc (.cells #[.int .u8 xkind, .string xname, .int .u8 xop, .int .i64 xe, .int .i64 xcond, .slice Aacts xacts.length cacts, .slice Athn xthn.length cthn, .slice Aels xels.length cels] 61)) (.cells #[.int .u8 xkind, .string xname, .int .u8 xop, .int .i64 xe, .int .i64 xcond, .slice Bacts yacts.length dacts, .slice Bthn ythn.length dthn, .slice Bels yels.length dels] 61)
  rw [es] at hy
  have K5 := hid (show ((w.alloc (.cells #[.int .u8 xkind, .string xname, .int .u8 xop, .int .i64 xe, .int .i64 xcond, .slice Aacts xacts.length cacts, .slice Athn xthn.length cthn, .slice Aels xels.length cels] 61)).alloc (.cells #[.int .u8 xkind, .string xname, .int .u8 xop, .int .i64 xe, .int .i64 xcond, .slice Bacts yacts.length dacts, .slice Bthn ythn.length dthn, .slice Bels yels.length dels] 61)).cell? ⟨w.heap.size, 5, none⟩ = some (.slice Aacts xacts.length cacts) by rw [blk_cell hx]; rfl)
  have L5 := hid (show ((w.alloc (.cells #[.int .u8 xkind, .string xname, .int .u8 xop, .int .i64 xe, .int .i64 xcond, .slice Aacts xacts.length cacts, .slice Athn xthn.length cthn, .slice Aels xels.length cels] 61)).alloc (.cells #[.int .u8 xkind, .string xname, .int .u8 xop, .int .i64 xe, .int .i64 xcond, .slice Bacts yacts.length dacts, .slice Bthn ythn.length dthn, .slice Bels yels.length dels] 61)).cell? ⟨w.heap.size + 1, 5, none⟩ = some (.slice Bacts yacts.length dacts) by rw [blk_cell hy]; rfl)
  have K6 := hid (show ((w.alloc (.cells #[.int .u8 xkind, .string xname, .int .u8 xop, .int .i64 xe, .int .i64 xcond, .slice Aacts xacts.length cacts, .slice Athn xthn.length cthn, .slice Aels xels.length cels] 61)).alloc (.cells #[.int .u8 xkind, .string xname, .int .u8 xop, .int .i64 xe, .int .i64 xcond, .slice Bacts yacts.length dacts, .slice Bthn ythn.length dthn, .slice Bels yels.length dels] 61)).cell? ⟨w.heap.size, 6, none⟩ = some (.slice Athn xthn.length cthn) by rw [blk_cell hx]; rfl)
  have L6 := hid (show ((w.alloc (.cells #[.int .u8 xkind, .string xname, .int .u8 xop, .int .i64 xe, .int .i64 xcond, .slice Aacts xacts.length cacts, .slice Athn xthn.length cthn, .slice Aels xels.length cels] 61)).alloc (.cells #[.int .u8 xkind, .string xname, .int .u8 xop, .int .i64 xe, .int .i64 xcond, .slice Bacts yacts.length dacts, .slice Bthn ythn.length dthn, .slice Bels yels.length dels] 61)).cell? ⟨w.heap.size + 1, 6, none⟩ = some (.slice Bthn ythn.length dthn) by rw [blk_cell hy]; rfl)
  have K7 := hid (show ((w.alloc (.cells #[.int .u8 xkind, .string xname, .int .u8 xop, .int .i64 xe, .int .i64 xcond, .slice Aacts xacts.length cacts, .slice Athn xthn.length cthn, .slice Aels xels.length cels] 61)).alloc (.cells #[.int .u8 xkind, .string xname, .int .u8 xop, .int .i64 xe, .int .i64 xcond, .slice Bacts yacts.length dacts, .slice Bthn ythn.length dthn, .slice Bels yels.length dels] 61)).cell? ⟨w.heap.size, 7, none⟩ = some (.slice Aels xels.length cels) by rw [blk_cell hx]; rfl)
  have L7 := hid (show ((w.alloc (.cells #[.int .u8 xkind, .string xname, .int .u8 xop, .int .i64 xe, .int .i64 xcond, .slice Aacts xacts.length cacts, .slice Athn xthn.length cthn, .slice Aels xels.length cels] 61)).alloc (.cells #[.int .u8 xkind, .string xname, .int .u8 xop, .int .i64 xe, .int .i64 xcond, .slice Bacts yacts.length dacts, .slice Bthn ythn.length dthn, .slice Bels yels.length dels] 61)).cell? ⟨w.heap.size + 1, 7, none⟩ = some (.slice Bels yels.length dels) by rw [blk_cell hy]; rfl)
  clear hx hy es
  go_enter Try.func22, Try.ntmps22
  go_wp2
  obtain ⟨w1, hw1⟩ : ∃ w1, (w.alloc (.cells #[.int .u8 xkind, .string xname, .int .u8 xop, .int .i64 xe, .int .i64 xcond, .slice Aacts xacts.length cacts, .slice Athn xthn.length cthn, .slice Aels xels.length cels] 61)).alloc (.cells #[.int .u8 xkind, .string xname, .int .u8 xop, .int .i64 xe, .int .i64 xcond, .slice Bacts yacts.length dacts, .slice Bthn ythn.length dthn, .slice Bels yels.length dels] 61) = w1 := ⟨_, rfl⟩
  rw [hw1] at HB0 K5 K6 K7 L5 L6 L7
  try rw [hw1]
  clear hw1 hlq
  go_loopw [5] (fun s5 wr => ∃ i : Nat, i ≤ xacts.length ∧ s5 = .int .i64 (i : Int) ∧ Hid (Below w1.heap.size w1 wr) ∧ Hid (∀ j, j < i → nth xacts j = nth yacts j)) (fun s5 _ => xacts.length - (Go.RowKit.intOf s5).toNat)
  case atStart => exact ⟨0, by omega, rfl, hid (Below.refl _ _), hid (fun j hj => by omega)⟩
  case round =>
    obtain ⟨i, hi, rfl, HB1, HN⟩ := hrel
    have HB := hid (HB0.out.trans (HB1.out.mono HB0.out.size))
    have k5 := cell_keep HB1.out K5.out
    have l5 := cell_keep HB1.out L5.out
    have k6 := cell_keep HB1.out K6.out
    have l6 := cell_keep HB1.out L6.out
    have k7 := cell_keep HB1.out K7.out
    have l7 := cell_keep HB1.out L7.out
    by_cases hlt : i < xacts.length
    · have hli : (i : Int) < (xacts.length : Int) := by omega
      have hlj : (i : Int) < (yacts.length : Int) := by have := HL.out; omega
      clear k6 k7 l6 l7
      obtain ⟨B, off, cs, rfl, hB, hr, _, hall⟩ := Row.elem Hacts.out (by omega) hlt
      obtain ⟨B2, off2, cs2, rfl, hB2, hr2, _, hall2⟩ := Row.elem Gacts.out (by omega) (show i < yacts.length by have := HL.out; omega)
      have hr' : cs = _ := hr
      have hr2' : cs2 = _ := hr2
      subst hr' hr2'
      have x0 := (HB.out.cell (p := ⟨B, off + i * 6, none⟩) hB).trans (by simpa using hall 0 _ rfl)
      have y0 := (HB.out.cell (p := ⟨B2, off2 + i * 6, none⟩) hB2).trans (by simpa using hall2 0 _ rfl)
      have x1 := (HB.out.cell (p := ⟨B, off + i * 6 + 1, none⟩) hB).trans (by simpa using hall 1 _ rfl)
      have y1 := (HB.out.cell (p := ⟨B2, off2 + i * 6 + 1, none⟩) hB2).trans (by simpa using hall2 1 _ rfl)
      have x2 := (HB.out.cell (p := ⟨B, off + i * 6 + 2, none⟩) hB).trans (by simpa using hall 2 _ rfl)
      have y2 := (HB.out.cell (p := ⟨B2, off2 + i * 6 + 2, none⟩) hB2).trans (by simpa using hall2 2 _ rfl)
      have x3 := (HB.out.cell (p := ⟨B, off + i * 6 + 3, none⟩) hB).trans (by simpa using hall 3 _ rfl)
      have y3 := (HB.out.cell (p := ⟨B2, off2 + i * 6 + 3, none⟩) hB2).trans (by simpa using hall2 3 _ rfl)
      have x4 := (HB.out.cell (p := ⟨B, off + i * 6 + 4, none⟩) hB).trans (by simpa using hall 4 _ rfl)
      have y4 := (HB.out.cell (p := ⟨B2, off2 + i * 6 + 4, none⟩) hB2).trans (by simpa using hall2 4 _ rfl)
      have x5 := (HB.out.cell (p := ⟨B, off + i * 6 + 5, none⟩) hB).trans (by simpa using hall 5 _ rfl)
      have y5 := (HB.out.cell (p := ⟨B2, off2 + i * 6 + 5, none⟩) hB2).trans (by simpa using hall2 5 _ rfl)
      have HNX := hid (show nth xacts i = nth yacts i → ∀ j, j < i + 1 → nth xacts j = nth yacts j from fun he j hj => (Nat.lt_or_ge j i).elim (fun h => HN.out j h) (fun h => by obtain rfl : j = i := (by omega); exact he))
      have HNE := hid (show nth xacts i ≠ nth yacts i → ¬ EqP (⟨xkind, xname, xop, xe, xcond, xacts, xthn, xels⟩ : StmtM) ⟨xkind, xname, xop, xe, xcond, yacts, ythn, yels⟩ from fun he e => he (by cases e; rfl))
      obtain ⟨d, hd⟩ : ∃ d, nth xacts i = d := ⟨_, rfl⟩
      obtain ⟨d2, hd2⟩ : ∃ d, nth yacts i = d := ⟨_, rfl⟩
      rw [hd, hd2] at HNX HNE
      rw [hd] at x0 x1 x2 x3 x4 x5
      rw [hd2] at y0 y1 y2 y3 y4 y5
      clear hall hall2 hd hd2 HN
      have HB8 := hid (drewB HB1.out)
      have HB9 := hid (drewB HB.out)
      obtain ⟨dk, dn, dp, di, de, dc⟩ := d
      obtain ⟨ek, en, ep, ei, ee, ec⟩ := d2
      by_cases n0 : dk = ek
      · subst n0
        by_cases n1 : dn = en
        · subst n1
          by_cases n2 : dp = ep
          · subst n2
            by_cases n3 : di = ei
            · subst n3
              by_cases n4 : de = ee
              · subst n4
                by_cases n5 : dc = ec
                · subst n5
                  have HQ := hid (HNX.out rfl)
                  clear HNE HNX
                  go_wp2
                  go_region
                  go_wp2
                  go_roundw
                  case rel => exact ⟨i + 1, by omega, by simp, HB8, HQ⟩
                  case measure => simp [Go.RowKit.intOf]; omega
                · skip
                  have HQ := hid (HNE.out (by intro h; cases h; exact n5 rfl))
                  clear HNE HNX
                  all_goals go_wp2
                  all_goals go_region
                  all_goals go_wp2
                  all_goals go_ret
                  all_goals exact ⟨says_false HQ.out, HB9.out⟩
              · skip
                have HQ := hid (HNE.out (by intro h; cases h; exact n4 rfl))
                clear HNE HNX
                all_goals go_wp2
                all_goals go_region
                all_goals go_wp2
                all_goals go_ret
                all_goals exact ⟨says_false HQ.out, HB9.out⟩
            · skip
              have HQ := hid (HNE.out (by intro h; cases h; exact n3 rfl))
              clear HNE HNX
              obtain ⟨rfl, rfl⟩ | ⟨rfl, rfl⟩ : (di = true ∧ ei = false) ∨ (di = false ∧ ei = true) := by revert n3; cases di <;> cases ei <;> simp
              all_goals clear n3
              all_goals go_wp2
              all_goals go_region
              all_goals go_wp2
              all_goals go_ret
              all_goals exact ⟨says_false HQ.out, HB9.out⟩
          · skip
            have HQ := hid (HNE.out (by intro h; cases h; exact n2 rfl))
            clear HNE HNX
            all_goals go_wp2
            all_goals go_region
            all_goals go_wp2
            all_goals go_ret
            all_goals exact ⟨says_false HQ.out, HB9.out⟩
        · skip
          have HQ := hid (HNE.out (by intro h; cases h; exact n1 rfl))
          have nl : ¬ dn.toList = en.toList := fun e => n1 (strl.1 e)
          clear HNE HNX n1
          all_goals go_wp2
          all_goals go_region
          all_goals go_wp2
          all_goals go_ret
          all_goals exact ⟨says_false HQ.out, HB9.out⟩
      · skip
        have HQ := hid (HNE.out (by intro h; cases h; exact n0 rfl))
        clear HNE HNX
        all_goals go_wp2
        all_goals go_region
        all_goals go_wp2
        all_goals go_ret
        all_goals exact ⟨says_false HQ.out, HB9.out⟩
    · have hie : i = xacts.length := by omega
      subst hie
      have hli : ¬ ((xacts.length : Int) < (xacts.length : Int)) := by omega
      have NA := hid (ext_nth HL.out HN.out)
      clear HN
      have HK7 := hid k7
      have HL7 := hid l7
      clear k7 l7
      by_cases nt : xthn = ythn
      · have NT := hid nt
        clear nt
        go_wp2_with first | (go_at_call 21; refine (sameInts_any _ _ _ _ _ (by exact Hthn.out.below HB.out) (by exact Gthn.out.below HB.out)).mono ?_; rintro e w3 ⟨⟨r3, rfl, hr⟩, hb⟩; obtain rfl : r3 = true := hr.2 NT.out; have HB3 := hid (HB.out.trans (hb.mono HB.out.size)); have k7' := cell_keep hb HK7.out; have l7' := cell_keep hb HL7.out; clear hr hb) | (go_at_call 21; refine (sameInts_any _ _ _ _ _ (by exact Hels.out.below HB3.out) (by exact Gels.out.below HB3.out)).mono ?_; rintro e w4 ⟨⟨r4, rfl, hr4⟩, hb⟩; have HB4 := hid (HB3.out.trans (hb.mono HB3.out.size)); clear hb)
        go_ret
        exact ⟨⟨r4, rfl, hr4.trans ⟨fun h => by have a := NA.out; have b := NT.out; subst h; subst a; subst b; exact rfl, fun h => by cases h; rfl⟩⟩, HB4.out⟩
      · have NT := hid nt
        clear nt
        have HQ := hid (show ¬ EqP (⟨xkind, xname, xop, xe, xcond, xacts, xthn, xels⟩ : StmtM) ⟨xkind, xname, xop, xe, xcond, yacts, ythn, yels⟩ from fun h => NT.out (by cases h; rfl))
        go_wp2_with (go_at_call 21; refine (sameInts_any _ _ _ _ _ (by exact Hthn.out.below HB.out) (by exact Gthn.out.below HB.out)).mono ?_; rintro e w3 ⟨⟨r3, rfl, hr⟩, hb⟩; obtain rfl : r3 = false := (by cases r3 with | false => rfl | true => exact (NT.out (hr.1 rfl)).elim); have HB3 := hid (HB.out.trans (hb.mono HB.out.size)); have k7' := cell_keep hb HK7.out; have l7' := cell_keep hb HL7.out; clear hr hb)
        go_ret
        exact ⟨says_false HQ.out, HB3.out⟩
set_option maxHeartbeats 3200000 in
set_option maxRecDepth 100000 in
theorem refStmt_any (x y : StmtM) (vacts uacts vthn uthn vels uels : Value) (w : World) (hacts : ActsR w vacts x.acts) (gacts : ActsR w uacts y.acts) (hthn : IntsR w vthn x.thn) (gthn : IntsR w uthn y.thn) (hels : IntsR w vels x.els) (gels : IntsR w uels y.els) :
    Calls Try.prog 22 #[.agg #[.int .u8 x.kind, .string x.name, .int .u8 x.op, .int .i64 x.e, .int .i64 x.cond, vacts, vthn, vels], .agg #[.int .u8 y.kind, .string y.name, .int .u8 y.op, .int .i64 y.e, .int .i64 y.cond, uacts, uthn, uels]] w fun e w' => Says (EqP x y) e ∧ Below w.heap.size w w' := by
  obtain ⟨Aacts, cacts, rfl, _, _⟩ := Row.slice hacts
  obtain ⟨Bacts, dacts, rfl, _, _⟩ := Row.slice gacts
  obtain ⟨Athn, cthn, rfl, _, _⟩ := Row.slice hthn
  obtain ⟨Bthn, dthn, rfl, _, _⟩ := Row.slice gthn
  obtain ⟨Aels, cels, rfl, _, _⟩ := Row.slice hels
  obtain ⟨Bels, dels, rfl, _, _⟩ := Row.slice gels
  obtain ⟨xkind, xname, xop, xe, xcond, xacts, xthn, xels⟩ := x
  obtain ⟨ykind, yname, yop, ye, ycond, yacts, ythn, yels⟩ := y
  have Hacts := hid hacts
  have Gacts := hid gacts
  have Hthn := hid hthn
  have Gthn := hid gthn
  have Hels := hid hels
  have Gels := hid gels
  clear hacts gacts hthn gthn hels gels
  have HB := hid (((Below.refl w.heap.size w).alloc (Nat.le_refl _) (.cells #[.int .u8 xkind, .string xname, .int .u8 xop, .int .i64 xe, .int .i64 xcond, .slice Aacts xacts.length cacts, .slice Athn xthn.length cthn, .slice Aels xels.length cels] 61)).alloc (by simp) (.cells #[.int .u8 ykind, .string yname, .int .u8 yop, .int .i64 ye, .int .i64 ycond, .slice Bacts yacts.length dacts, .slice Bthn ythn.length dthn, .slice Bels yels.length dels] 61))
  by_cases n0 : xkind = ykind
  · subst n0
    by_cases n1 : xname = yname
    · subst n1
      by_cases n2 : xop = yop
      · subst n2
        by_cases n3 : xe = ye
        · subst n3
          by_cases n4 : xcond = ycond
          · subst n4
            by_cases na : xacts.length = yacts.length
            · exact refStmt_rows _ _ _ _ _ _ _ _ _ _ _ _ _ _ _ _ _ _ _ _ _ _ _ w Hacts Gacts Hthn Gthn Hels Gels (hid na)
            · skip
              have HQ := hid (show ¬ EqP (⟨xkind, xname, xop, xe, xcond, xacts, xthn, xels⟩ : StmtM) ⟨xkind, xname, xop, xe, xcond, yacts, ythn, yels⟩ from fun h => na (by cases h; rfl))
              have nn : ¬ (xacts.length : Int) = (yacts.length : Int) := by omega
              clear na
              go_enter Try.func22, Try.ntmps22
              go_wp2
              go_ret
              exact ⟨says_false HQ.out, HB.out⟩
          · skip
            have HQ := hid (show ¬ EqP (⟨xkind, xname, xop, xe, xcond, xacts, xthn, xels⟩ : StmtM) ⟨xkind, xname, xop, xe, ycond, yacts, ythn, yels⟩ from fun h => by cases h; exact n4 rfl)
            go_enter Try.func22, Try.ntmps22
            go_wp2
            go_ret
            exact ⟨says_false HQ.out, HB.out⟩
        · skip
          have HQ := hid (show ¬ EqP (⟨xkind, xname, xop, xe, xcond, xacts, xthn, xels⟩ : StmtM) ⟨xkind, xname, xop, ye, ycond, yacts, ythn, yels⟩ from fun h => by cases h; exact n3 rfl)
          go_enter Try.func22, Try.ntmps22
          go_wp2
          go_ret
          exact ⟨says_false HQ.out, HB.out⟩
      · skip
        have HQ := hid (show ¬ EqP (⟨xkind, xname, xop, xe, xcond, xacts, xthn, xels⟩ : StmtM) ⟨xkind, xname, yop, ye, ycond, yacts, ythn, yels⟩ from fun h => by cases h; exact n2 rfl)
        go_enter Try.func22, Try.ntmps22
        go_wp2
        go_ret
        exact ⟨says_false HQ.out, HB.out⟩
    · skip
      have HQ := hid (show ¬ EqP (⟨xkind, xname, xop, xe, xcond, xacts, xthn, xels⟩ : StmtM) ⟨xkind, yname, yop, ye, ycond, yacts, ythn, yels⟩ from fun h => by cases h; exact n1 rfl)
      have nl : ¬ xname.toList = yname.toList := fun e => n1 (strl.1 e)
      clear n1
      go_enter Try.func22, Try.ntmps22
      go_wp2
      go_ret
      exact ⟨says_false HQ.out, HB.out⟩
  · skip
    have HQ := hid (show ¬ EqP (⟨xkind, xname, xop, xe, xcond, xacts, xthn, xels⟩ : StmtM) ⟨ykind, yname, yop, ye, ycond, yacts, ythn, yels⟩ from fun h => by cases h; exact n0 rfl)
    go_enter Try.func22, Try.ntmps22
    go_wp2
    go_ret
    exact ⟨says_false HQ.out, HB.out⟩
end Go.Proofs.Ytlajcmoiopaemaa
