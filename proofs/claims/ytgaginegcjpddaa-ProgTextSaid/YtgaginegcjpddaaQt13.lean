/- The program's writer: a statement, kind by kind. (printed by gen_wstmt.py) -/
import Derived.Test.YtgaginegcjpddaaQt12
import Derived.Maps.RangeRun
set_option linter.unusedVariables false
set_option linter.unusedSimpArgs false
namespace Go.Proofs.Ytgaginegcjpddaa
open Go.RowKit
set_option maxHeartbeats 3200000 in
set_option maxRecDepth 100000 in
theorem stmtW_each (es : List Expr) (ss : List PStmt) (hops : OpsOk es ss) (f : Nat) (ih : StmtWC es ss f) (br : Int) (n : Nat) (op e cond : Int) (nm : ByteArray) (acts : List PAct) (thn els : List Int) (w : World) (lo pb : Nat) (ex : Nat → Prop) (D S : Nat → Value) (l : List Form) (top : List Int) (h : WX w lo ex pb D S l top) (hwf : WWf l top) (hbr : WAt br l) (hP : WD w lo D es ss) (hn : n < ss.length) (hnf : n ≤ f) (hx : nth ss n = { kind := 3, name := nm, op := op, e := e, cond := cond, acts := acts, thn := thn, els := els }) :
    Calls Try.prog 32 #[.pointer (some ⟨pb, 0, none⟩), .int .i64 br, .int .i64 (n : Int)] w (WP w lo ex pb D (unitR (stmtKW es { kind := 3, name := nm, op := op, e := e, cond := cond, acts := acts, thn := thn, els := els } br (n : Int) (fun b k s => stmtWS es ss f b k s) (l, top)))) := by
  obtain ⟨xb, xo, xc, av, tv, ev, hD2, hxb, hcells, hacts, hthn, hels⟩ := hP.stmts.at_ hn
  have hopx := hops.s _ (nth_mem hn)
  rw [hx] at hcells hacts hthn hels hopx
  obtain ⟨AA, ac, rfl, _, _⟩ := hacts.slice
  obtain ⟨TA, tc, rfl, _, _⟩ := hthn.slice
  obtain ⟨EA, ec, rfl, _, _⟩ := hels.slice
  have c0 := hcells 0 _ rfl; have c1 := hcells 1 _ rfl; have c2 := hcells 2 _ rfl; have c3 := hcells 3 _ rfl; have c4 := hcells 4 _ rfl; have c5 := hcells 5 _ rfl; have c6 := hcells 6 _ rfl; have c7 := hcells 7 _ rfl
  simp only [Nat.add_zero] at c0
  obtain ⟨XA, xec, hD1, _, _⟩ := hP.exprs.slice
  have hB := h.blk
  rw [hD1, hD2] at hB
  have q2 := blk_cell hB 2
  have hn0 : (0 : Int) ≤ (n : Int) := by omega
  have hn1 : (n : Int) < (ss.length : Int) := by omega
  obtain ⟨w1, hw1⟩ : ∃ w1, w.alloc (.cells #[.int .u8 3, .string nm, .int .u8 op, .int .i64 e, .int .i64 cond, .slice AA acts.length ac, .slice TA thn.length tc, .slice EA els.length ec] 77) = w1 := ⟨_, rfl⟩
  have h1 := h.alloc (.cells #[.int .u8 3, .string nm, .int .u8 op, .int .i64 e, .int .i64 cond, .slice AA acts.length ac, .slice TA thn.length tc, .slice EA els.length ec] 77)
  have hx1 := new_blk w (.cells #[.int .u8 3, .string nm, .int .u8 op, .int .i64 e, .int .i64 cond, .slice AA acts.length ac, .slice TA thn.length tc, .slice EA els.length ec] 77)
  rw [hw1] at h1 hx1
  have hB1 : Below lo w w1 := by rw [← hw1]; exact (Below.refl _ _).alloc h.ft.lows.1 _
  have hun : ∀ r e w', WP w1 lo (fun b => ex b ∨ b = w.heap.size) pb D r e w' → WP w lo ex pb D r e w' := fun r e w' h9 => WP.unalloc h (by rw [hw1]; exact h9)
  have hpn : w.heap.size ≠ pb := fun e => by have := blk_lt h.blk; omega
  have hpl := blk_lt h1.blk
  have hS1 := h1.ft.lt
  have hB1' := h1.blk
  rw [hD1, hD2] at hB1'
  have q1 := blk_cell hB1' 1
  have z0 := blk_cell hx1 0
  have H1 := hid h1; have HW := hid hwf; have HA := hid hbr; have HP := hid (hP.below hB1); have HX1 := hid hx1; have HUN := hid hun; have HO := hid hops; have HW1 := hid hw1; have HS1 := hid hS1; have IH := hid ih; have HOPX := hid hopx
  have HAC := hid (hacts.imp (w' := w1) (D' := fun b => b < lo) fun b hD _ => ⟨hD, hB1.block b hD⟩)
  have HTH := hid (hthn.imp (w' := w1) (D' := fun b => b < lo) fun b hD _ => ⟨hD, hB1.block b hD⟩)
  have HEL := hid (hels.imp (w' := w1) (D' := fun b => b < lo) fun b hD _ => ⟨hD, hB1.block b hD⟩)
  generalize hgr : stmtKW es { kind := 3, name := nm, op := op, e := e, cond := cond, acts := acts, thn := thn, els := els } br (n : Int) (fun b k s => stmtWS es ss f b k s) (l, top) = R
  have HR := hid hgr
  have hcell : ∀ W lo' S' s' br' ws o w', w1.heap.size ≤ W.heap.size → W.heap[w.heap.size]? = w1.heap[w.heap.size]? → OI W lo' (fun b => ex b ∨ b = w.heap.size) pb D S' s' br' ws o w' → ∀ j, w'.cell? ⟨w.heap.size, j, none⟩ = (#[.int .u8 3, .string nm, .int .u8 op, .int .i64 e, .int .i64 cond, .slice AA acts.length ac, .slice TA thn.length tc, .slice EA els.length ec] : Array Value)[j]? := fun W lo' S' s' br' ws o w' _ hW hI j => hI.cell (hW.trans hx1) (.inr rfl) hpn j
  have HCELL := hid hcell
  clear h hwf hbr hP hx1 hun hops h1 hw1 hgr hB1 hS1 hB hcells hacts hthn hels hx ih hB1' hopx hcell
  go_enter Try.func32, Try.ntmps32
  go_upto_region 1 with fail
  rw [HW1.out]
  clear c0 c1 c2 c3 c4 c5 c6 c7 q2
  go_wp2_with fail
  have hz : w.heap.size + 1 = w1.heap.size := by rw [← HW1.out]; simp
  obtain ⟨w2, hw2⟩ : ∃ w2, w1.alloc (.cells #[.string ⟨#[101, 97, 99, 104]⟩] 9) = w2 := ⟨_, rfl⟩
  have H2 := H1.out.alloc (.cells #[.string ⟨#[101, 97, 99, 104]⟩] 9)
  have hx2 := new_blk w1 (.cells #[.string ⟨#[101, 97, 99, 104]⟩] 9)
  rw [hw2] at H2 hx2 ⊢
  refine (openG [wEach] _ br (WG.refl (s := (l, top)) H2 HW.out) HA.out (Strs.one hx2 ⟨.inr rfl, fun e => by omega⟩)).mono ?_
  intro e4 w4 h9
  have h9 := WP.unalloc H1.out (by rw [hw2]; exact h9)
  have HR1 := HR.out
  unfold stmtKW at HR1
  simp only [if_true, if_false, Int.reduceEq] at HR1
  rcases hr : openS br [wEach] (l, top) with _ | ⟨b4, s1⟩
  · rw [hr] at h9 HR1
    obtain rfl := h9.none
    have h9 := HUN.out _ _ _ h9
    exact ⟨rfl, WP.no (by rw [← HR1]; rfl) h9.low h9.keep⟩
  rw [hr] at h9 HR1
  obtain ⟨rfl, g4⟩ := h9.some
  have hol := openS_len hr
  simp only [andB] at hol HR1
  obtain ⟨rfl, hol⟩ := hol
  have G4 := hid g4; have HR2 := hid HR1; have HLT := hid hol
  clear h9 g4 hr HR1 hol hx2 H2 hw2
  have y5 := blk_cell ((G4.out.keep w.heap.size (.inr rfl) hpn).trans HX1.out) 5
  go_wp2_with fail
  go_loopw [10, 69] (fun s10 s69 wr => ∃ (k : Nat) (s2 : WSt), s69 = .int .i64 (k : Int) ∧ k ≤ acts.length ∧ Hid (WG w1 wr lo (fun b => ex b ∨ b = w.heap.size) pb D s2) ∧ l.length < s2.1.length ∧ Hid (actsWS es (l.length : Int) (acts.drop k) s2 = R)) (fun s10 s69 wr => acts.length - cnt s69)
  case atStart => exact ⟨0, s1, rfl, Nat.zero_le _, G4, HLT.out, by simpa using HR2⟩
  case round =>
    obtain ⟨k, s2, rfl, hk, G, hlt1, HR3⟩ := hrel
    by_cases hlt : k < acts.length
    · have hAr : Acts wr (fun b => b < lo) (.slice AA acts.length ac) acts := HAC.out.imp fun b hD _ => ⟨hD, G.out.low.block b hD⟩
      obtain ⟨A', c', hev, _, _, hall⟩ := hAr.out
      obtain ⟨b, off, rfl, hDb, hcs⟩ := hall (by omega)
      simp only [Value.slice.injEq] at hev
      obtain ⟨rfl, _, rfl⟩ := hev
      obtain ⟨cs, hr, _, hc⟩ := hcs k hlt
      obtain ⟨a, ha⟩ : ∃ a, nth acts k = a := ⟨_, rfl⟩
      have hdr : acts.drop k = a :: acts.drop (k + 1) := by rw [drop_nth hlt, ha]
      have hop9 : 0 ≤ a.op := HOPX.out.2 a (by rw [← ha]; exact nth_mem hlt)
      rw [ha] at hr
      have hr' : cs = a.cells := hr
      subst hr'
      obtain ⟨ak, an, ao, ai, ae, acn⟩ := a
      have x0 := hc 0 _ rfl; have x1 := hc 1 _ rfl; have x2 := hc 2 _ rfl; have x3 := hc 3 _ rfl; have x4 := hc 4 _ rfl; have x5 := hc 5 _ rfl
      simp only [Nat.add_zero] at x0
      have hR3 := HR3.out
      rw [hdr] at hR3
      simp only [actsWS] at hR3
      have HR4 := hid hR3
      obtain ⟨wa, hwa⟩ : ∃ wa, wr.alloc (.cells #[.int .u8 ak, .string an, .int .u8 ao, .bool ai, .int .i64 ae, .int .i64 acn] 137) = wa := ⟨_, rfl⟩
      have ga : WG w1 wa lo (fun b => ex b ∨ b = w.heap.size) pb D s2 := by rw [← hwa]; exact G.out.below ((Below.refl _ _).alloc (Nat.le_refl _) _)
      have GA := hid ga; have HWA := hid hwa
      clear hAr hall hcs hc hr hdr ha HR3 hR3 hwa ga
      go_wp2_with fail
      rw [HWA.out]
      refine (actG es HO.out.e (l.length : Int) { kind := ak, name := an, op := ao, inn := ai, e := ae, cond := acn } GA.out (.inr ⟨l.length, rfl, hlt1⟩) (HP.out.below GA.out.low).exprs hop9).mono ?_
      intro e5 w5 h9
      rcases hr : actWS es (l.length : Int) { kind := ak, name := an, op := ao, inn := ai, e := ae, cond := acn } s2 with _ | s3
      · rw [hr] at h9
        obtain rfl := h9.none
        have h9 := HUN.out _ _ _ h9
        exact ⟨rfl, WP.no (by rw [← HR4.out, hr]; rfl) h9.low h9.keep⟩
      · rw [hr] at h9
        obtain ⟨rfl, g5⟩ := h9.some
        have hl3 := actWS_len hr
        have G5 := hid g5; have HR5 := hid (show actsWS es (l.length : Int) (acts.drop (k + 1)) s3 = R by rw [← HR4.out, hr])
        clear h9 g5 hr HR4 x0 x1 x2 x3 x4 x5
        go_wp2_with fail
        go_roundw
        case rel => exact ⟨k + 1, s3, by simp, by omega, G5, by omega, HR5⟩
        case measure => simp only [cnt]; omega
    · have hk' : k = acts.length := by omega
      subst hk'
      have hR3 := HR3.out
      rw [List.drop_length] at hR3
      simp only [actsWS] at hR3
      have HR4 := hid hR3
      clear HR3 hR3
      go_wp2
      go_end0
      exact HUN.out _ _ _ (G.out.ok (by rw [← HR4.out]; rfl))
end Go.Proofs.Ytgaginegcjpddaa
/- The program's writer: a statement, kind by kind. (printed by gen_wstmt.py) -/
namespace Go.Proofs.Ytgaginegcjpddaa
open Go.RowKit
set_option maxHeartbeats 3200000 in
set_option maxRecDepth 100000 in
theorem stmtW_if (es : List Expr) (ss : List PStmt) (hops : OpsOk es ss) (f : Nat) (ih : StmtWC es ss f) (br : Int) (n : Nat) (op e cond : Int) (nm : ByteArray) (acts : List PAct) (thn els : List Int) (w : World) (lo pb : Nat) (ex : Nat → Prop) (D S : Nat → Value) (l : List Form) (top : List Int) (h : WX w lo ex pb D S l top) (hwf : WWf l top) (hbr : WAt br l) (hP : WD w lo D es ss) (hn : n < ss.length) (hnf : n ≤ f) (hx : nth ss n = { kind := 4, name := nm, op := op, e := e, cond := cond, acts := acts, thn := thn, els := els }) :
    Calls Try.prog 32 #[.pointer (some ⟨pb, 0, none⟩), .int .i64 br, .int .i64 (n : Int)] w (WP w lo ex pb D (unitR (stmtKW es { kind := 4, name := nm, op := op, e := e, cond := cond, acts := acts, thn := thn, els := els } br (n : Int) (fun b k s => stmtWS es ss f b k s) (l, top)))) := by
  obtain ⟨xb, xo, xc, av, tv, ev, hD2, hxb, hcells, hacts, hthn, hels⟩ := hP.stmts.at_ hn
  have hopx := hops.s _ (nth_mem hn)
  rw [hx] at hcells hacts hthn hels hopx
  obtain ⟨AA, ac, rfl, _, _⟩ := hacts.slice
  obtain ⟨TA, tc, rfl, _, _⟩ := hthn.slice
  obtain ⟨EA, ec, rfl, _, _⟩ := hels.slice
  have c0 := hcells 0 _ rfl; have c1 := hcells 1 _ rfl; have c2 := hcells 2 _ rfl; have c3 := hcells 3 _ rfl; have c4 := hcells 4 _ rfl; have c5 := hcells 5 _ rfl; have c6 := hcells 6 _ rfl; have c7 := hcells 7 _ rfl
  simp only [Nat.add_zero] at c0
  obtain ⟨XA, xec, hD1, _, _⟩ := hP.exprs.slice
  have hB := h.blk
  rw [hD1, hD2] at hB
  have q2 := blk_cell hB 2
  have hn0 : (0 : Int) ≤ (n : Int) := by omega
  have hn1 : (n : Int) < (ss.length : Int) := by omega
  obtain ⟨w1, hw1⟩ : ∃ w1, w.alloc (.cells #[.int .u8 4, .string nm, .int .u8 op, .int .i64 e, .int .i64 cond, .slice AA acts.length ac, .slice TA thn.length tc, .slice EA els.length ec] 77) = w1 := ⟨_, rfl⟩
  have h1 := h.alloc (.cells #[.int .u8 4, .string nm, .int .u8 op, .int .i64 e, .int .i64 cond, .slice AA acts.length ac, .slice TA thn.length tc, .slice EA els.length ec] 77)
  have hx1 := new_blk w (.cells #[.int .u8 4, .string nm, .int .u8 op, .int .i64 e, .int .i64 cond, .slice AA acts.length ac, .slice TA thn.length tc, .slice EA els.length ec] 77)
  rw [hw1] at h1 hx1
  have hB1 : Below lo w w1 := by rw [← hw1]; exact (Below.refl _ _).alloc h.ft.lows.1 _
  have hun : ∀ r e w', WP w1 lo (fun b => ex b ∨ b = w.heap.size) pb D r e w' → WP w lo ex pb D r e w' := fun r e w' h9 => WP.unalloc h (by rw [hw1]; exact h9)
  have hpn : w.heap.size ≠ pb := fun e => by have := blk_lt h.blk; omega
  have hpl := blk_lt h1.blk
  have hS1 := h1.ft.lt
  have hB1' := h1.blk
  rw [hD1, hD2] at hB1'
  have q1 := blk_cell hB1' 1
  have z0 := blk_cell hx1 0
  have H1 := hid h1; have HW := hid hwf; have HA := hid hbr; have HP := hid (hP.below hB1); have HX1 := hid hx1; have HUN := hid hun; have HO := hid hops; have HW1 := hid hw1; have HS1 := hid hS1; have IH := hid ih; have HOPX := hid hopx
  have HAC := hid (hacts.imp (w' := w1) (D' := fun b => b < lo) fun b hD _ => ⟨hD, hB1.block b hD⟩)
  have HTH := hid (hthn.imp (w' := w1) (D' := fun b => b < lo) fun b hD _ => ⟨hD, hB1.block b hD⟩)
  have HEL := hid (hels.imp (w' := w1) (D' := fun b => b < lo) fun b hD _ => ⟨hD, hB1.block b hD⟩)
  generalize hgr : stmtKW es { kind := 4, name := nm, op := op, e := e, cond := cond, acts := acts, thn := thn, els := els } br (n : Int) (fun b k s => stmtWS es ss f b k s) (l, top) = R
  have HR := hid hgr
  have hcell : ∀ W lo' S' s' br' ws o w', w1.heap.size ≤ W.heap.size → W.heap[w.heap.size]? = w1.heap[w.heap.size]? → OI W lo' (fun b => ex b ∨ b = w.heap.size) pb D S' s' br' ws o w' → ∀ j, w'.cell? ⟨w.heap.size, j, none⟩ = (#[.int .u8 4, .string nm, .int .u8 op, .int .i64 e, .int .i64 cond, .slice AA acts.length ac, .slice TA thn.length tc, .slice EA els.length ec] : Array Value)[j]? := fun W lo' S' s' br' ws o w' _ hW hI j => hI.cell (hW.trans hx1) (.inr rfl) hpn j
  have HCELL := hid hcell
  clear h hwf hbr hP hx1 hun hops h1 hw1 hgr hB1 hS1 hB hcells hacts hthn hels hx ih hB1' hopx hcell
  go_enter Try.func32, Try.ntmps32
  go_upto_region 1 with fail
  rw [HW1.out]
  clear c0 c1 c2 c3 c4 c5 c6 c7 q2
  go_wp2_with fail
  have hz : w.heap.size + 1 = w1.heap.size := by rw [← HW1.out]; simp
  obtain ⟨w2, hw2⟩ : ∃ w2, w1.alloc (.cells #[.string ⟨#[105, 102]⟩] 9) = w2 := ⟨_, rfl⟩
  have H2 := H1.out.alloc (.cells #[.string ⟨#[105, 102]⟩] 9)
  have hx2 := new_blk w1 (.cells #[.string ⟨#[105, 102]⟩] 9)
  rw [hw2] at H2 hx2 ⊢
  refine (openG [wIf] _ br (WG.refl (s := (l, top)) H2 HW.out) HA.out (Strs.one hx2 ⟨.inr rfl, fun e => by omega⟩)).mono ?_
  intro e4 w4 h9
  have h9 := WP.unalloc H1.out (by rw [hw2]; exact h9)
  have HR1 := HR.out
  unfold stmtKW at HR1
  simp only [if_true, if_false, Int.reduceEq] at HR1
  rcases hr : openS br [wIf] (l, top) with _ | ⟨b4, s1⟩
  · rw [hr] at h9 HR1
    obtain rfl := h9.none
    have h9 := HUN.out _ _ _ h9
    exact ⟨rfl, WP.no (by rw [← HR1]; rfl) h9.low h9.keep⟩
  rw [hr] at h9 HR1
  obtain ⟨rfl, g4⟩ := h9.some
  have hol := openS_len hr
  simp only [andB] at hol HR1
  obtain ⟨rfl, hol⟩ := hol
  have G4 := hid g4; have HR2 := hid HR1; have HLT := hid hol
  clear h9 g4 hr HR1 hol hx2 H2 hw2
  have y3 := blk_cell ((G4.out.keep w.heap.size (.inr rfl) hpn).trans HX1.out) 3
  go_wp2_with fail
  refine (exprG es HO.out.e (l.length : Int) es.length e G4.out (.inr ⟨l.length, rfl, HLT.out⟩) (HP.out.below G4.out.low).exprs).mono ?_
  intro e5 w5 h9
  have h9 : WP w1 lo (fun b => ex b ∨ b = w.heap.size) pb D (unitR (exprW1 es (l.length : Int) e s1)) e5 w5 := h9
  have hR5 := HR2.out
  rcases hr5 : exprW1 es (l.length : Int) e s1 with _ | s2
  · rw [hr5] at h9 hR5
    obtain rfl := h9.none
    have h9 := HUN.out _ _ _ h9
    exact ⟨rfl, WP.no (by rw [← hR5]; rfl) h9.low h9.keep⟩
  rw [hr5] at h9 hR5
  obtain ⟨rfl, g5⟩ := h9.some
  simp only [andS] at hR5
  have G5 := hid g5; have HR5 := hid hR5
  have hl5 : l.length < s2.1.length := by have := exprWS_len es _ _ _ _ _ _ hr5; have := HLT.out; omega
  clear h9 g5 hr5 hR5 y3
  obtain ⟨S5, hXw5⟩ := G5.out.out
  have Hw5 := hid hXw5
  have hKw5 := (G5.out.keep w.heap.size (.inr rfl) hpn)
  have HCw5 : ∀ o w', OI w5 lo (fun b => ex b ∨ b = w.heap.size) pb D S5 s2 (l.length : Int) [] o w' → _ := fun o w' hI => HCELL.out _ _ _ _ _ _ o w' (by have := (G5.out.low.size); omega) hKw5 hI
  clear hXw5
  go_upto_region 18 with fail
  refine wp_region_rg2 7 (fun dn w' => OI w5 lo (fun b => ex b ∨ b = w.heap.size) pb D S5 s2 (l.length : Int) [] (dn 3) w') (fun j v w' => match j with
      | 0 => v = .pointer (some ⟨pb, 0, none⟩)
      | 1 => v = .pointer (some ⟨pb, 0, none⟩)
      | 2 => v = .int .i64 (l.length : Int)
      | 3 => v = .int .i64 (s2.1.length : Int)
      | 4 => v = .pointer (some ⟨w.heap.size, 6, none⟩)
      | 5 => v = .slice TA thn.length tc
      | 6 => v = .int .i64 (n : Int)
      | _ => True) (by kernel_rfl) (by kernel_rfl) (by rfl) (OI.start (s := s2) Hw5.out) ?rgO ?rgE
  case rgO =>
    refine ⟨?_, ?_, ?_, ?_, ?_, ?_, ?_, trivial⟩
    · refine RgOk2.val rfl (fun dn w h => by simpa [dn1] using h) fun a wq dn hI hD hF => ⟨?_, ?_, ?_⟩
      rotate_left 2
      · exact rfl
      · have s0 : a.tmps.getD 0 undef = _ := hF.get 0 rfl; simp [execOp, go_sem, Act.eval, s0]
    · refine RgOk2.val rfl (fun dn w h => by simpa [dn1] using h) fun a wq dn hI hD hF => ⟨?_, ?_, ?_⟩
      rotate_left 2
      · exact rfl
      · have s0 : a.tmps.getD 0 undef = _ := hF.get 0 rfl; simp [execOp, go_sem, Act.eval, s0]
    · refine RgOk2.val rfl (fun dn w h => by simpa [dn1] using h) fun a wq dn hI hD hF => ⟨?_, ?_, ?_⟩
      rotate_left 2
      · exact rfl
      · have s11 : a.tmps.getD 11 undef = _ := hF.get 11 rfl; simp [execOp, go_sem, Act.eval, s11]
    · refine RgOk2.call rfl 54 fun a wq dn h0 hcl hI hD hF => ?_
      rw [h0] at hI
      have d1 : a.tmps.getD 91 undef = _ := hD.get 1 rfl rfl rfl
      have d2 : a.tmps.getD 92 undef = _ := hD.get 2 rfl rfl rfl
      simp only [Array.getD_eq_getD_getElem?] at d1 d2
      refine ⟨#[.pointer (some ⟨pb, 0, none⟩), .int .i64 (l.length : Int), .slice none 0 0], by simp [execOp, go_sem, Act.eval, d1, d2], ?_⟩
      refine (hI.open0 G5.out.wf (.inr ⟨l.length, rfl, hl5⟩)).mono ?_
      rintro e' w' (⟨rfl, hO⟩ | ⟨rfl, hn, hl, hk⟩)
      exact .inl ⟨_, rfl, by simpa [dn1] using hO, rfl, fun i u hi hd hp => by (split at hp <;> first | exact hp | exact absurd rfl hi)⟩
      have h9 := HUN.out none _ _ (WP.then G5.out.low G5.out.keep (WP.no (D := D) (pb := pb) rfl hl hk))
      exact .inr ⟨_, rfl, hF.1, WP.no (by rw [← HR5.out]; rw [show openS (l.length : Int) [] s2 = none from hn]; rfl) h9.low h9.keep⟩
    · refine RgOk2.val rfl (fun dn w h => by simpa [dn1] using h) fun a wq dn hI hD hF => ⟨?_, ?_, ?_⟩
      rotate_left 2
      · exact rfl
      · have s6 : a.tmps.getD 6 undef = _ := hF.get 6 rfl; simp [execOp, go_sem, Act.eval, s6]
    · refine RgOk2.val rfl (fun dn w h => by simpa [dn1] using h) fun a wq dn hI hD hF => ⟨?_, ?_, ?_⟩
      rotate_left 2
      · exact rfl
      · have d4 : a.tmps.getD 94 undef = _ := hD.get 4 rfl rfl rfl; simp [execOp, go_sem, Act.eval, d4, HCw5 _ _ hI 6]
    · refine RgOk2.val rfl (fun dn w h => by simpa [dn1] using h) fun a wq dn hI hD hF => ⟨?_, ?_, ?_⟩
      rotate_left 2
      · exact rfl
      · have s2 : a.tmps.getD 2 undef = _ := hF.get 2 rfl; simp [execOp, go_sem, Act.eval, s2]
  case rgE =>
    intro vs w6 hI hP4
    obtain ⟨s3, hr, g4⟩ := hI.b rfl
    have e0 : vs 0 = _ := hP4 0 _ _ (by omega) rfl rfl
    have e3 : vs 3 = _ := hP4 3 _ _ (by omega) rfl rfl
    have e5 : vs 5 = _ := hP4 5 _ _ (by omega) rfl rfl
    have e6 : vs 6 = _ := hP4 6 _ _ (by omega) rfl rfl
    simp only [rgPut, List.take, List.drop, Nat.zero_add, Nat.reduceAdd, e0, e3, e5, e6]
    have hR2 := HR5.out
    rw [hr] at hR2
    simp only [andB] at hR2
    have hol := (openS_len hr).2
    have G6 := hid g4; have HR6 := hid hR2; have HL6 := hid hol
    clear hI hP4 g4 hR2 hr hol e0 e3 e5 e6
    have G6b := hid (G5.out.trans G6.out)
    have HT6 := hid (HTH.out.imp (w' := w6) (D' := fun b => b < lo) fun b hD _ => ⟨hD, G6b.out.low.block b hD⟩)
    go_wp2_with fail
    refine (stmtsG es ss f IH.out (s2.1.length : Int) (n : Int) thn _ G6b.out (.inr ⟨s2.1.length, rfl, HL6.out⟩) (HP.out.below G6b.out.low) HT6.out (by omega)).mono ?_
    intro e5 w7 h9
    have h9 : WP w1 lo (fun b => ex b ∨ b = w.heap.size) pb D (unitR (subWS (fun k s => stmtWS es ss f (s2.1.length : Int) k s) (n : Int) thn s3)) e5 w7 := h9
    have hR5 := HR6.out
    rcases hr5 : subWS (fun k s => stmtWS es ss f (s2.1.length : Int) k s) (n : Int) thn s3 with _ | s4
    · rw [hr5] at h9 hR5
      obtain rfl := h9.none
      have h9 := HUN.out _ _ _ h9
      exact ⟨rfl, WP.no (by rw [← hR5]; rfl) h9.low h9.keep⟩
    rw [hr5] at h9 hR5
    obtain ⟨rfl, g5⟩ := h9.some
    simp only [andS] at hR5
    have G7 := hid g5; have HR7 := hid hR5
    have hl7 : l.length < s4.1.length := by have := subWS_len (fun k s r h => stmtWS_len es ss f _ k s r h) hr5; have := HL6.out; omega
    clear h9 g5 hr5 hR5
    obtain ⟨S7, hXw7⟩ := G7.out.out
    have Hw7 := hid hXw7
    have hKw7 := (G7.out.keep w.heap.size (.inr rfl) hpn)
    have HCw7 : ∀ o w', OI w7 lo (fun b => ex b ∨ b = w.heap.size) pb D S7 s4 (l.length : Int) [] o w' → _ := fun o w' hI => HCELL.out _ _ _ _ _ _ o w' (by have := (G7.out.low.size); omega) hKw7 hI
    clear hXw7
    go_upto_region 19 with fail
    refine wp_region_rg2 7 (fun dn w' => OI w7 lo (fun b => ex b ∨ b = w.heap.size) pb D S7 s4 (l.length : Int) [] (dn 3) w') (fun j v w' => match j with
        | 0 => v = .pointer (some ⟨pb, 0, none⟩)
        | 1 => v = .pointer (some ⟨pb, 0, none⟩)
        | 2 => v = .int .i64 (l.length : Int)
        | 3 => v = .int .i64 (s4.1.length : Int)
        | 4 => v = .pointer (some ⟨w.heap.size, 7, none⟩)
        | 5 => v = .slice EA els.length ec
        | 6 => v = .int .i64 (n : Int)
        | _ => True) (by kernel_rfl) (by kernel_rfl) (by rfl) (OI.start (s := s4) Hw7.out) ?rgO ?rgE
    case rgO =>
      refine ⟨?_, ?_, ?_, ?_, ?_, ?_, ?_, trivial⟩
      · refine RgOk2.val rfl (fun dn w h => by simpa [dn1] using h) fun a wq dn hI hD hF => ⟨?_, ?_, ?_⟩
        rotate_left 2
        · exact rfl
        · have s0 : a.tmps.getD 0 undef = _ := hF.get 0 rfl; simp [execOp, go_sem, Act.eval, s0]
      · refine RgOk2.val rfl (fun dn w h => by simpa [dn1] using h) fun a wq dn hI hD hF => ⟨?_, ?_, ?_⟩
        rotate_left 2
        · exact rfl
        · have s0 : a.tmps.getD 0 undef = _ := hF.get 0 rfl; simp [execOp, go_sem, Act.eval, s0]
      · refine RgOk2.val rfl (fun dn w h => by simpa [dn1] using h) fun a wq dn hI hD hF => ⟨?_, ?_, ?_⟩
        rotate_left 2
        · exact rfl
        · have s11 : a.tmps.getD 11 undef = _ := hF.get 11 rfl; simp [execOp, go_sem, Act.eval, s11]
      · refine RgOk2.call rfl 54 fun a wq dn h0 hcl hI hD hF => ?_
        rw [h0] at hI
        have d1 : a.tmps.getD 99 undef = _ := hD.get 1 rfl rfl rfl
        have d2 : a.tmps.getD 100 undef = _ := hD.get 2 rfl rfl rfl
        simp only [Array.getD_eq_getD_getElem?] at d1 d2
        refine ⟨#[.pointer (some ⟨pb, 0, none⟩), .int .i64 (l.length : Int), .slice none 0 0], by simp [execOp, go_sem, Act.eval, d1, d2], ?_⟩
        refine (hI.open0 G7.out.wf (.inr ⟨l.length, rfl, hl7⟩)).mono ?_
        rintro e' w' (⟨rfl, hO⟩ | ⟨rfl, hn, hl, hk⟩)
        exact .inl ⟨_, rfl, by simpa [dn1] using hO, rfl, fun i u hi hd hp => by (split at hp <;> first | exact hp | exact absurd rfl hi)⟩
        have h9 := HUN.out none _ _ (WP.then G7.out.low G7.out.keep (WP.no (D := D) (pb := pb) rfl hl hk))
        exact .inr ⟨_, rfl, hF.1, WP.no (by rw [← HR7.out]; rw [show openS (l.length : Int) [] s4 = none from hn]; rfl) h9.low h9.keep⟩
      · refine RgOk2.val rfl (fun dn w h => by simpa [dn1] using h) fun a wq dn hI hD hF => ⟨?_, ?_, ?_⟩
        rotate_left 2
        · exact rfl
        · have s6 : a.tmps.getD 6 undef = _ := hF.get 6 rfl; simp [execOp, go_sem, Act.eval, s6]
      · refine RgOk2.val rfl (fun dn w h => by simpa [dn1] using h) fun a wq dn hI hD hF => ⟨?_, ?_, ?_⟩
        rotate_left 2
        · exact rfl
        · have d4 : a.tmps.getD 102 undef = _ := hD.get 4 rfl rfl rfl; simp [execOp, go_sem, Act.eval, d4, HCw7 _ _ hI 7]
      · refine RgOk2.val rfl (fun dn w h => by simpa [dn1] using h) fun a wq dn hI hD hF => ⟨?_, ?_, ?_⟩
        rotate_left 2
        · exact rfl
        · have s2 : a.tmps.getD 2 undef = _ := hF.get 2 rfl; simp [execOp, go_sem, Act.eval, s2]
    case rgE =>
      intro vs w8 hI hP4
      obtain ⟨s5, hr, g4⟩ := hI.b rfl
      have e0 : vs 0 = _ := hP4 0 _ _ (by omega) rfl rfl
      have e3 : vs 3 = _ := hP4 3 _ _ (by omega) rfl rfl
      have e5 : vs 5 = _ := hP4 5 _ _ (by omega) rfl rfl
      have e6 : vs 6 = _ := hP4 6 _ _ (by omega) rfl rfl
      simp only [rgPut, List.take, List.drop, Nat.zero_add, Nat.reduceAdd, e0, e3, e5, e6]
      have hR2 := HR7.out
      rw [hr] at hR2
      simp only [andB] at hR2
      have hol := (openS_len hr).2
      have G8 := hid g4; have HR8 := hid hR2; have HL8 := hid hol
      clear hI hP4 g4 hR2 hr hol e0 e3 e5 e6
      have G8b := hid (G7.out.trans G8.out)
      have HE8 := hid (HEL.out.imp (w' := w8) (D' := fun b => b < lo) fun b hD _ => ⟨hD, G8b.out.low.block b hD⟩)
      go_wp2_with fail
      refine (stmtsG es ss f IH.out (s4.1.length : Int) (n : Int) els _ G8b.out (.inr ⟨s4.1.length, rfl, HL8.out⟩) (HP.out.below G8b.out.low) HE8.out (by omega)).mono ?_
      intro e5 w9 h9
      have h9 := HUN.out _ _ _ h9
      have hR5 := HR8.out
      rw [show subWS (fun k s => stmtWS es ss f (s4.1.length : Int) k s) (n : Int) els s5 = R from hR5] at h9
      rcases R with _ | s9
      · obtain rfl := h9.none
        exact ⟨rfl, h9⟩
      · obtain ⟨rfl, g5⟩ := h9.some
        have H9 := hid h9
        clear h9 g5 hR5
        go_wp2
        go_end0
        exact H9.out
end Go.Proofs.Ytgaginegcjpddaa
/- The program's writer: a statement, whatever it is. -/
namespace Go.Proofs.Ytgaginegcjpddaa
open Go.RowKit
theorem stmtWC_all (es : List Expr) (ss : List PStmt) (hops : OpsOk es ss) : ∀ f, StmtWC es ss f
  | 0 => fun br n w w1 lo pb ex D s hnf => by omega
  | f + 1 => fun br n w w1 lo pb ex D s hnf hn g hbr hP => by
    obtain ⟨S, hX⟩ := g.out
    have ih := stmtWC_all es ss hops f
    obtain ⟨⟨k, nm, op, e, cond, acts, thn, els⟩, hx⟩ : ∃ x, nth ss n = x := ⟨_, rfl⟩
    have key : Calls Try.prog 32 #[.pointer (some ⟨pb, 0, none⟩), .int .i64 br, .int .i64 (n : Int)] w1 (WP w1 lo ex pb D (unitR (stmtKW es { kind := k, name := nm, op := op, e := e, cond := cond, acts := acts, thn := thn, els := els } br (n : Int) (fun b k s => stmtWS es ss f b k s) (s.1, s.2)))) := by
      by_cases k1 : k = 1
      · subst k1; exact stmtW_set es ss hops f ih br n op e cond nm acts thn els w1 lo pb ex D S s.1 s.2 hX g.wf hbr hP hn (by omega) hx
      by_cases k2 : k = 2
      · subst k2; exact stmtW_fold es ss hops f ih br n op e cond nm acts thn els w1 lo pb ex D S s.1 s.2 hX g.wf hbr hP hn (by omega) hx
      by_cases k3 : k = 3
      · subst k3; exact stmtW_each es ss hops f ih br n op e cond nm acts thn els w1 lo pb ex D S s.1 s.2 hX g.wf hbr hP hn (by omega) hx
      by_cases k4 : k = 4
      · subst k4; exact stmtW_if es ss hops f ih br n op e cond nm acts thn els w1 lo pb ex D S s.1 s.2 hX g.wf hbr hP hn (by omega) hx
      by_cases k5 : k = 5
      · subst k5; exact stmtW_while es ss hops f ih br n op e cond nm acts thn els w1 lo pb ex D S s.1 s.2 hX g.wf hbr hP hn (by omega) hx
      by_cases k6 : k = 6
      · subst k6; exact stmtW_loop es ss hops f ih br n op e cond nm acts thn els w1 lo pb ex D S s.1 s.2 hX g.wf hbr hP hn (by omega) hx
      by_cases k7 : k = 7
      · subst k7; exact stmtW_bfs es ss hops f ih br n op e cond nm acts thn els w1 lo pb ex D S s.1 s.2 hX g.wf hbr hP hn (by omega) hx
      exact stmtW_bad es ss hops f ih br n k op e cond nm acts thn els w1 lo pb ex D S s.1 s.2 hX g.wf hbr hP hn (by omega) hx (by omega)
    have hE : stmtWS es ss (f + 1) br (n : Int) s = stmtKW es { kind := k, name := nm, op := op, e := e, cond := cond, acts := acts, thn := thn, els := els } br (n : Int) (fun b k s => stmtWS es ss f b k s) (s.1, s.2) := by
      show stmtKW es (nth ss (n : Int).toNat) br (n : Int) _ s = _
      rw [Int.toNat_natCast, hx]
    rw [hE]
    exact key.mono fun e w' h => h.then g.low g.keep
/-- as the writer goes on -/
theorem stmtG (es : List Expr) (ss : List PStmt) (hops : OpsOk es ss) (br : Int) (n : Nat) {w w1 : World} {lo pb : Nat} {ex : Nat → Prop} {D : Nat → Value} {s : WSt} (hn : n < ss.length) (g : WG w w1 lo ex pb D s) (hbr : WAt br s.1) (hP : WD w1 lo D es ss) :
    Calls Try.prog 32 #[.pointer (some ⟨pb, 0, none⟩), .int .i64 br, .int .i64 (n : Int)] w1 (WP w lo ex pb D (unitR (stmtWS es ss ss.length br (n : Int) s))) :=
  stmtWC_all es ss hops ss.length br n w w1 lo pb ex D s hn hn g hbr hP
end Go.Proofs.Ytgaginegcjpddaa
/- The program's writer: declarations. -/
namespace Go.Proofs.Ytgaginegcjpddaa
open Go.RowKit
def declWord (k : Int × Int) : Option ByteArray := (declL.find? (fun p => p.2 == k)).map (·.1)
/-- a declaration's bracket -/
def declareS (d : PDecl) (s : WSt) : Option WSt :=
  match declWord (d.side, d.kind) with
  | none => none
  | some wd => sndS (openS (-1) [wd, d.name] s)
theorem declWord_some {p : ByteArray × Int × Int} (hp : p ∈ declL) : declWord p.2 = some p.1 := by
  simp only [declL, List.mem_cons, List.not_mem_nil, or_false] at hp
  rcases hp with rfl | rfl | rfl | rfl | rfl | rfl <;> rfl
theorem declWord_none {k : Int × Int} (h : ∀ p ∈ declL, p.2 ≠ k) : declWord k = none := by
  unfold declWord
  rw [List.find?_eq_none.2 (fun p hp => by simpa using h p hp)]
  rfl
theorem filter_lt {α : Type} {p q : α → Bool} : ∀ {l : List α} {e : α}, (∀ x, q x = true → p x = true) → e ∈ l → p e = true → q e = false → (l.filter q).length < (l.filter p).length
  | [], e, _, he, _, _ => by cases he
  | x :: l, e, h, he, h1, h2 => by
    have hle : (l.filter q).length ≤ (l.filter p).length := by
      clear he
      induction l with
      | nil => simp
      | cons y l ih =>
        simp only [List.filter_cons]
        cases hq : q y with
        | true => rw [if_pos rfl, if_pos (h y hq)]; simpa using ih
        | false => rw [if_neg (by simp)]; split <;> (try simp only [List.length_cons]) <;> omega
    rcases List.mem_cons.1 he with rfl | he
    · simp only [List.filter_cons, h1, h2, if_true, Bool.false_eq_true, if_false, List.length_cons]; omega
    · have ih := filter_lt (l := l) h he h1 h2
      simp only [List.filter_cons]
      cases hq : q x with
      | true => rw [if_pos rfl, if_pos (h x hq)]; simpa using ih
      | false => rw [if_neg (by simp)]; split <;> (try simp only [List.length_cons]) <;> omega
def declEs : List MapEntry := declL.zipIdx.map declE
theorem declEs_mem {e : MapEntry} (h : e ∈ declEs) : ∃ p ∈ declL, e.key = .string p.1 ∧ e.val = .agg #[.string ⟨#[]⟩, .int .u8 p.2.1, .int .u8 p.2.2] ∧ e.born < 6 := by
  simp only [declEs, declL, List.zipIdx_cons, List.zipIdx_nil, List.map_cons, List.map_nil, List.mem_cons, List.not_mem_nil, or_false] at h
  rcases h with rfl | rfl | rfl | rfl | rfl | rfl
  · exact ⟨(wInt, 1, 1), by simp [declL], rfl, rfl, by decide⟩
  · exact ⟨(wBool, 1, 2), by simp [declL], rfl, rfl, by decide⟩
  · exact ⟨(wNint, 2, 1), by simp [declL], rfl, rfl, by decide⟩
  · exact ⟨(wNbool, 2, 2), by simp [declL], rfl, rfl, by decide⟩
  · exact ⟨(wEint, 3, 1), by simp [declL], rfl, rfl, by decide⟩
  · exact ⟨(wEbool, 3, 2), by simp [declL], rfl, rfl, by decide⟩
theorem declEs_of {p : ByteArray × Int × Int} (hp : p ∈ declL) : ∃ e ∈ declEs, e.val = declV p.2 := by
  simp only [declL, List.mem_cons, List.not_mem_nil, or_false] at hp
  rcases hp with rfl | rfl | rfl | rfl | rfl | rfl
  · exact ⟨declE ((wInt, 1, 1), 0), by simp [declEs, declL], rfl⟩
  · exact ⟨declE ((wBool, 1, 2), 1), by simp [declEs, declL], rfl⟩
  · exact ⟨declE ((wNint, 2, 1), 2), by simp [declEs, declL], rfl⟩
  · exact ⟨declE ((wNbool, 2, 2), 3), by simp [declEs, declL], rfl⟩
  · exact ⟨declE ((wEint, 3, 1), 4), by simp [declEs, declL], rfl⟩
  · exact ⟨declE ((wEbool, 3, 2), 5), by simp [declEs, declL], rfl⟩
theorem declEs_nodup : (declEs.map (·.born)).Nodup := by
  simp [declEs, declL, declE]
def iterLeft (w : World) (r : Nat) : Nat := match w.heap[r]? with
  | some (.mapIter _ _ seen _) => (declEs.filter (fun e => !seen.contains e.born)).length
  | _ => 0
set_option maxHeartbeats 3200000 in
set_option maxRecDepth 100000 in
theorem declareW (d : PDecl) (w : World) (lo pb : Nat) (ex : Nat → Prop) (D S : Nat → Value) (l : List Form) (top : List Int) (h : WX w lo ex pb D S l top) (hwf : WWf l top) :
    Calls Try.prog 30 #[.pointer (some ⟨pb, 0, none⟩), .agg #[.string d.name, .int .u8 d.side, .int .u8 d.kind]] w (WP w lo ex pb D (unitR (declareS d (l, top)))) := by
  obtain ⟨nm, sd, kd⟩ := d
  simp only
  obtain ⟨w1, hw1⟩ : ∃ w1, w.alloc (.cells #[.string nm, .int .u8 sd, .int .u8 kd] 66) = w1 := ⟨_, rfl⟩
  have h1 := h.alloc (.cells #[.string nm, .int .u8 sd, .int .u8 kd] 66)
  have hx1 := new_blk w (.cells #[.string nm, .int .u8 sd, .int .u8 kd] 66)
  rw [hw1] at h1 hx1
  have hB1 : Below lo w w1 := by rw [← hw1]; exact (Below.refl _ _).alloc h.ft.lows.1 _
  have hun : ∀ r e w', WP w1 lo (fun b => ex b ∨ b = w.heap.size) pb D r e w' → WP w lo ex pb D r e w' := fun r e w' h9 => WP.unalloc h (by rw [hw1]; exact h9)
  have hpn : w.heap.size ≠ pb := fun e => by have := blk_lt h.blk; omega
  have hxl := blk_lt hx1
  have H1 := hid h1; have HW := hid hwf; have HX1 := hid hx1; have HUN := hid hun; have HW1 := hid hw1
  generalize hgr : declareS { name := nm, side := sd, kind := kd } (l, top) = R
  have HR := hid hgr
  clear h hwf hx1 hun h1 hw1 hgr hB1
  go_enter Try.func30, Try.ntmps30
  go_upto_region 1 with fail
  rw [HW1.out]
  have hrange : ∀ (W : World) (b : Nat), DeclMap W b → (Instr.range 102 (.map (some b))).run Try.prog W = .ok (.pointer (some ⟨W.heap.size, 0, none⟩)) (W.alloc (.mapIter (some b) 6 #[] 6)) := fun W b hM => by
    obtain ⟨ents, he1, he2⟩ := hM
    have hg : (getObj b).run Try.prog W = .ok (.map ents 6) W := by simp [getObj, Sem.run, he2]
    have hu := Go.run_underlying (show Try.prog.underlying 102 = some (.map 9 66) from Try.underlying102) W
    simp [Instr.range, hu, hg, Result.andThen]
  have HRG := hid hrange
  clear hrange
  go_wp2_with (go_at_call 38; refine (declares_any _).mono ?_; rintro e w2 ⟨b, rfl, hbl, hM, hb2⟩; have hrg := HRG.out w2 b hM; have HM := hid hM; have HB2 := hid hb2; clear hM hb2)
  have hb2 := HB2.out
  have h2 := H1.out.below hb2
  have hz2 := hb2.size
  have hlo1 := H1.out.ft.lows.1
  have H2 := hid h2
  have HX2 := hid (keep_blk hb2 HX1.out)
  clear h2 hrg
  go_loopw [4] (fun s4 wr => ∃ seen : Array Nat, Hid (wr.heap[w2.heap.size]? = some (.mapIter (some b) 6 seen 6)) ∧ Hid (Below w2.heap.size w2 wr) ∧ Hid (∀ e ∈ declEs, seen.contains e.born = true → e.val ≠ declV (sd, kd))) (fun s4 wr => iterLeft wr w2.heap.size)
  case atStart => exact ⟨#[], hid (new_blk _ _), hid ((Below.refl _ _).alloc (Nat.le_refl _) _), hid (fun e he h => by simp at h)⟩
  case round =>
    obtain ⟨seen, hit, hB, hS⟩ := hrel
    obtain ⟨ents, he1, he2⟩ := HM.out
    have hmb : wr.heap[b]? = some (.map ents 6) := (hB.out.block b (blk_lt he2)).trans he2
    have he1' : ents.toList = declEs := he1
    have hold : ∀ x ∈ ents.toList, x.born < 6 := fun x hx => by rw [he1'] at hx; obtain ⟨p, _, _, _, h4⟩ := declEs_mem hx; exact h4
    rcases _root_.Go.run_next_at (P := Try.prog) wr 0 w2.heap.size b 6 6 seen ents 6 hit.out hmb hold (Nat.le_refl _) with ⟨h0, hrun⟩ | ⟨e, he, wd, hwd, hrun⟩
    · have hall : ∀ e ∈ declEs, seen.contains e.born = true := fun e he => by
        rw [← he1'] at he
        have h5 : Go.leftOf ents seen = #[] := Array.eq_empty_of_size_eq_zero h0
        unfold Go.leftOf at h5
        rw [Array.filter_eq_empty_iff] at h5
        have := h5 e (by simpa using he)
        simpa using this
      have hnone : declWord (sd, kd) = none := declWord_none fun p hp hk => by
        obtain ⟨e, h6, h7⟩ := declEs_of hp
        exact hS.out e h6 (hall e h6) (by rw [h7, hk])
      have HRN := hid (show R = none by rw [← HR.out]; unfold declareS; simp only; rw [hnone])
      have HBr := hid (show Below lo w1 wr from (hb2.mono hlo1).trans (hB.out.mono (by omega)))
      have HKr := hid (show ∀ c, (fun b => ex b ∨ b = w.heap.size) c → c ≠ pb → wr.heap[c]? = w1.heap[c]? from fun c hc _ => (hB.out.block c (Nat.lt_of_lt_of_le (H1.out.ft.lows.2 c hc) hz2)).trans (hb2.block c (H1.out.ft.lows.2 c hc)))
      clear hall hnone hold hmb he1 he2 he1' h0
      go_wp2_with fail
      have h9 := HUN.out none _ _ (WP.no (D := D) (pb := pb) rfl HBr.out HKr.out)
      exact ⟨rfl, WP.no (by rw [HRN.out]; rfl) h9.low h9.keep⟩
    · have heL : e ∈ declEs ∧ seen.contains e.born = false := by
        unfold Go.leftOf at he
        simp only [Array.toList_filter, List.mem_filter, Bool.not_eq_true'] at he
        rw [he1'] at he
        exact he
      obtain ⟨p, hp, hkey, hval, hb6⟩ := declEs_mem heL.1
      obtain ⟨pw, ps, pk⟩ := p
      simp only at hkey hval
      rw [hkey, hval] at hrun
      have hwdh : wd.heap = wr.heap := by
        rcases hwd with h | h <;> rw [h]
        rfl
      have hwdB : Below w2.heap.size w2 wd := by
        rcases hwd with h | h
        · rw [h]; exact hB.out
        · rw [h]; exact ⟨hB.out.os, hB.out.tape, hB.out.output, hB.out.size, hB.out.block⟩
      obtain ⟨wn, hwn⟩ : ∃ wn, Go.ChangeMaps.setBlock wd w2.heap.size (.mapIter (some b) 6 (seen.push e.born) 6) = wn := ⟨_, rfl⟩
      have hrl := blk_lt hit.out
      have hitn : wn.heap[w2.heap.size]? = some (.mapIter (some b) 6 (seen.push e.born) 6) := by
        rw [← hwn]; simp [Go.ChangeMaps.setBlock, Array.getElem?_setIfInBounds, hwdh, hrl]
      have hBn : Below w2.heap.size w2 wn := by
        rw [← hwn]
        refine ⟨hwdB.os, hwdB.tape, hwdB.output, by simpa [Go.ChangeMaps.setBlock] using hwdB.size, fun k hk => ?_⟩
        have : w2.heap.size ≠ k := by omega
        simp only [Go.ChangeMaps.setBlock]
        rw [Array.getElem?_setIfInBounds_ne this]
        exact hwdB.block k hk
      have hmbn : wn.heap[b]? = some (.map ents 6) := (hBn.block b (blk_lt he2)).trans he2
      have hent := _root_.Go.run_entry_at (P := Try.prog) wn w2.heap.size b 6 seen ents 6 e hitn hmbn (by rw [he1']; exact heL.1) (by rw [he1']; exact declEs_nodup)
      rw [hkey, hval] at hent
      rw [hwn] at hrun
      have yb := old_blk ((hBn.block w.heap.size (by omega)).trans HX2.out) (.cells #[.string ⟨#[]⟩, .int .u8 ps, .int .u8 pk] 66)
      have x0 := blk_cell yb 0; have x1 := blk_cell yb 1; have x2 := blk_cell yb 2
      clear yb
      have HBN := hid hBn; have HIN := hid hitn; have HEL := hid heL; have HPD := hid hp; have HVAL := hid hval
      have hnr : w2.heap.size ≠ pb := fun e => by have := blk_lt H2.out.blk; omega
      clear hwd hwdh hwdB hwn hitn hBn hmbn heL hp hval hkey he hold hmb he1 he2 he1' hb6 hrl
      have hREL : (ps, pk) ≠ (sd, kd) → ∀ o, ∃ seen2 : Array Nat, Hid ((wn.alloc o).heap[w2.heap.size]? = some (.mapIter (some b) 6 seen2 6)) ∧ Hid (Below w2.heap.size w2 (wn.alloc o)) ∧ Hid (∀ e ∈ declEs, seen2.contains e.born = true → e.val ≠ declV (sd, kd)) := fun hne o =>
        ⟨seen.push e.born, hid (old_blk HIN.out _), hid (HBN.out.alloc HBN.out.size _), hid fun e' he' hc => by
          by_cases hb : e'.born = e.born
          · have : e' = e := by
              have h1 := find_born e declEs declEs_nodup HEL.out.1
              have h2 := find_born e' declEs declEs_nodup he'
              rw [hb] at h2
              exact Option.some.inj (h2.symm.trans h1)
            subst this
            rw [HVAL.out]
            intro hh
            apply hne
            simp only [declV, Value.agg.injEq, Array.mk.injEq, List.cons.injEq, Value.int.injEq, true_and, and_true] at hh
            rw [hh.1, hh.2]
          · refine hS.out e' he' ?_
            rw [Array.contains_push] at hc
            simpa [hb] using hc⟩
      have hMEAS : ∀ o, iterLeft (wn.alloc o) w2.heap.size < iterLeft wr w2.heap.size := fun o => by
        unfold iterLeft
        rw [old_blk HIN.out o, hit.out]
        refine filter_lt (e := e) (fun x hx => ?_) HEL.out.1 (by simpa using HEL.out.2) ?_
        · simp only [Bool.not_eq_true', Array.contains_push, Bool.or_eq_false_iff] at hx ⊢
          exact hx.1
        · simp [Array.contains_push]
      have HREL := hid hREL; have HMEAS := hid hMEAS
      clear hREL hMEAS
      by_cases hm1 : ps = sd
      · subst hm1
        by_cases hm2 : pk = kd
        · subst hm2
          have HRW := hid (show R = sndS (openS (-1) [pw, nm] (l, top)) by
            rw [← HR.out]; unfold declareS; simp only
            rw [show declWord (ps, pk) = some pw from declWord_some HPD.out])
          go_wp2_with fail
          have hXn := H2.out.below HBN.out
          have h4 := hXn.alloc (.cells #[.string ⟨#[]⟩, .int .u8 ps, .int .u8 pk] 66)
          obtain ⟨w4, hw4⟩ : ∃ w4, wn.alloc (.cells #[.string ⟨#[]⟩, .int .u8 ps, .int .u8 pk] 66) = w4 := ⟨_, rfl⟩
          have hz4 : wn.heap.size + 1 = w4.heap.size := by rw [← hw4]; simp
          rw [hw4] at h4 ⊢
          rw [hz4]
          obtain ⟨w5, hw5⟩ : ∃ w5, w4.alloc (.cells #[.string pw, .string nm] 9) = w5 := ⟨_, rfl⟩
          have h5 := h4.alloc (.cells #[.string pw, .string nm] 9)
          have hx5 := new_blk w4 (.cells #[.string pw, .string nm] 9)
          rw [hw5] at h5 hx5 ⊢
          refine (openG [pw, nm] _ (-1) (WG.refl (s := (l, top)) h5 HW.out) (.inl (by omega)) (Strs.two hx5 ⟨.inr rfl, fun e => by have := blk_lt h4.blk; omega⟩)).mono ?_
          intro e6 w6 h9
          have h9 := WP.unalloc hXn (by rw [hw4]; exact WP.unalloc h4 (by rw [hw5]; exact h9))
          have h9 := h9.then ((hb2.mono hlo1).trans (HBN.out.mono (by omega))) (fun c hc _ => (HBN.out.block c (Nat.lt_of_lt_of_le (H1.out.ft.lows.2 c hc) hz2)).trans (hb2.block c (H1.out.ft.lows.2 c hc)))
          have h9 := HUN.out _ _ _ h9
          rcases hr : openS (-1) [pw, nm] (l, top) with _ | q
          · rw [hr] at h9
            obtain rfl := h9.none
            exact ⟨rfl, WP.no (by rw [HRW.out, hr]; rfl) h9.low h9.keep⟩
          · rw [hr] at h9
            obtain ⟨rfl, g6⟩ := h9.some
            have G6 := hid g6; have HR6 := hid (show R = some q.2 by rw [HRW.out, hr]; rfl)
            clear h9 g6 hr hx5 h5 h4 hXn hw4 hw5
            go_wp2_with fail
            refine bodyPost_ret (results_none rfl _ _ _) rfl ?_
            exact G6.out.ok (by rw [HR6.out]; rfl)
        · have hk2 : (pk == kd) = false := by rw [beq_eq_false_iff_ne]; exact hm2
          go_wp2_with fail
          go_roundw
          case rel => exact HREL.out (fun h => hm2 (by simpa using h)) _
          case measure => exact HMEAS.out _
      · have hk1 : (ps == sd) = false := by rw [beq_eq_false_iff_ne]; exact hm1
        go_wp2_with fail
        go_roundw
        case rel => exact HREL.out (fun h => hm1 (by simp only [Prod.mk.injEq] at h; exact h.1)) _
        case measure => exact HMEAS.out _
theorem declareG (d : PDecl) {w w1 : World} {lo pb : Nat} {ex : Nat → Prop} {D : Nat → Value} {s : WSt} (g : WG w w1 lo ex pb D s) :
    Calls Try.prog 30 #[.pointer (some ⟨pb, 0, none⟩), .agg #[.string d.name, .int .u8 d.side, .int .u8 d.kind]] w1 (WP w lo ex pb D (unitR (declareS d s))) := by
  obtain ⟨S, hX⟩ := g.out
  exact (declareW d w1 lo pb ex D S s.1 s.2 hX g.wf).mono fun e w' h => h.then g.low g.keep
end Go.Proofs.Ytgaginegcjpddaa
/- The program's writer: what is given up with is caught. -/
namespace Go.Proofs.Ytgaginegcjpddaa
open Go.RowKit
set_option maxHeartbeats 800000 in
set_option maxRecDepth 100000 in
theorem catchW (b0 b1 b2 : Nat) (v0 v1 v2 : Value) (w : World) (lo : Nat)
    (h0 : w.heap[b0]? = some (.cells #[v0] 29 (0, 0))) (h1 : w.heap[b1]? = some (.cells #[v1] 25 (0, 0))) (h2 : w.heap[b2]? = some (.cells #[v2] 4 (0, 0)))
    (hn : b0 ≠ b1 ∧ b0 ≠ b2 ∧ b1 ≠ b2) (hlo : lo ≤ b0 ∧ lo ≤ b1 ∧ lo ≤ b2) :
    CallsD Try.prog 29 #[.pointer (some ⟨b0, 0, none⟩), .pointer (some ⟨b1, 0, none⟩), .pointer (some ⟨b2, 0, none⟩)] (.panicking wStop) w fun e u' w' =>
      e = .returned (.tuple #[]) ∧ u' = .panicking [{ v := .iface 81 (.agg #[]), recovered := true }] ∧ Below lo w w' ∧
      w'.heap[b0]? = some (.cells #[nilv] 29 (0, 0)) ∧ w'.heap[b1]? = some (.cells #[nilv] 25 (0, 0)) ∧ w'.heap[b2]? = some (.cells #[.bool false] 4 (0, 0)) := by
  have q0 := blk_cell h0; have q1 := blk_cell h1; have q2 := blk_cell h2
  have f0 := blk_free h0; have f1 := blk_free h1; have f2 := blk_free h2
  have l0 := blk_lt h0; have l1 := blk_lt h1; have l2 := blk_lt h2
  have H0 := hid h0; have H1 := hid h1; have H2 := hid h2
  clear h0 h1 h2
  obtain ⟨n1, n2, n3⟩ := hn
  refine callsD_of_wpS Try.func29 rfl fun c₀ cs hu => ?_
  unfold wStop at hu
  simp only [Try.ntmps29, List.size_toArray, List.length_cons, List.length_nil, Nat.reduceAdd, Nat.reduceSub, Array.replicate_succ, Array.replicate_zero, List.push_toArray, List.append_toArray, List.nil_append, List.cons_append]
  apply wpS_seq
  apply wpS_region
  simp [wpOpsS, go_sem, recoverD, hu, Exit.thenS]
  refine wpS_of_wp ?_
  clear hu
  have hta := fun (xT : TypeId) (v : Value) (w : World) => assert_same (P := Try.prog) (T := 81) (xT := xT) Try.underlying81 rfl v w
  go_upto_region 5 with fail
  have g0 := old_blk H0.out (Obj.cells #[] 81 (0, 0))
  have g1 := old_blk H1.out (Obj.cells #[] 81 (0, 0))
  have g2 := old_blk H2.out (Obj.cells #[] 81 (0, 0))
  have gB : Below lo w (w.alloc (Obj.cells #[] 81 (0, 0))) := (Below.refl lo w).alloc (by omega) _
  generalize w.alloc (Obj.cells #[] 81 (0, 0)) = w1 at g0 g1 g2 gB ⊢
  clear q0 q1 q2 f0 f1 f2
  have q0 := blk_cell g0; have q1 := blk_cell g1; have q2 := blk_cell g2
  have f0 := blk_free g0; have f1 := blk_free g1; have f2 := blk_free g2
  have G0 := hid g0; have G1 := hid g1; have G2 := hid g2
  clear g0 g1 g2 hta
  go_wp2
  refine ⟨rfl, _, rfl, _, results_none rfl _ _ _, rfl, rfl, ?_, ?_, ?_, ?_⟩
  · exact (((gB).setCell hlo.1 _).setCell hlo.2.1 _).setCell hlo.2.2 _
  · exact set_blk (set_blk (blk_set G0.out _) _ _ n1) _ _ n2
  · exact set_blk (blk_set (set_blk G1.out _ _ (Ne.symm n1)) _) _ _ n3
  · exact blk_set (set_blk (set_blk G2.out _ _ (Ne.symm n2)) _ _ (Ne.symm n3)) _
theorem idleW (b0 b1 b2 : Nat) (w : World) :
    CallsD Try.prog 29 #[.pointer (some ⟨b0, 0, none⟩), .pointer (some ⟨b1, 0, none⟩), .pointer (some ⟨b2, 0, none⟩)] .returning w fun e u' w' => e = .returned (.tuple #[]) ∧ u' = .returning ∧ w' = w := by
  refine callsD_of_wpS Try.func29 rfl fun c₀ cs hu => ?_
  simp only [Try.ntmps29, List.size_toArray, List.length_cons, List.length_nil, Nat.reduceAdd, Nat.reduceSub, Array.replicate_succ, Array.replicate_zero, List.push_toArray, List.append_toArray, List.nil_append, List.cons_append]
  apply wpS_seq
  apply wpS_region
  simp [wpOpsS, go_sem, recoverD, hu, Exit.thenS]
  refine wpS_of_wp ?_
  have hcs : c₀ :: cs = { c₀ with mode := .returning } :: cs := by cases c₀; simp_all
  clear hu
  go_wp2
  refine ⟨rfl, _, hcs, _, results_none rfl _ _ _, rfl, rfl, rfl⟩
end Go.Proofs.Ytgaginegcjpddaa
/- The program's writer: a program's forms, as far as it can be written. -/
namespace Go.Proofs.Ytgaginegcjpddaa
open Go.RowKit
def declsWS : List PDecl → WSt → Option WSt
  | [], s => some s
  | d :: r, s => match declareS d s with
    | none => none
    | some s1 => declsWS r s1
/-- a program's forms -/
def writtenS (p : Prg) : Option WSt :=
  match declsWS p.decls ([], []) with
  | none => none
  | some s => subWS (fun n s => stmtWS p.exprs p.stmts p.stmts.length (-1) n s) (p.stmts.length : Int) p.main s
/-- a program in memory, that is read -/
structure PRd (w : World) (Z : Nat → Prop) (D : Nat → Value) (p : Prg) : Prop where
  decls : Row w Z DeclV 3 (D 0) p.decls
  exprs : Row w Z (ExprV w Z) 6 (D 1) p.exprs
  stmts : Row w Z (StmtV w Z) 8 (D 2) p.stmts
  main : Ints w Z (D 3) p.main
theorem PRd.imp {w w' : World} {Z Z' : Nat → Prop} {D : Nat → Value} {p : Prg} (h : PRd w Z D p) (hD : ∀ b, Z b → b < w.heap.size → Z' b ∧ w'.heap[b]? = w.heap[b]?) : PRd w' Z' D p :=
  ⟨Row.imp h.decls (fun _ _ _ h => h) hD (by omega) (fun _ _ h => h.len), Row.imp h.exprs (fun _ _ _ h => h.imp hD) hD (by omega) (fun _ _ h => h.len), Row.imp h.stmts (fun _ _ _ h => h.imp hD) hD (by omega) (fun _ _ h => h.len), h.main.imp hD⟩
/-- what writing a program comes to, in memory -/
def WrP (w : World) (r : Option WSt) (e : Ending) (w' : World) : Prop :=
  match r with
  | none => e = .returned (.tuple #[nilv, nilv, .bool false]) ∧ Below w.heap.size w w'
  | some s => ∃ fv tv, e = .returned (.tuple #[fv, tv, .bool true]) ∧ Below w.heap.size w w' ∧ Forms w' (fun b => w.heap.size ≤ b) fv s.1 ∧ Ints w' (fun b => w.heap.size ≤ b) tv s.2 ∧ WWf s.1 s.2
set_option maxHeartbeats 3200000 in
set_option maxRecDepth 100000 in
theorem written_any (p : Prg) (D : Nat → Value) (w : World) (hp : PRd w (fun b => b < w.heap.size) D p) (hops : OpsOk p.exprs p.stmts) :
    Calls Try.prog 13 #[.agg #[D 0, D 1, D 2, D 3]] w (WrP w (writtenS p)) := by
  have hmf : ∀ (fn : Fn) (first cap : Array Value) (w : World), (Instr.makeFunc fn first cap).run Try.prog w = .ok (.func fn first cap) w := fun _ _ _ _ => rfl
  obtain ⟨A0, c0, hD0, hle0, _, hall0⟩ := hp.decls.out
  obtain ⟨A1, c1, hD1, _, _⟩ := hp.exprs.slice
  obtain ⟨A2, c2, hD2, _, _⟩ := hp.stmts.slice
  obtain ⟨A3, c3, hD3, _, _⟩ := hp.main.slice
  generalize hgr : writtenS p = R
  have HR := hid hgr
  have HP := hid hp; have HO := hid hops
  obtain ⟨decls, exprs, stmts, main⟩ := p
  simp only at hD0 hD1 hD2 hD3 hle0 hall0
  have HALL := hid hall0
  rw [hD0, hD1, hD2, hD3]
  clear hp hops hall0 hgr
  go_enter_defers Try.func13, Try.ntmps13
  go_upto_region 3 with fail
  obtain ⟨w1, hw1⟩ : ∃ w1, w.alloc (Obj.cells #[Value.slice A0 decls.length c0, Value.slice A1 exprs.length c1, Value.slice A2 stmts.length c2, Value.slice A3 main.length c3] 27 (0, 0)) = w1 := ⟨_, rfl⟩
  obtain ⟨w2, hw2⟩ : ∃ w2, w1.alloc (Obj.cells #[Value.slice none 0 0] 29 (0, 0)) = w2 := ⟨_, rfl⟩
  obtain ⟨w3, hw3⟩ : ∃ w3, w2.alloc (Obj.cells #[Value.slice none 0 0] 25 (0, 0)) = w3 := ⟨_, rfl⟩
  obtain ⟨w4, hw4⟩ : ∃ w4, w3.alloc (Obj.cells #[Value.bool false] 4 (0, 0)) = w4 := ⟨_, rfl⟩
  obtain ⟨w5, hw5⟩ : ∃ w5, w4.alloc (Obj.cells #[Value.slice A0 decls.length c0, Value.slice A1 exprs.length c1, Value.slice A2 stmts.length c2, Value.slice A3 main.length c3, Value.slice none 0 0, Value.slice none 0 0] 85 (0, 0)) = w5 := ⟨_, rfl⟩
  rw [hw1, hw2, hw3, hw4, hw5]
  obtain ⟨n, hn⟩ : ∃ n, w.heap.size = n := ⟨_, rfl⟩
  have z1 : w1.heap.size = n + 1 := by rw [← hw1]; simp [hn]
  have z2 : w2.heap.size = n + 2 := by rw [← hw2]; simp [z1]
  have z3 : w3.heap.size = n + 3 := by rw [← hw3]; simp [z2]
  have z4 : w4.heap.size = n + 4 := by rw [← hw4]; simp [z3]
  have z5 : w5.heap.size = n + 5 := by rw [← hw5]; simp [z4]
  have g0 : w5.heap[n]? = some (.cells #[Value.slice A0 decls.length c0, Value.slice A1 exprs.length c1, Value.slice A2 stmts.length c2, Value.slice A3 main.length c3] 27 (0, 0)) := by rw [← hw5, ← hw4, ← hw3, ← hw2]; exact old_blk (old_blk (old_blk (old_blk (by rw [← hw1, ← hn]; exact new_blk _ _) _) _) _) _
  have g1 : w5.heap[n + 1]? = some (.cells #[Value.slice none 0 0] 29 (0, 0)) := by rw [← hw5, ← hw4, ← hw3]; exact old_blk (old_blk (old_blk (by rw [← hw2, ← z1]; exact new_blk _ _) _) _) _
  have g2 : w5.heap[n + 2]? = some (.cells #[Value.slice none 0 0] 25 (0, 0)) := by rw [← hw5, ← hw4]; exact old_blk (old_blk (by rw [← hw3, ← z2]; exact new_blk _ _) _) _
  have g3 : w5.heap[n + 3]? = some (.cells #[Value.bool false] 4 (0, 0)) := by rw [← hw5]; exact old_blk (by rw [← hw4, ← z3]; exact new_blk _ _) _
  have g4 : w5.heap[n + 4]? = some (.cells #[Value.slice A0 decls.length c0, Value.slice A1 exprs.length c1, Value.slice A2 stmts.length c2, Value.slice A3 main.length c3, Value.slice none 0 0, Value.slice none 0 0] 85 (0, 0)) := by rw [← hw5, ← z4]; exact new_blk _ _
  have gB : Below n w w5 := by rw [← hw5, ← hw4, ← hw3, ← hw2, ← hw1]; exact ((((((Below.refl n w).alloc (by omega) _).alloc (by rw [hw1]; omega) _).alloc (by rw [hw1, hw2]; omega) _).alloc (by rw [hw1, hw2, hw3]; omega) _).alloc (by rw [hw1, hw2, hw3, hw4]; omega) _)
  have hX : WX w5 (n + 4) (fun b => b = n + 4) (n + 4) D (fun _ => nilv) [] [] := ⟨by rw [hD0, hD1, hD2, hD3]; exact g4, FT.init _ _ _ ⟨by omega, fun b e => by omega⟩, rfl, Nat.le_refl _⟩
  have GW := hid (WG.refl (s := ([], [])) hX ⟨by simp, by simp, by simp⟩)
  have hP5 : PRd w5 (fun b => b < n) D ⟨decls, exprs, stmts, main⟩ := HP.out.imp fun b hb _ => ⟨by omega, gB.block b (by omega)⟩
  have HP5 := hid hP5
  rw [hn]
  clear hw1 hw2 hw3 hw4 hw5 z1 z2 z3 z4 hmf g4 hX hP5 HP
  have G0 := hid g0; have G1 := hid g1; have G2 := hid g2; have G3 := hid g3
  have q0 := blk_cell g0 0
  clear g1 g2 g3 g0
  have HW := hid hn
  have hR := HR.out
  unfold writtenS at hR
  simp only at hR
  have HR1 := hid hR
  clear hR HR
  go_wp2_with fail
  go_loopw [7, 17] (fun s7 s17 wr => ∃ (k : Nat) (s : WSt), s17 = .int .i64 (k : Int) ∧ k ≤ decls.length ∧ Hid (WG w5 wr (n + 4) (fun b => b = n + 4) (n + 4) D s) ∧ Hid ((match declsWS (decls.drop k) s with | none => none | some s' => subWS (fun n s => stmtWS exprs stmts stmts.length (-1) n s) (stmts.length : Int) main s') = R)) (fun s7 s17 wr => decls.length - cnt s17)
  case atStart => exact ⟨0, ([], []), rfl, Nat.zero_le _, GW, by simpa using HR1⟩
  case round =>
    obtain ⟨k, s, rfl, hk, G, HR2⟩ := hrel
    by_cases hlt : k < decls.length
    · obtain ⟨b, off, hA, hDb, hcs⟩ := HALL.out (by omega)
      obtain ⟨cs, hr, _, hc⟩ := hcs k hlt
      obtain ⟨d, hd⟩ : ∃ d, nth decls k = d := ⟨_, rfl⟩
      rw [hd] at hr
      have hr' : cs = d.cells := hr
      subst hr'; subst hA
      obtain ⟨nm, sd, kd⟩ := d
      have hbl : b < n := by rw [← HW.out]; exact hDb
      have hcell : ∀ j u, (PDecl.cells { name := nm, side := sd, kind := kd })[j]? = some u → wr.cell? ⟨b, off + k * 3 + j, none⟩ = some u := fun j u hj =>
        (World.cell?_of_block (a := ⟨b, off + k * 3 + j, none⟩) ((G.out.low.block b (by omega)).trans (gB.block b hbl))).trans (hc j u hj)
      have x0 := hcell 0 _ rfl; have x1 := hcell 1 _ rfl; have x2 := hcell 2 _ rfl
      rw [Nat.add_zero] at x0
      have hdr : decls.drop k = { name := nm, side := sd, kind := kd } :: decls.drop (k + 1) := by rw [drop_nth hlt, hd]
      have hR2 := HR2.out
      rw [hdr] at hR2
      simp only [declsWS] at hR2
      have HR3 := hid hR2
      obtain ⟨wa, hwa⟩ : ∃ wa, wr.alloc (.cells #[.string nm, .int .u8 sd, .int .u8 kd] 66) = wa := ⟨_, rfl⟩
      have ga : WG w5 wa (n + 4) (fun b => b = n + 4) (n + 4) D s := by rw [← hwa]; exact G.out.below ((Below.refl _ _).alloc (Nat.le_refl _) _)
      have GA := hid ga; have HWA := hid hwa
      clear hc hcs hcell hdr hd hr HR2 hR2 hwa ga
      go_wp2_with fail
      rw [HWA.out]
      refine (declareG { name := nm, side := sd, kind := kd } GA.out).mono ?_
      intro e w6 h9
      rcases hr : declareS { name := nm, side := sd, kind := kd } s with _ | s2
      · rw [hr] at h9
        obtain rfl := h9.none
        have hBx := h9.low
        have hkk : ∀ i o, i < n + 4 → w5.heap[i]? = some o → w6.heap[i]? = some o := fun i o hi ho => (hBx.block i hi).trans ho
        refine leaves_cons (f := 29) (args := #[.pointer (some ⟨n + 1, 0, none⟩), .pointer (some ⟨n + 1 + 1, 0, none⟩), .pointer (some ⟨n + 1 + 1 + 1, 0, none⟩)]) (by simp) (by simp [go_sem]) ?_
        refine (catchW (n + 1) (n + 1 + 1) (n + 1 + 1 + 1) _ _ _ w6 n (hkk _ _ (by omega) G1.out) (hkk _ _ (by omega) G2.out) (hkk _ _ (by omega) G3.out) (by omega) (by omega)).mono ?_
        rintro e u' w'' ⟨rfl, rfl, hBc, k0, k1, k2⟩
        have hRn : R = none := by rw [← HR3.out, hr]
        simp [Leaves, settle, results, Try.results13, go_sem, blk_cell k0, blk_cell k1, blk_cell k2]
        rw [hRn]
        exact ⟨rfl, by rw [HW.out]; exact gB.trans ((hBx.mono (by omega)).trans hBc)⟩
      · rw [hr] at h9
        obtain ⟨rfl, g5⟩ := h9.some
        have G5 := hid g5; have HR5 := hid (show (match declsWS (decls.drop (k + 1)) s2 with | none => none | some s' => subWS (fun n s => stmtWS exprs stmts stmts.length (-1) n s) (stmts.length : Int) main s') = R by rw [← HR3.out, hr])
        clear h9 g5 hr HR3 x0 x1 x2
        go_wp2_with fail
        go_roundw
        case rel => exact ⟨k + 1, s2, by simp, by omega, G5, HR5⟩
        case measure => simp only [cnt]; omega
    · have hk' : k = decls.length := by omega
      subst hk'
      have hR2 := HR2.out
      rw [List.drop_length] at hR2
      simp only [declsWS] at hR2
      have HR3 := hid hR2
      have b0 := (G.out.low.block n (by omega)).trans G0.out
      have y3 := blk_cell b0 3; have y2 := blk_cell b0 2
      clear HR2 hR2 b0
      go_wp2_with fail
      go_loopw [9, 28] (fun s9 s28 wr2 => ∃ (j : Nat) (s2 : WSt), s28 = .int .i64 (j : Int) ∧ j ≤ main.length ∧ Hid (WG w5 wr2 (n + 4) (fun b => b = n + 4) (n + 4) D s2) ∧ Hid (subWS (fun n s => stmtWS exprs stmts stmts.length (-1) n s) (stmts.length : Int) (main.drop j) s2 = R)) (fun s9 s28 wr2 => main.length - cnt s28)
      case atStart => exact ⟨0, s, rfl, Nat.zero_le _, G, by simpa using HR3⟩
      case round =>
        rename World => wr2
        obtain ⟨j, s2, rfl, hj, G2', HR4⟩ := hrel
        have b0 := (G2'.out.low.block n (by omega)).trans G0.out
        have y2 := blk_cell b0 2
        clear b0
        by_cases hlt2 : j < main.length
        · have hm5 := HP5.out.main
          rw [hD3] at hm5
          have hIr := hm5.imp (w' := wr2) (D' := fun b => b < n) fun b hD _ => ⟨hD, G2'.out.low.block b (by omega)⟩
          obtain ⟨eb, eo, ec, hev, _, _, _, _, hcell⟩ := hIr.at_ j hlt2
          simp only [Value.slice.injEq] at hev
          obtain ⟨rfl, _, rfl⟩ := hev
          obtain ⟨kk, hkk⟩ : ∃ kk, nth main j = kk := ⟨_, rfl⟩
          have hdr : main.drop j = kk :: main.drop (j + 1) := by rw [drop_nth hlt2, hkk]
          rw [hkk] at hcell
          have hR4 := HR4.out
          rw [hdr] at hR4
          simp only [subWS, kidsWS] at hR4
          have hPw := HP5.out.imp (w' := wr2) (Z' := fun b => b < n + 4) fun b hb _ => ⟨by omega, G2'.out.low.block b (by omega)⟩
          have HWD := hid (show WD wr2 (n + 4) D exprs stmts from ⟨hPw.exprs, hPw.stmts⟩)
          have HR5 := hid hR4
          clear hdr HR4 hR4 hkk hIr hm5 hPw
          by_cases hin : 0 ≤ kk ∧ kk < (stmts.length : Int)
          · obtain ⟨kn, rfl⟩ : ∃ kn : Nat, kk = (kn : Int) := ⟨kk.toNat, by omega⟩
            have hR5 := HR5.out
            rw [if_pos hin] at hR5
            have HR6 := hid hR5; have HIN := hid hin
            clear HR5 hR5
            go_wp2_with (go_at_call 31; refine (belowW _ _ _).mono ?_; rintro e w' ⟨he, hw⟩; have hw := hw.symm; subst hw; rw [if_pos HIN.out] at he; subst he)
            refine (stmtG exprs stmts HO.out (-1) kn (by omega) G2'.out (.inl (by omega)) HWD.out).mono ?_
            intro e w6 h9
            rcases hr : stmtWS exprs stmts stmts.length (-1) (kn : Int) s2 with _ | s3
            · rw [hr] at h9
              obtain rfl := h9.none
              have hBx := h9.low
              have hkk : ∀ i o, i < n + 4 → w5.heap[i]? = some o → w6.heap[i]? = some o := fun i o hi ho => (hBx.block i hi).trans ho
              refine leaves_cons (f := 29) (args := #[.pointer (some ⟨n + 1, 0, none⟩), .pointer (some ⟨n + 1 + 1, 0, none⟩), .pointer (some ⟨n + 1 + 1 + 1, 0, none⟩)]) (by simp) (by simp [go_sem]) ?_
              refine (catchW (n + 1) (n + 1 + 1) (n + 1 + 1 + 1) _ _ _ w6 n (hkk _ _ (by omega) G1.out) (hkk _ _ (by omega) G2.out) (hkk _ _ (by omega) G3.out) (by omega) (by omega)).mono ?_
              rintro e u' w'' ⟨rfl, rfl, hBc, k0, k1, k2⟩
              have hRn : R = none := by rw [← HR6.out, hr]
              simp [Leaves, settle, results, Try.results13, go_sem, blk_cell k0, blk_cell k1, blk_cell k2]
              rw [hRn]
              exact ⟨rfl, by rw [HW.out]; exact gB.trans ((hBx.mono (by omega)).trans hBc)⟩
            · rw [hr] at h9
              obtain ⟨rfl, g5⟩ := h9.some
              have G5 := hid g5
              have HR7 := hid (show subWS (fun n s => stmtWS exprs stmts stmts.length (-1) n s) (stmts.length : Int) (main.drop (j + 1)) s3 = R by rw [← HR6.out, hr]; rfl)
              clear h9 g5 hr HR6
              go_wp2_with fail
              go_roundw
              case rel => exact ⟨j + 1, s3, by simp, by omega, G5, HR7⟩
              case measure => simp only [cnt]; omega
          · have hR5 := HR5.out
            rw [if_neg hin] at hR5
            have HR6 := hid hR5; have HIN := hid hin
            clear HR5 hR5 hin
            go_wp2_with (go_at_call 31; refine (belowW _ _ _).mono ?_; rintro e w' ⟨he, hw⟩; have hw := hw.symm; subst hw; rw [if_neg HIN.out] at he; subst he)
            have hBx := G2'.out.low
            have hkk : ∀ i o, i < n + 4 → w5.heap[i]? = some o → wr2.heap[i]? = some o := fun i o hi ho => (hBx.block i hi).trans ho
            refine leaves_cons (f := 29) (args := #[.pointer (some ⟨n + 1, 0, none⟩), .pointer (some ⟨n + 1 + 1, 0, none⟩), .pointer (some ⟨n + 1 + 1 + 1, 0, none⟩)]) (by simp) (by simp [go_sem]) ?_
            refine (catchW (n + 1) (n + 1 + 1) (n + 1 + 1 + 1) _ _ _ wr2 n (hkk _ _ (by omega) G1.out) (hkk _ _ (by omega) G2.out) (hkk _ _ (by omega) G3.out) (by omega) (by omega)).mono ?_
            rintro e u' w'' ⟨rfl, rfl, hBc, k0, k1, k2⟩
            have hRn : R = none := by rw [← HR6.out]
            simp [Leaves, settle, results, Try.results13, go_sem, blk_cell k0, blk_cell k1, blk_cell k2]
            rw [hRn]
            exact ⟨rfl, by rw [HW.out]; exact gB.trans ((hBx.mono (by omega)).trans hBc)⟩
        · have hj' : j = main.length := by omega
          subst hj'
          have hR4 := HR4.out
          rw [List.drop_length] at hR4
          simp only [subWS, kidsWS] at hR4
          obtain ⟨S, hX⟩ := G2'.out.out
          have hB := G2'.out.low
          have hk : ∀ i o, i < n + 4 → w5.heap[i]? = some o → wr2.heap[i]? = some o := fun i o hi ho => (hB.block i hi).trans ho
          have k0 := hk (n + 1) _ (by omega) G1.out; have k1 := hk (n + 1 + 1) _ (by omega) G2.out; have k2 := hk (n + 1 + 1 + 1) _ (by omega) G3.out
          have x0 := blk_cell k0; have x1 := blk_cell k1; have x2 := blk_cell k2
          have y0 := blk_free k0; have y1 := blk_free k1; have y3 := blk_free k2
          have q0 := blk_cell hX.blk; have qf := blk_free hX.blk
          obtain ⟨B0, d0, e0, _⟩ := hX.ft.forms.slice
          obtain ⟨B1, d1, e1, _⟩ := (hX.ft.rows 0).slice
          have E0 := hid e0; have E1 := hid e1
          rw [e0, e1] at q0
          clear e0 e1
          simp only [ints, List.length_zipIdx] at q0
          have hlow : ∀ x : Nat, x < n + 4 → ∀ i, (S i).ownBlock ≠ some x := fun x hx i e => by have := (hX.ft.low i x e).1; omega
          have hFF := hid (((hX.ft.set ⟨n + 1, 0, none⟩ (.slice B0 s2.1.length d0) (hlow (n + 1) (by omega))).set ⟨n + 1 + 1, 0, none⟩ (.slice B1 s2.2.length d1) (hlow (n + 1 + 1) (by omega))).set ⟨n + 1 + 1 + 1, 0, none⟩ (.bool true) (hlow (n + 1 + 1 + 1) (by omega)))
          have hBB := hid ((((hB.mono (show n ≤ n + 4 by omega)).setCell (p := ⟨n + 1, 0, none⟩) (show n ≤ n + 1 by omega) (.slice B0 s2.1.length d0)).setCell (p := ⟨n + 1 + 1, 0, none⟩) (show n ≤ n + 1 + 1 by omega) (.slice B1 s2.2.length d1)).setCell (p := ⟨n + 1 + 1 + 1, 0, none⟩) (show n ≤ n + 1 + 1 + 1 by omega) (.bool true))
          have HR5 := hid hR4; have HWF := hid G2'.out.wf
          clear hR4 HR4 hX hB k0 k1 k2 hk
          go_upto_region 14 with fail
          go_region
          go_wp2
          refine leaves_cons (f := 29) (args := #[.pointer (some ⟨n + 1, 0, none⟩), .pointer (some ⟨n + 1 + 1, 0, none⟩), .pointer (some ⟨n + 1 + 1 + 1, 0, none⟩)]) (by simp) (by simp [go_sem]) ?_
          refine (idleW (n + 1) (n + 1 + 1) (n + 1 + 1 + 1) _).mono ?_
          rintro e u' w'' ⟨rfl, rfl, rfl⟩
          simp [Leaves, settle, results, Try.results13, go_sem, x0, x1, x2]
          rw [← HR5.out]
          refine ⟨_, _, rfl, ?_, ?_, ?_, HWF.out⟩
          · rw [HW.out]; exact gB.trans (below_drewN hBB.out 1)
          · have hf := hFF.out.drew.forms_ (D := fun k => w.heap.size ≤ k) (fun b hb => by rw [HW.out]; omega)
            rw [E0.out, List.length_zipIdx] at hf
            exact hf
          · have hr : Ints _ (fun k => w.heap.size ≤ k) (S 1) s2.2 := (hFF.out.drew.rows 0).row (fun _ _ h => h.len) (fun g hg => by rw [HW.out]; have := (hFF.out.low 1 g hg).1; omega)
            rw [E1.out] at hr
            exact hr
end Go.Proofs.Ytgaginegcjpddaa
/- The program's reader of forms: what is given up with is caught. -/
namespace Go.Proofs.Ytgaginegcjpddaa
open Go.RowKit
theorem below_drew1 {lo : Nat} {w w' : World} (h : Below lo w w') : Below lo w w'.drew := ⟨h.os, h.tape, h.output, h.size, h.block⟩
theorem drew_heap (w : World) : w.drew.heap = w.heap := rfl
set_option maxRecDepth 100000 in
theorem caught_any (pos why : Int) (w : World) : Calls Try.prog 18 #[.iface 50 (.agg #[.int .i64 pos, .int .i64 why])] w fun e w' =>
    e = .returned (.agg #[.int .i64 pos, .int .i64 why]) ∧ Below w.heap.size w w' := by
  have hta := fun (xT : TypeId) (v : Value) (w : World) => assert_same (P := Try.prog) (T := 50) (xT := xT) Try.underlying50 rfl v w
  go_enter Try.func18, Try.ntmps18
  go_wp2_with fail
  have hb : ((w.alloc (Obj.cells #[.int .i64 pos, .int .i64 why] 50 (0, 0))).alloc (Obj.cells #[.int .i64 pos, .int .i64 why] 50 (0, 0))).heap[w.heap.size]? = some (Obj.cells #[.int .i64 pos, .int .i64 why] 50 (0, 0)) := old_blk (new_blk w _) _
  refine bodyPost_ret (results_cell_row rfl _ _ _ _ _ (0, 0) _ rfl hb Try.underlying50 rfl (by kernel_rfl)) rfl ?_
  exact ⟨rfl, ((Below.refl _ _).alloc (Nat.le_refl _) _).alloc (by simp) _⟩
set_option maxHeartbeats 800000 in
set_option maxRecDepth 100000 in
theorem catchR (b0 b1 b2 : Nat) (v0 v1 v2 v3 v4 v5 : Value) (er : Wr) (w : World) (lo : Nat)
    (h0 : w.heap[b0]? = some (.cells #[v0, v1, v2, v3] 27 (0, 0))) (h1 : w.heap[b1]? = some (.cells #[v4] 3 (0, 0))) (h2 : w.heap[b2]? = some (.cells #[v5] 30 (0, 0)))
    (hn : b0 ≠ b1 ∧ b0 ≠ b2 ∧ b1 ≠ b2) (hlo : lo ≤ b0 ∧ lo ≤ b1 ∧ lo ≤ b2) :
    CallsD Try.prog 17 #[.pointer (some ⟨b0, 0, none⟩), .pointer (some ⟨b1, 0, none⟩), .pointer (some ⟨b2, 0, none⟩)] (.panicking (progWrong er)) w fun e u' w' =>
      e = .returned (.tuple #[]) ∧ u' = .panicking [{ v := .iface 50 (.agg #[.int .i64 er.1, .int .i64 er.2]), recovered := true }] ∧ Below lo w w' ∧
      w'.heap[b0]? = some (.cells #[nilv, nilv, nilv, nilv] 27 (0, 0)) ∧ w'.heap[b1]? = some (.cells #[.int .i64 er.1] 3 (0, 0)) ∧ w'.heap[b2]? = some (.cells #[.int .i64 er.2] 30 (0, 0)) := by
  have q0 := blk_cell h0; have q1 := blk_cell h1; have q2 := blk_cell h2
  have f0 := blk_free h0; have f1 := blk_free h1; have f2 := blk_free h2
  have l0 := blk_lt h0; have l1 := blk_lt h1; have l2 := blk_lt h2
  have H0 := hid h0; have H1 := hid h1; have H2 := hid h2
  clear h0 h1 h2
  obtain ⟨n1, n2, n3⟩ := hn
  obtain ⟨pos, why⟩ := er
  refine callsD_of_wpS Try.func17 rfl fun c₀ cs hu => ?_
  unfold progWrong at hu
  simp only [Try.ntmps17, List.size_toArray, List.length_cons, List.length_nil, Nat.reduceAdd, Nat.reduceSub, Array.replicate_succ, Array.replicate_zero, List.push_toArray, List.append_toArray, List.nil_append, List.cons_append]
  apply wpS_seq
  apply wpS_region
  simp [wpOpsS, go_sem, recoverD, hu, Exit.thenS]
  refine wpS_of_wp ?_
  clear hu
  go_upto_region 3 with (go_at_call 18; refine (caught_any pos why w).mono ?_; rintro e w1 ⟨rfl, hb1⟩)
  have hBa : Below w.heap.size w (w1.alloc (Obj.cells #[.int .i64 pos, .int .i64 why] 50 (0, 0))) := hb1.alloc hb1.size _
  have g0 := (hBa.block b0 l0).trans H0.out
  have g1 := (hBa.block b1 l1).trans H1.out
  have g2 := (hBa.block b2 l2).trans H2.out
  have g4 := new_blk w1 (Obj.cells #[.int .i64 pos, .int .i64 why] 50 (0, 0))
  have hs1 := hb1.size
  have gB : Below lo w (w1.alloc (Obj.cells #[.int .i64 pos, .int .i64 why] 50 (0, 0))) := hBa.mono (by omega)
  generalize w1.alloc (Obj.cells #[.int .i64 pos, .int .i64 why] 50 (0, 0)) = w2 at g0 g1 g2 g4 gB ⊢
  obtain ⟨tb, htb⟩ : ∃ tb, w1.heap.size = tb := ⟨_, rfl⟩
  rw [htb] at g4 hs1 ⊢
  clear q0 q1 q2 f0 f1 f2 hBa hb1
  have q0 := blk_cell g0; have q1 := blk_cell g1; have q2 := blk_cell g2; have q4 := blk_cell g4
  have f0 := blk_free g0; have f1 := blk_free g1; have f2 := blk_free g2
  have m0 : tb ≠ b0 := by omega
  have m1 : tb ≠ b1 := by omega
  have m2 : tb ≠ b2 := by omega
  have G0 := hid g0; have G1 := hid g1; have G2 := hid g2
  clear g0 g1 g2 g4
  go_region
  refine ⟨rfl, _, rfl, _, results_none rfl _ _ _, rfl, rfl, ?_, ?_, ?_, ?_⟩
  · exact below_drew1 ((((((gB.setCell hlo.1 _).setCell hlo.1 _).setCell hlo.1 _).setCell hlo.1 _).setCell hlo.2.1 _).setCell hlo.2.2 _)
  · have c0 : (w2.setCell ⟨b0, 0, none⟩ nilv).heap[b0]? = some (.cells #[nilv, v1, v2, v3] 27 (0, 0)) := by rw [blk_set G0.out]; rfl
    have c1 : ((w2.setCell ⟨b0, 0, none⟩ nilv).setCell ⟨b0, 1, none⟩ nilv).heap[b0]? = some (.cells #[nilv, nilv, v2, v3] 27 (0, 0)) := by rw [blk_set c0]; rfl
    have c2 : (((w2.setCell ⟨b0, 0, none⟩ nilv).setCell ⟨b0, 1, none⟩ nilv).setCell ⟨b0, 2, none⟩ nilv).heap[b0]? = some (.cells #[nilv, nilv, nilv, v3] 27 (0, 0)) := by rw [blk_set c1]; rfl
    have c3 : ((((w2.setCell ⟨b0, 0, none⟩ nilv).setCell ⟨b0, 1, none⟩ nilv).setCell ⟨b0, 2, none⟩ nilv).setCell ⟨b0, 3, none⟩ nilv).heap[b0]? = some (.cells #[nilv, nilv, nilv, nilv] 27 (0, 0)) := by rw [blk_set c2]; rfl
    rw [drew_heap]
    exact set_blk (set_blk c3 _ _ n1) _ _ n2
  · rw [drew_heap]; exact set_blk (blk_set (set_blk (set_blk (set_blk (set_blk G1.out _ _ (Ne.symm n1)) _ _ (Ne.symm n1)) _ _ (Ne.symm n1)) _ _ (Ne.symm n1)) _) _ _ n3
  · rw [drew_heap]; exact blk_set (set_blk (set_blk (set_blk (set_blk (set_blk G2.out _ _ (Ne.symm n2)) _ _ (Ne.symm n2)) _ _ (Ne.symm n2)) _ _ (Ne.symm n2)) _ _ (Ne.symm n3)) _
theorem idleR (b0 b1 b2 : Nat) (w : World) :
    CallsD Try.prog 17 #[.pointer (some ⟨b0, 0, none⟩), .pointer (some ⟨b1, 0, none⟩), .pointer (some ⟨b2, 0, none⟩)] .returning w fun e u' w' => e = .returned (.tuple #[]) ∧ u' = .returning ∧ w' = w := by
  refine callsD_of_wpS Try.func17 rfl fun c₀ cs hu => ?_
  simp only [Try.ntmps17, List.size_toArray, List.length_cons, List.length_nil, Nat.reduceAdd, Nat.reduceSub, Array.replicate_succ, Array.replicate_zero, List.push_toArray, List.append_toArray, List.nil_append, List.cons_append]
  apply wpS_seq
  apply wpS_region
  simp [wpOpsS, go_sem, recoverD, hu, Exit.thenS]
  refine wpS_of_wp ?_
  have hcs : c₀ :: cs = { c₀ with mode := .returning } :: cs := by cases c₀; simp_all
  clear hu
  go_wp2
  refine ⟨rfl, _, hcs, _, results_none rfl _ _ _, rfl, rfl, rfl⟩
end Go.Proofs.Ytgaginegcjpddaa
/- What the program's Read comes to. -/
namespace Go.Proofs.Ytgaginegcjpddaa
open Go.RowKit
/-- a program of forms, where it is none, and why -/
def readS (l : List Form) (top : List Int) : Prg × Int × Int :=
  if rightS l top = true then
    match linesS l (l.length + 1) top Prg.none with
    | .inl p => (p, 0, 0)
    | .inr e => (Prg.none, e.1, e.2)
  else (Prg.none, 0, 3)
def ReadP (w : World) (r : Prg × Int × Int) (e : Ending) (w' : World) : Prop :=
  ∃ D : Nat → Value, e = .returned (.tuple #[.agg #[D 0, D 1, D 2, D 3], .int .i64 r.2.1, .int .i64 r.2.2]) ∧ Below w.heap.size w w' ∧ PRd w' (fun b => w.heap.size ≤ b) D r.1
theorem PRd.none (w : World) (Z : Nat → Prop) : PRd w Z (fun _ => nilv) Prg.none := ⟨Row.nil _ _ _ _, Row.nil _ _ _ _, Row.nil _ _ _ _, Row.nil _ _ _ _⟩
theorem RX.prd {w : World} {l : List Form} {lo rb : Nat} {S : Nat → Value} {Z : Nat → Prop} {p : Prg} (h : RX w l lo rb S Z p) : PRd w (fun b => lo ≤ b) S p := by
  have hz : ∀ b, Z b → b < w.heap.size → lo ≤ b ∧ w.heap[b]? = w.heap[b]? := fun b hb _ => ⟨(h.zlow b hb).1, rfl⟩
  refine ⟨h.decls.row (fun _ _ h => h.len) (fun g hg => (h.low 0 g hg).1), ?_, ?_, h.main.row (fun _ _ h => h.len) (fun g hg => (h.low 3 g hg).1)⟩
  · exact Row.imp (h.exprs.row (D := fun b => lo ≤ b) (fun _ _ h => h.len) (fun g hg => (h.low 1 g hg).1)) (fun _ _ _ h => h.imp hz) (fun b hb _ => ⟨hb, rfl⟩) (by omega) (fun _ _ h => h.len)
  · exact Row.imp (h.stmts.row (D := fun b => lo ≤ b) (fun _ _ h => h.len) (fun g hg => (h.low 2 g hg).1)) (fun _ _ _ h => h.imp hz) (fun b hb _ => ⟨hb, rfl⟩) (by omega) (fun _ _ h => h.len)
theorem Forms.imp0 {w w' : World} {D D' : Nat → Prop} {v : Value} {l : List Form} (h : Forms w D v l) (hD : ∀ b, D b → b < w.heap.size → D' b ∧ w'.heap[b]? = w.heap[b]?) : Forms w' D' v l :=
  Row.imp h (fun a cs _ hr => by
    obtain ⟨kv, rfl, hk2⟩ := hr
    exact ⟨kv, rfl, hk2.imp hD⟩) hD (by omega) (fun _ _ h => h.len)
theorem RX.init {w : World} {l : List Form} {fv : Value} {D : Nat → Prop} (hf : Forms w D fv l) (hD : ∀ b, D b → b < w.heap.size) (ht : ∀ f ∈ l, f.text.size ≤ 9223372036854775807) :
    RX (w.alloc (.cells #[fv, nilv, nilv, nilv, nilv] 54 (0, 0))) l w.heap.size w.heap.size (fun _ => nilv) (fun _ => False) Prg.none := by
  refine ⟨⟨fv, new_blk _ _, ?_⟩, ht, Own.nil _ _ _ _, Own.nil _ _ _ _, Own.nil _ _ _ _, Own.nil _ _ _ _, fun i j b h => (by cases h), fun i b h => (by cases h), fun b h => h.elim, Nat.le_refl _, fun _ _ => rfl⟩
  exact hf.imp0 fun b hb hlt => ⟨hD b hb, Below.heap_alloc w _ b hlt⟩
theorem set_prog {w : World} {b : Nat} {a0 a1 a2 a3 : Value} {t : TypeId} (h : w.heap[b]? = some (.cells #[a0, a1, a2, a3] t (0, 0))) (u0 u1 u2 u3 : Value) :
    ((((w.setCell ⟨b, 0, none⟩ u0).setCell ⟨b, 1, none⟩ u1).setCell ⟨b, 2, none⟩ u2).setCell ⟨b, 3, none⟩ u3).heap[b]? = some (.cells #[u0, u1, u2, u3] t (0, 0)) := by
  have c0 : (w.setCell ⟨b, 0, none⟩ u0).heap[b]? = some (.cells #[u0, a1, a2, a3] t (0, 0)) := by rw [blk_set h]; rfl
  have c1 : ((w.setCell ⟨b, 0, none⟩ u0).setCell ⟨b, 1, none⟩ u1).heap[b]? = some (.cells #[u0, u1, a2, a3] t (0, 0)) := by rw [blk_set c0]; rfl
  have c2 : (((w.setCell ⟨b, 0, none⟩ u0).setCell ⟨b, 1, none⟩ u1).setCell ⟨b, 2, none⟩ u2).heap[b]? = some (.cells #[u0, u1, u2, a3] t (0, 0)) := by rw [blk_set c1]; rfl
  rw [blk_set c2]; rfl
theorem results_read {tmps : Array Value} {w : World} {b0 b1 b2 : Nat} {v0 v1 v2 v3 : Value} {p y : Int} (t0 : tmps.getD 4 undef = .pointer (some ⟨b0, 0, none⟩)) (t1 : tmps.getD 5 undef = .pointer (some ⟨b1, 0, none⟩)) (t2 : tmps.getD 6 undef = .pointer (some ⟨b2, 0, none⟩))
    (h0 : w.heap[b0]? = some (.cells #[v0, v1, v2, v3] 27 (0, 0))) (h1 : w.heap[b1]? = some (.cells #[.int .i64 p] 3 (0, 0))) (h2 : w.heap[b2]? = some (.cells #[.int .i64 y] 30 (0, 0))) :
    (results Try.f9 tmps).run Try.prog w = .ok (.tuple #[.agg #[v0, v1, v2, v3], .int .i64 p, .int .i64 y]) w := by
  simp only [Array.getD_eq_getD_getElem?] at t0 t1 t2
  simp [results, Try.results9, go_sem, t0, t1, t2, blk_cell h0, blk_cell h1, blk_cell h2]
/-- the three results, as they are set -/
structure Out3 (w w' : World) (n : Nat) (v0 v1 v2 v3 : Value) (p y : Int) : Prop where
  h0 : w'.heap[n]? = some (.cells #[v0, v1, v2, v3] 27 (0, 0))
  h1 : w'.heap[n + 1]? = some (.cells #[.int .i64 p] 3 (0, 0))
  h2 : w'.heap[n + 1 + 1]? = some (.cells #[.int .i64 y] 30 (0, 0))
  low : Below n w w'
  rest : ∀ b, n + 3 ≤ b → w'.heap[b]? = w.heap[b]?
theorem Out3.set {w : World} {n : Nat} {a0 a1 a2 a3 b c : Value} (g0 : w.heap[n]? = some (.cells #[a0, a1, a2, a3] 27 (0, 0))) (g1 : w.heap[n + 1]? = some (.cells #[b] 3 (0, 0))) (g2 : w.heap[n + 1 + 1]? = some (.cells #[c] 30 (0, 0))) (v0 v1 v2 v3 : Value) (p y : Int) :
    Out3 w ((((((w.setCell ⟨n, 0, none⟩ v0).setCell ⟨n, 1, none⟩ v1).setCell ⟨n, 2, none⟩ v2).setCell ⟨n, 3, none⟩ v3).setCell ⟨n + 1, 0, none⟩ (.int .i64 p)).setCell ⟨n + 1 + 1, 0, none⟩ (.int .i64 y)) n v0 v1 v2 v3 p y := by
  refine ⟨set_blk (set_blk (set_prog g0 v0 v1 v2 v3) _ _ (by simp)) _ _ (by simp; omega), ?_, ?_, ?_, fun b hb => ?_⟩
  · exact set_blk (blk_set (set_blk (set_blk (set_blk (set_blk g1 _ _ (by simp)) _ _ (by simp)) _ _ (by simp)) _ _ (by simp)) _) _ _ (by simp)
  · exact blk_set (set_blk (set_blk (set_blk (set_blk (set_blk g2 _ _ (by simp; omega)) _ _ (by simp; omega)) _ _ (by simp; omega)) _ _ (by simp; omega)) _ _ (by simp)) _
  · exact ((((((Below.refl n w).setCell (Nat.le_refl _) _).setCell (Nat.le_refl _) _).setCell (Nat.le_refl _) _).setCell (Nat.le_refl _) _).setCell (show n ≤ n + 1 by omega) _).setCell (show n ≤ n + 1 + 1 by omega) _
  · exact (Below.heap_setCell _ _ _ _ (show b ≠ n + 1 + 1 by omega)).trans ((Below.heap_setCell _ _ _ _ (show b ≠ n + 1 by omega)).trans ((Below.heap_setCell _ _ _ _ (show b ≠ n by omega)).trans ((Below.heap_setCell _ _ _ _ (show b ≠ n by omega)).trans ((Below.heap_setCell _ _ _ _ (show b ≠ n by omega)).trans (Below.heap_setCell _ _ _ _ (show b ≠ n by omega))))))
set_option maxHeartbeats 3200000 in
set_option maxRecDepth 100000 in
theorem read_any (l : List Form) (top : List Int) (v tv : Value) (w : World) (hf : Forms w (fun b => b < w.heap.size) v l) (ht : Ints w (fun b => b < w.heap.size) tv top) (hts : ∀ f ∈ l, f.text.size ≤ 9223372036854775807) :
    Calls Try.prog 9 #[v, tv] w (ReadP w (readS l top)) := by
  have hmf : ∀ (fn : Fn) (first cap : Array Value) (w : World), (Instr.makeFunc fn first cap).run Try.prog w = .ok (.func fn first cap) w := fun _ _ _ _ => rfl
  obtain ⟨A, c, rfl, hle, hcap⟩ := hf.slice
  obtain ⟨B, d, rfl, hle2, hcap2⟩ := ht.slice
  go_enter_defers Try.func9, Try.ntmps9
  go_upto_region 1 with fail
  obtain ⟨w1, hw1⟩ : ∃ w1, w.alloc (Obj.cells #[Value.slice none 0 0, Value.slice none 0 0, Value.slice none 0 0, Value.slice none 0 0] 27 (0, 0)) = w1 := ⟨_, rfl⟩
  obtain ⟨w2, hw2⟩ : ∃ w2, w1.alloc (Obj.cells #[Value.int .i64 0] 3 (0, 0)) = w2 := ⟨_, rfl⟩
  obtain ⟨w3, hw3⟩ : ∃ w3, w2.alloc (Obj.cells #[Value.int .i64 0] 30 (0, 0)) = w3 := ⟨_, rfl⟩
  rw [hw1, hw2, hw3]
  obtain ⟨n, hn⟩ : ∃ n, w.heap.size = n := ⟨_, rfl⟩
  have z1 : w1.heap.size = n + 1 := by rw [← hw1]; simp [hn]
  have z2 : w2.heap.size = n + 2 := by rw [← hw2]; simp [z1]
  have z3 : w3.heap.size = n + 3 := by rw [← hw3]; simp [z2]
  have g0 : w3.heap[n]? = some (.cells #[Value.slice none 0 0, Value.slice none 0 0, Value.slice none 0 0, Value.slice none 0 0] 27 (0, 0)) := by rw [← hw3, ← hw2]; exact old_blk (old_blk (by rw [← hw1, ← hn]; exact new_blk _ _) _) _
  have g1 : w3.heap[n + 1]? = some (.cells #[Value.int .i64 0] 3 (0, 0)) := by rw [← hw3]; exact old_blk (by rw [← hw2, ← z1]; exact new_blk _ _) _
  have g2 : w3.heap[n + 1 + 1]? = some (.cells #[Value.int .i64 0] 30 (0, 0)) := by rw [← hw3, ← z2]; exact new_blk _ _
  have gB : Below n w w3 := by rw [← hw3, ← hw2, ← hw1]; exact (((Below.refl n w).alloc (by omega) _).alloc (by rw [hw1]; omega) _).alloc (by rw [hw1, hw2]; omega) _
  have hf3 : Forms w3 (fun b => b < n) (.slice A l.length c) l := by rw [hn] at hf; exact hf.imp0 fun b hb hlt => ⟨hb, gB.block b hb⟩
  have ht3 : Ints w3 (fun b => b < n) (.slice B top.length d) top := by rw [hn] at ht; exact ht.imp fun b hb hlt => ⟨hb, gB.block b hb⟩
  clear hw1 hw2 hw3 z1 z2 hf ht
  rw [hn]
  have HW := hid hn; have HF := hid hf3; have HT := hid ht3; have HTS := hid hts
  clear hn hf3 ht3 hts
  by_cases hrt : rightS l top = true
  case neg =>
    have HR2 : Hid (readS l top = (Prg.none, 0, 3)) := hid (by unfold readS; rw [if_neg hrt])
    have HRT := hid (show rightS l top = false by simpa using hrt)
    clear hrt
    go_wp2_with (go_at_call 16; refine (right_any l top _ _ _ _ HF.out HT.out HTS.out).mono ?_; rintro e w4 ⟨rfl, hb4⟩; rw [HRT.out]; have k0 := (hb4.block n (by omega)).trans g0; have k1 := (hb4.block (n + 1) (by omega)).trans g1; have k2 := (hb4.block (n + 1 + 1) (by omega)).trans g2; have x0 := blk_cell k0; have x1 := blk_cell k1; have x2 := blk_cell k2; have y0 := blk_free k0; have y1 := blk_free k1; have y2 := blk_free k2)
    have ho := Out3.set k0 k1 k2 nilv nilv nilv nilv 0 3
    refine ⟨_, results_read rfl rfl rfl ho.h0 ho.h1 ho.h2, ?_⟩
    rw [HR2.out]
    exact ⟨fun _ => nilv, rfl, by rw [HW.out]; exact (gB.trans (hb4.mono (by omega))).trans ho.low, PRd.none _ _⟩
  have HRT := hid hrt
  have HR2 : Hid (readS l top = match linesS l (l.length + 1) top Prg.none with | .inl p => (p, 0, 0) | .inr e => (Prg.none, e.1, e.2)) := hid (by unfold readS; rw [if_pos hrt])
  have HRF := hid (right_facts hrt)
  clear hrt
  go_upto_region 4 with (go_at_call 16; refine (right_any l top _ _ _ _ HF.out HT.out HTS.out).mono ?_; rintro e w4 ⟨rfl, hb4⟩; rw [HRT.out]; have k0 := (hb4.block n (by omega)).trans g0; have k1 := (hb4.block (n + 1) (by omega)).trans g1; have k2 := (hb4.block (n + 1 + 1) (by omega)).trans g2; have z4 := hb4.size)
  have hf4 : Forms w4 (fun b => b < n) (.slice A l.length c) l := HF.out.imp0 fun b hb hlt => ⟨hb, hb4.block b hlt⟩
  have hX := RX.init hf4 (fun b hb => by omega) HTS.out
  have ht5 := (HT.out.imp (w' := w4) (D' := fun b => b < n) fun b hb hlt => ⟨hb, hb4.block b hlt⟩).imp (w' := w4.alloc (.cells #[.slice A l.length c, nilv, nilv, nilv, nilv] 54 (0, 0))) (D' := fun b => b < n) fun b hb hlt => ⟨hb, Below.heap_alloc w4 _ b hlt⟩
  have gB5 : Below n w (w4.alloc (.cells #[.slice A l.length c, nilv, nilv, nilv, nilv] 54 (0, 0))) := (gB.trans (hb4.mono (by omega))).alloc (by omega) _
  have p0 := old_blk k0 (Obj.cells #[.slice A l.length c, nilv, nilv, nilv, nilv] 54 (0, 0))
  have p1 := old_blk k1 (Obj.cells #[.slice A l.length c, nilv, nilv, nilv, nilv] 54 (0, 0))
  have p2 := old_blk k2 (Obj.cells #[.slice A l.length c, nilv, nilv, nilv, nilv] 54 (0, 0))
  unfold nilv at hX ht5 gB5 p0 p1 p2
  have G0 := hid p0; have G1 := hid p1; have G2 := hid p2; have HX := hid hX; have HT5 := hid ht5; have GB5 := hid gB5
  clear p0 p1 p2 hX ht5 gB5 hf4 k0 k1 k2 g0 g1 g2 gB hb4 hmf HF HT
  go_upto_region 5 with fail
  generalize w4.alloc (.cells #[.slice A l.length c, .slice none 0 0, .slice none 0 0, .slice none 0 0, .slice none 0 0] 54 (0, 0)) = w5 at G0 G1 G2 HX HT5 GB5 ⊢
  obtain ⟨m, hm⟩ : ∃ m, w4.heap.size = m := ⟨_, rfl⟩
  rw [hm] at HX z4 ⊢
  clear hm
  have HX0 := hid (show RX w5 l m m (fun _ => nilv) (fun _ => False) Prg.none from HX.out)
  clear HX
  go_wp2_with fail
  go_loopw [9, 21] (fun s9 s21 wr => ∃ (k : Nat) (p : Prg) (S : Nat → Value) (Z : Nat → Prop), s21 = .int .i64 (k : Int) ∧ k ≤ top.length ∧ Hid (RX wr l m m S Z p) ∧ Hid (Below m w5 wr) ∧ Hid (p.exprs.length + cntL l (l.length + 1) (top.drop k) ≤ 400 ∧ p.stmts.length + cntL l (l.length + 1) (top.drop k) ≤ 400 ∧ p.decls.length ≤ 24 ∧ p.main.length ≤ k) ∧
    Hid (linesS l (l.length + 1) top Prg.none = linesS l (l.length + 1) (top.drop k) p)) (fun s9 s21 wr => top.length - cnt s21)
  case atStart =>
    have := HRF.out.cnt (l.length + 1)
    exact ⟨0, _, _, _, rfl, Nat.zero_le _, HX0, hid (Below.refl _ _), hid ⟨by simpa [Prg.none] using this, by simpa [Prg.none] using this, by simp [Prg.none], by simp [Prg.none]⟩, hid rfl⟩
  case round =>
    obtain ⟨k, p, S, Z, rfl, hk, hX, hB, hcn, hR⟩ := hrel
    by_cases hlt : k < top.length
    · obtain ⟨kb, ko, kc, he, _, _, hkD, hkb, hc0⟩ := HT5.out.at_ k hlt
      simp only [Value.slice.injEq] at he
      obtain ⟨rfl, _, rfl⟩ := he
      have hcr : wr.cell? ⟨kb, ko + k, none⟩ = some (.int .i64 (nth top k)) := (World.cell?_of_block (a := ⟨kb, ko + k, none⟩) (hB.out.block kb (by omega))).trans hc0
      obtain ⟨kn, hkn, hknl, hknf⟩ := HRF.out.topIn _ (nth_mem hlt)
      have hdr : top.drop k = (kn : Int) :: top.drop (k + 1) := by rw [drop_nth hlt, hkn]
      rw [hkn] at hcr
      obtain ⟨q1, q2, q3, q4⟩ := hcn.out
      rw [hdr, cntL_cons] at q1 q2
      have ht4 := HRF.out.tops
      have hR2 := hR.out
      rw [hdr] at hR2
      simp only [linesS] at hR2
      have hrb := hX.out.size.1
      have HKIN := hid (show Kin l (l.length + 1) (kn : Int) from ⟨kn, rfl, hknl, hknf⟩)
      have HR3 := hid hR2
      clear hdr hR hR2 hkn hc0
      rcases hls : lineS l (l.length + 1) (kn : Int) p with p2 | er
      · have HLS := hid hls
        have hln := lineS_len HRF.out.wf HKIN.out hls q3
        clear hls
        go_wp2_with (go_at_call 19; refine (line_any l HRF.out.wf (fun k => Nat.le_trans (HRF.out.kids k) (by omega)) (l.length + 1) wr m m S Z p hX.out kn hknl hknf (by omega) (by omega) (by omega) q3).mono ?_; rintro e w6 he; rw [HLS.out] at he; obtain ⟨rfl, S2, Z2, hX2, hSt2⟩ := he)
        go_roundw
        case rel => exact ⟨k + 1, p2, S2, Z2, by simp, by omega, hid hX2, hid (hB.out.trans (LStep.below hX.out hSt2)), hid ⟨by omega, by omega, by omega, by omega⟩, hid (by rw [HR3.out, HLS.out])⟩
        case measure => simp only [cnt]; omega
      · have HLS := hid hls
        clear hls
        go_wp2_with (go_at_call 19; refine (line_any l HRF.out.wf (fun k => Nat.le_trans (HRF.out.kids k) (by omega)) (l.length + 1) wr m m S Z p hX.out kn hknl hknf (by omega) (by omega) (by omega) q3).mono ?_; rintro e w6 he; rw [HLS.out] at he; obtain ⟨rfl, hb6⟩ := he)
        have hBx := hB.out.trans hb6
        have hkk : ∀ i o, i < m → w5.heap[i]? = some o → w6.heap[i]? = some o := fun i o hi ho => (hBx.block i hi).trans ho
        refine leaves_cons (f := 17) (args := #[.pointer (some ⟨n, 0, none⟩), .pointer (some ⟨n + 1, 0, none⟩), .pointer (some ⟨n + 1 + 1, 0, none⟩)]) (by simp) (by simp [go_sem]) ?_
        refine (catchR n (n + 1) (n + 1 + 1) _ _ _ _ _ _ er w6 n (hkk _ _ (by omega) G0.out) (hkk _ _ (by omega) G1.out) (hkk _ _ (by omega) G2.out) (by omega) (by omega)).mono ?_
        rintro e u' w'' ⟨rfl, rfl, hBc, k0, k1, k2⟩
        have hRn : readS l top = (Prg.none, er.1, er.2) := by rw [HR2.out, HR3.out, HLS.out]
        refine ⟨_, results_read rfl rfl rfl k0 k1 k2, ?_⟩
        rw [hRn]
        exact ⟨fun _ => nilv, rfl, by rw [HW.out]; exact GB5.out.trans ((hBx.mono (by omega)).trans hBc), PRd.none _ _⟩
    · have hk' : k = top.length := by omega
      subst hk'
      have hR2 := hR.out
      rw [List.drop_length] at hR2
      simp only [linesS] at hR2
      have HR3 := hid hR2
      have hB0 := hB.out
      have k0 := (hB0.block n (by omega)).trans G0.out; have k1 := (hB0.block (n + 1) (by omega)).trans G1.out; have k2 := (hB0.block (n + 1 + 1) (by omega)).trans G2.out
      have x0 := blk_cell k0; have x1 := blk_cell k1; have x2 := blk_cell k2
      have y0 := blk_free k0; have y1 := blk_free k1; have y2 := blk_free k2
      obtain ⟨fv, hb, _⟩ := hX.out.blk
      obtain ⟨A0, c0, e0, _⟩ := hX.out.decls.slice
      obtain ⟨A1, c1, e1, _⟩ := hX.out.exprs.slice
      obtain ⟨A2, c2, e2, _⟩ := hX.out.stmts.slice
      obtain ⟨A3, c3, e3, _⟩ := hX.out.main.slice
      rw [e0, e1, e2, e3] at hb
      have z0 := blk_cell hb
      have HE := hid (And.intro e0 (And.intro e1 (And.intro e2 e3)))
      have ho := Out3.set k0 k1 k2 (.slice A0 p.decls.length c0) (.slice A1 p.exprs.length c1) (.slice A2 p.stmts.length c2) (.slice A3 p.main.length c3) 0 0
      have HO := hid ho
      clear hR hR2 hB0 hb e0 e1 e2 e3 k0 k1 k2 ho
      go_wp2_with fail
      refine leaves_cons (f := 17) (args := #[.pointer (some ⟨n, 0, none⟩), .pointer (some ⟨n + 1, 0, none⟩), .pointer (some ⟨n + 1 + 1, 0, none⟩)]) (by simp) (by simp [go_sem]) ?_
      refine (idleR n (n + 1) (n + 1 + 1) _).mono ?_
      rintro e u' w'' ⟨rfl, rfl, rfl⟩
      refine ⟨_, results_read rfl rfl rfl HO.out.h0 HO.out.h1 HO.out.h2, ?_⟩
      have hRn : readS l top = (p, 0, 0) := by rw [HR2.out, HR3.out]
      rw [hRn]
      obtain ⟨e0, e1, e2, e3⟩ := HE.out
      refine ⟨S, by rw [e0, e1, e2, e3], by rw [HW.out]; exact (GB5.out.trans (hB.out.mono (by omega))).trans HO.out.low, ?_⟩
      exact (hX.out.prd).imp fun b hb hlt => ⟨by rw [HW.out]; omega, HO.out.rest b (by omega)⟩
end Go.Proofs.Ytgaginegcjpddaa
