/- The program's writer: expressions but for calls, kind by kind. (printed by gen_wexpr.py) -/
import Derived.Test.YtgaginegcjpddaaQt10
set_option linter.unusedVariables false
set_option linter.unusedSimpArgs false
namespace Go.Proofs.Ytgaginegcjpddaa
open Go.RowKit
set_option maxHeartbeats 1600000 in
set_option maxRecDepth 100000 in
theorem exprW_lit (es : List Expr) (br lim : Int) (n : Nat) (o op num : Int) (nm : ByteArray) (xk : List Int) (w : World) (lo pb : Nat) (ex : Nat → Prop) (D S : Nat → Value) (l : List Form) (top : List Int) (h : WX w lo ex pb D S l top) (hwf : WWf l top) (hbr : WAt br l) (hP : ExprsP w lo (D 1) es) (hn : n < es.length) (hl : (n : Int) < lim) (hx : nth es n = { kind := 1, of_ := o, op := op, name := nm, num := num, kids := xk }) :
    Calls Try.prog 55 #[.pointer (some ⟨pb, 0, none⟩), .int .i64 br, .int .i64 (n : Int), .int .i64 lim] w (WP w lo ex pb D (unitR (literalS br { kind := 1, of_ := o, op := op, name := nm, num := num, kids := xk } (l, top)))) := by
  obtain ⟨xb, xo, xc, kv, hD1, hxb, hcells, hints⟩ := hP.at_ hn
  rw [hx] at hcells hints
  obtain ⟨KA, kc, rfl, _, _⟩ := hints.slice
  have c0 := hcells 0 _ rfl; have c1 := hcells 1 _ rfl; have c2 := hcells 2 _ rfl; have c3 := hcells 3 _ rfl; have c4 := hcells 4 _ rfl; have c5 := hcells 5 _ rfl
  simp only [Nat.add_zero] at c0
  have hB := h.blk
  rw [hD1] at hB
  have q1 := blk_cell hB 1
  have hmin := run_min2 Try.prog lim (es.length : Int)
  obtain ⟨M, hM⟩ : ∃ M, minI lim (es.length : Int) = M := ⟨_, rfl⟩
  have HM := hid (show 0 ≤ (n : Int) ∧ (n : Int) < M by rw [← hM]; unfold minI; split <;> omega)
  rw [hM] at hmin
  have hn0 : (0 : Int) ≤ (n : Int) := by omega
  have hn1 : (n : Int) < (es.length : Int) := by omega
  have H := hid h; have HW := hid hwf; have HA := hid hbr; have HI := hid hints
  clear h hwf hbr hP hcells hM hx hB hints
  go_enter Try.func55, Try.ntmps55
  go_wp2_with (go_at_call 31; refine (belowW _ _ _).mono ?_; rintro e w' ⟨he, hw⟩; have hw := hw.symm; subst hw; rw [if_pos HM.out] at he; subst he)
  refine (literalG { kind := 1, of_ := o, op := op, name := nm, num := num, kids := xk } KA xk.length kc br (WG.refl (s := (l, top)) (H.out.alloc (.cells #[.int .u8 1, .int .u8 o, .int .u8 op, .string nm, .int .i64 num, .slice KA xk.length kc] 71)) HW.out) HA.out).mono ?_
  intro e w' h9
  have h9 := WP.unalloc H.out h9
  rcases hr : literalS br { kind := 1, of_ := o, op := op, name := nm, num := num, kids := xk } (l, top) with _ | q
  · rw [hr] at h9
    obtain rfl := h9.none
    exact ⟨rfl, WP.no (by first | rfl | (rw [hr]; rfl)) h9.low h9.keep⟩
  · rw [hr] at h9
    obtain ⟨rfl, g2⟩ := h9.some
    have G2 := hid g2; have HR := hid hr
    clear h9 g2 hr
    go_wp2
    go_end0
    exact G2.out.ok (by first | rfl | (rw [HR.out]; rfl))
set_option maxHeartbeats 1600000 in
set_option maxRecDepth 100000 in
theorem exprW_var (es : List Expr) (br lim : Int) (n : Nat) (o op num : Int) (nm : ByteArray) (xk : List Int) (w : World) (lo pb : Nat) (ex : Nat → Prop) (D S : Nat → Value) (l : List Form) (top : List Int) (h : WX w lo ex pb D S l top) (hwf : WWf l top) (hbr : WAt br l) (hP : ExprsP w lo (D 1) es) (hn : n < es.length) (hl : (n : Int) < lim) (hx : nth es n = { kind := 2, of_ := o, op := op, name := nm, num := num, kids := xk }) :
    Calls Try.prog 55 #[.pointer (some ⟨pb, 0, none⟩), .int .i64 br, .int .i64 (n : Int), .int .i64 lim] w (WP w lo ex pb D (unitR (wordS br nm (l, top)))) := by
  obtain ⟨xb, xo, xc, kv, hD1, hxb, hcells, hints⟩ := hP.at_ hn
  rw [hx] at hcells hints
  obtain ⟨KA, kc, rfl, _, _⟩ := hints.slice
  have c0 := hcells 0 _ rfl; have c1 := hcells 1 _ rfl; have c2 := hcells 2 _ rfl; have c3 := hcells 3 _ rfl; have c4 := hcells 4 _ rfl; have c5 := hcells 5 _ rfl
  simp only [Nat.add_zero] at c0
  have hB := h.blk
  rw [hD1] at hB
  have q1 := blk_cell hB 1
  have hmin := run_min2 Try.prog lim (es.length : Int)
  obtain ⟨M, hM⟩ : ∃ M, minI lim (es.length : Int) = M := ⟨_, rfl⟩
  have HM := hid (show 0 ≤ (n : Int) ∧ (n : Int) < M by rw [← hM]; unfold minI; split <;> omega)
  rw [hM] at hmin
  have hn0 : (0 : Int) ≤ (n : Int) := by omega
  have hn1 : (n : Int) < (es.length : Int) := by omega
  have H := hid h; have HW := hid hwf; have HA := hid hbr; have HI := hid hints
  clear h hwf hbr hP hcells hM hx hB hints
  go_enter Try.func55, Try.ntmps55
  go_wp2_with (go_at_call 31; refine (belowW _ _ _).mono ?_; rintro e w' ⟨he, hw⟩; have hw := hw.symm; subst hw; rw [if_pos HM.out] at he; subst he)
  refine (wordG nm br (WG.refl (s := (l, top)) (H.out.alloc (.cells #[.int .u8 2, .int .u8 o, .int .u8 op, .string nm, .int .i64 num, .slice KA xk.length kc] 71)) HW.out) HA.out).mono ?_
  intro e w' h9
  have h9 := WP.unalloc H.out h9
  rcases hr : wordS br nm (l, top) with _ | q
  · rw [hr] at h9
    obtain rfl := h9.none
    exact ⟨rfl, WP.no (by first | rfl | (rw [hr]; rfl)) h9.low h9.keep⟩
  · rw [hr] at h9
    obtain ⟨rfl, g2⟩ := h9.some
    have G2 := hid g2; have HR := hid hr
    clear h9 g2 hr
    go_wp2
    go_end0
    exact G2.out.ok (by first | rfl | (rw [HR.out]; rfl))
set_option maxHeartbeats 1600000 in
set_option maxRecDepth 100000 in
theorem exprW_own (es : List Expr) (br lim : Int) (n : Nat) (o op num : Int) (nm : ByteArray) (xk : List Int) (w : World) (lo pb : Nat) (ex : Nat → Prop) (D S : Nat → Value) (l : List Form) (top : List Int) (h : WX w lo ex pb D S l top) (hwf : WWf l top) (hbr : WAt br l) (hP : ExprsP w lo (D 1) es) (hn : n < es.length) (hl : (n : Int) < lim) (hx : nth es n = { kind := 3, of_ := o, op := op, name := nm, num := num, kids := xk }) :
    Calls Try.prog 55 #[.pointer (some ⟨pb, 0, none⟩), .int .i64 br, .int .i64 (n : Int), .int .i64 lim] w (WP w lo ex pb D (unitR (sndS (openS br [wOwn, nm] (l, top))))) := by
  obtain ⟨xb, xo, xc, kv, hD1, hxb, hcells, hints⟩ := hP.at_ hn
  rw [hx] at hcells hints
  obtain ⟨KA, kc, rfl, _, _⟩ := hints.slice
  have c0 := hcells 0 _ rfl; have c1 := hcells 1 _ rfl; have c2 := hcells 2 _ rfl; have c3 := hcells 3 _ rfl; have c4 := hcells 4 _ rfl; have c5 := hcells 5 _ rfl
  simp only [Nat.add_zero] at c0
  have hB := h.blk
  rw [hD1] at hB
  have q1 := blk_cell hB 1
  have hmin := run_min2 Try.prog lim (es.length : Int)
  obtain ⟨M, hM⟩ : ∃ M, minI lim (es.length : Int) = M := ⟨_, rfl⟩
  have HM := hid (show 0 ≤ (n : Int) ∧ (n : Int) < M by rw [← hM]; unfold minI; split <;> omega)
  rw [hM] at hmin
  have hn0 : (0 : Int) ≤ (n : Int) := by omega
  have hn1 : (n : Int) < (es.length : Int) := by omega
  have H := hid h; have HW := hid hwf; have HA := hid hbr; have HI := hid hints
  clear h hwf hbr hP hcells hM hx hB hints
  go_enter Try.func55, Try.ntmps55
  go_wp2_with (go_at_call 31; refine (belowW _ _ _).mono ?_; rintro e w' ⟨he, hw⟩; have hw := hw.symm; subst hw; rw [if_pos HM.out] at he; subst he)
  obtain ⟨w1, hw1⟩ : ∃ w1, w.alloc (.cells #[.int .u8 3, .int .u8 o, .int .u8 op, .string nm, .int .i64 num, .slice KA xk.length kc] 71) = w1 := ⟨_, rfl⟩
  have H1 := H.out.alloc (.cells #[.int .u8 3, .int .u8 o, .int .u8 op, .string nm, .int .i64 num, .slice KA xk.length kc] 71)
  rw [hw1] at H1 ⊢
  have hz : w.heap.size + 1 = w1.heap.size := by rw [← hw1]; simp
  rw [hz]
  obtain ⟨w2, hw2⟩ : ∃ w2, w1.alloc (.cells #[.string ⟨#[111, 119, 110]⟩, .string nm] 9) = w2 := ⟨_, rfl⟩
  have H2 := H1.alloc (.cells #[.string ⟨#[111, 119, 110]⟩, .string nm] 9)
  have hx2 := new_blk w1 (.cells #[.string ⟨#[111, 119, 110]⟩, .string nm] 9)
  rw [hw2] at H2 hx2 ⊢
  refine (openG [wOwn, nm] _ br (WG.refl (s := (l, top)) H2 HW.out) HA.out (Strs.two hx2 ⟨.inr rfl, fun e => by have := blk_lt H1.blk; omega⟩)).mono ?_
  intro e w' h9
  have h9 := WP.unalloc H.out (by rw [hw1]; exact WP.unalloc H1 (by rw [hw2]; exact h9))
  rcases hr : openS br [wOwn, nm] (l, top) with _ | q
  · rw [hr] at h9
    obtain rfl := h9.none
    exact ⟨rfl, WP.no (by first | rfl | (rw [hr]; rfl)) h9.low h9.keep⟩
  · rw [hr] at h9
    obtain ⟨rfl, g2⟩ := h9.some
    have G2 := hid g2; have HR := hid hr
    clear h9 g2 hr
    go_wp2
    go_end0
    exact G2.out.ok (by first | rfl | (rw [HR.out]; rfl))
set_option maxHeartbeats 1600000 in
set_option maxRecDepth 100000 in
theorem exprW_far (es : List Expr) (br lim : Int) (n : Nat) (o op num : Int) (nm : ByteArray) (xk : List Int) (w : World) (lo pb : Nat) (ex : Nat → Prop) (D S : Nat → Value) (l : List Form) (top : List Int) (h : WX w lo ex pb D S l top) (hwf : WWf l top) (hbr : WAt br l) (hP : ExprsP w lo (D 1) es) (hn : n < es.length) (hl : (n : Int) < lim) (hx : nth es n = { kind := 4, of_ := o, op := op, name := nm, num := num, kids := xk }) :
    Calls Try.prog 55 #[.pointer (some ⟨pb, 0, none⟩), .int .i64 br, .int .i64 (n : Int), .int .i64 lim] w (WP w lo ex pb D (unitR (sndS (openS br [wFar, nm] (l, top))))) := by
  obtain ⟨xb, xo, xc, kv, hD1, hxb, hcells, hints⟩ := hP.at_ hn
  rw [hx] at hcells hints
  obtain ⟨KA, kc, rfl, _, _⟩ := hints.slice
  have c0 := hcells 0 _ rfl; have c1 := hcells 1 _ rfl; have c2 := hcells 2 _ rfl; have c3 := hcells 3 _ rfl; have c4 := hcells 4 _ rfl; have c5 := hcells 5 _ rfl
  simp only [Nat.add_zero] at c0
  have hB := h.blk
  rw [hD1] at hB
  have q1 := blk_cell hB 1
  have hmin := run_min2 Try.prog lim (es.length : Int)
  obtain ⟨M, hM⟩ : ∃ M, minI lim (es.length : Int) = M := ⟨_, rfl⟩
  have HM := hid (show 0 ≤ (n : Int) ∧ (n : Int) < M by rw [← hM]; unfold minI; split <;> omega)
  rw [hM] at hmin
  have hn0 : (0 : Int) ≤ (n : Int) := by omega
  have hn1 : (n : Int) < (es.length : Int) := by omega
  have H := hid h; have HW := hid hwf; have HA := hid hbr; have HI := hid hints
  clear h hwf hbr hP hcells hM hx hB hints
  go_enter Try.func55, Try.ntmps55
  go_wp2_with (go_at_call 31; refine (belowW _ _ _).mono ?_; rintro e w' ⟨he, hw⟩; have hw := hw.symm; subst hw; rw [if_pos HM.out] at he; subst he)
  obtain ⟨w1, hw1⟩ : ∃ w1, w.alloc (.cells #[.int .u8 4, .int .u8 o, .int .u8 op, .string nm, .int .i64 num, .slice KA xk.length kc] 71) = w1 := ⟨_, rfl⟩
  have H1 := H.out.alloc (.cells #[.int .u8 4, .int .u8 o, .int .u8 op, .string nm, .int .i64 num, .slice KA xk.length kc] 71)
  rw [hw1] at H1 ⊢
  have hz : w.heap.size + 1 = w1.heap.size := by rw [← hw1]; simp
  rw [hz]
  obtain ⟨w2, hw2⟩ : ∃ w2, w1.alloc (.cells #[.string ⟨#[102, 97, 114]⟩, .string nm] 9) = w2 := ⟨_, rfl⟩
  have H2 := H1.alloc (.cells #[.string ⟨#[102, 97, 114]⟩, .string nm] 9)
  have hx2 := new_blk w1 (.cells #[.string ⟨#[102, 97, 114]⟩, .string nm] 9)
  rw [hw2] at H2 hx2 ⊢
  refine (openG [wFar, nm] _ br (WG.refl (s := (l, top)) H2 HW.out) HA.out (Strs.two hx2 ⟨.inr rfl, fun e => by have := blk_lt H1.blk; omega⟩)).mono ?_
  intro e w' h9
  have h9 := WP.unalloc H.out (by rw [hw1]; exact WP.unalloc H1 (by rw [hw2]; exact h9))
  rcases hr : openS br [wFar, nm] (l, top) with _ | q
  · rw [hr] at h9
    obtain rfl := h9.none
    exact ⟨rfl, WP.no (by first | rfl | (rw [hr]; rfl)) h9.low h9.keep⟩
  · rw [hr] at h9
    obtain ⟨rfl, g2⟩ := h9.some
    have G2 := hid g2; have HR := hid hr
    clear h9 g2 hr
    go_wp2
    go_end0
    exact G2.out.ok (by first | rfl | (rw [HR.out]; rfl))
set_option maxHeartbeats 1600000 in
set_option maxRecDepth 100000 in
theorem exprW_via (es : List Expr) (br lim : Int) (n : Nat) (o op num : Int) (nm : ByteArray) (xk : List Int) (w : World) (lo pb : Nat) (ex : Nat → Prop) (D S : Nat → Value) (l : List Form) (top : List Int) (h : WX w lo ex pb D S l top) (hwf : WWf l top) (hbr : WAt br l) (hP : ExprsP w lo (D 1) es) (hn : n < es.length) (hl : (n : Int) < lim) (hx : nth es n = { kind := 5, of_ := o, op := op, name := nm, num := num, kids := xk }) :
    Calls Try.prog 55 #[.pointer (some ⟨pb, 0, none⟩), .int .i64 br, .int .i64 (n : Int), .int .i64 lim] w (WP w lo ex pb D (unitR (sndS (openS br [wVia, nm] (l, top))))) := by
  obtain ⟨xb, xo, xc, kv, hD1, hxb, hcells, hints⟩ := hP.at_ hn
  rw [hx] at hcells hints
  obtain ⟨KA, kc, rfl, _, _⟩ := hints.slice
  have c0 := hcells 0 _ rfl; have c1 := hcells 1 _ rfl; have c2 := hcells 2 _ rfl; have c3 := hcells 3 _ rfl; have c4 := hcells 4 _ rfl; have c5 := hcells 5 _ rfl
  simp only [Nat.add_zero] at c0
  have hB := h.blk
  rw [hD1] at hB
  have q1 := blk_cell hB 1
  have hmin := run_min2 Try.prog lim (es.length : Int)
  obtain ⟨M, hM⟩ : ∃ M, minI lim (es.length : Int) = M := ⟨_, rfl⟩
  have HM := hid (show 0 ≤ (n : Int) ∧ (n : Int) < M by rw [← hM]; unfold minI; split <;> omega)
  rw [hM] at hmin
  have hn0 : (0 : Int) ≤ (n : Int) := by omega
  have hn1 : (n : Int) < (es.length : Int) := by omega
  have H := hid h; have HW := hid hwf; have HA := hid hbr; have HI := hid hints
  clear h hwf hbr hP hcells hM hx hB hints
  go_enter Try.func55, Try.ntmps55
  go_wp2_with (go_at_call 31; refine (belowW _ _ _).mono ?_; rintro e w' ⟨he, hw⟩; have hw := hw.symm; subst hw; rw [if_pos HM.out] at he; subst he)
  obtain ⟨w1, hw1⟩ : ∃ w1, w.alloc (.cells #[.int .u8 5, .int .u8 o, .int .u8 op, .string nm, .int .i64 num, .slice KA xk.length kc] 71) = w1 := ⟨_, rfl⟩
  have H1 := H.out.alloc (.cells #[.int .u8 5, .int .u8 o, .int .u8 op, .string nm, .int .i64 num, .slice KA xk.length kc] 71)
  rw [hw1] at H1 ⊢
  have hz : w.heap.size + 1 = w1.heap.size := by rw [← hw1]; simp
  rw [hz]
  obtain ⟨w2, hw2⟩ : ∃ w2, w1.alloc (.cells #[.string ⟨#[118, 105, 97]⟩, .string nm] 9) = w2 := ⟨_, rfl⟩
  have H2 := H1.alloc (.cells #[.string ⟨#[118, 105, 97]⟩, .string nm] 9)
  have hx2 := new_blk w1 (.cells #[.string ⟨#[118, 105, 97]⟩, .string nm] 9)
  rw [hw2] at H2 hx2 ⊢
  refine (openG [wVia, nm] _ br (WG.refl (s := (l, top)) H2 HW.out) HA.out (Strs.two hx2 ⟨.inr rfl, fun e => by have := blk_lt H1.blk; omega⟩)).mono ?_
  intro e w' h9
  have h9 := WP.unalloc H.out (by rw [hw1]; exact WP.unalloc H1 (by rw [hw2]; exact h9))
  rcases hr : openS br [wVia, nm] (l, top) with _ | q
  · rw [hr] at h9
    obtain rfl := h9.none
    exact ⟨rfl, WP.no (by first | rfl | (rw [hr]; rfl)) h9.low h9.keep⟩
  · rw [hr] at h9
    obtain ⟨rfl, g2⟩ := h9.some
    have G2 := hid g2; have HR := hid hr
    clear h9 g2 hr
    go_wp2
    go_end0
    exact G2.out.ok (by first | rfl | (rw [HR.out]; rfl))
set_option maxHeartbeats 1600000 in
set_option maxRecDepth 100000 in
theorem exprW_id (es : List Expr) (br lim : Int) (n : Nat) (o op num : Int) (nm : ByteArray) (xk : List Int) (w : World) (lo pb : Nat) (ex : Nat → Prop) (D S : Nat → Value) (l : List Form) (top : List Int) (h : WX w lo ex pb D S l top) (hwf : WWf l top) (hbr : WAt br l) (hP : ExprsP w lo (D 1) es) (hn : n < es.length) (hl : (n : Int) < lim) (hx : nth es n = { kind := 6, of_ := o, op := op, name := nm, num := num, kids := xk }) :
    Calls Try.prog 55 #[.pointer (some ⟨pb, 0, none⟩), .int .i64 br, .int .i64 (n : Int), .int .i64 lim] w (WP w lo ex pb D (unitR (sndS (openS br [wId] (l, top))))) := by
  obtain ⟨xb, xo, xc, kv, hD1, hxb, hcells, hints⟩ := hP.at_ hn
  rw [hx] at hcells hints
  obtain ⟨KA, kc, rfl, _, _⟩ := hints.slice
  have c0 := hcells 0 _ rfl; have c1 := hcells 1 _ rfl; have c2 := hcells 2 _ rfl; have c3 := hcells 3 _ rfl; have c4 := hcells 4 _ rfl; have c5 := hcells 5 _ rfl
  simp only [Nat.add_zero] at c0
  have hB := h.blk
  rw [hD1] at hB
  have q1 := blk_cell hB 1
  have hmin := run_min2 Try.prog lim (es.length : Int)
  obtain ⟨M, hM⟩ : ∃ M, minI lim (es.length : Int) = M := ⟨_, rfl⟩
  have HM := hid (show 0 ≤ (n : Int) ∧ (n : Int) < M by rw [← hM]; unfold minI; split <;> omega)
  rw [hM] at hmin
  have hn0 : (0 : Int) ≤ (n : Int) := by omega
  have hn1 : (n : Int) < (es.length : Int) := by omega
  have H := hid h; have HW := hid hwf; have HA := hid hbr; have HI := hid hints
  clear h hwf hbr hP hcells hM hx hB hints
  go_enter Try.func55, Try.ntmps55
  go_wp2_with (go_at_call 31; refine (belowW _ _ _).mono ?_; rintro e w' ⟨he, hw⟩; have hw := hw.symm; subst hw; rw [if_pos HM.out] at he; subst he)
  obtain ⟨w1, hw1⟩ : ∃ w1, w.alloc (.cells #[.int .u8 6, .int .u8 o, .int .u8 op, .string nm, .int .i64 num, .slice KA xk.length kc] 71) = w1 := ⟨_, rfl⟩
  have H1 := H.out.alloc (.cells #[.int .u8 6, .int .u8 o, .int .u8 op, .string nm, .int .i64 num, .slice KA xk.length kc] 71)
  rw [hw1] at H1 ⊢
  have hz : w.heap.size + 1 = w1.heap.size := by rw [← hw1]; simp
  rw [hz]
  obtain ⟨w2, hw2⟩ : ∃ w2, w1.alloc (.cells #[.string ⟨#[105, 100]⟩] 9) = w2 := ⟨_, rfl⟩
  have H2 := H1.alloc (.cells #[.string ⟨#[105, 100]⟩] 9)
  have hx2 := new_blk w1 (.cells #[.string ⟨#[105, 100]⟩] 9)
  rw [hw2] at H2 hx2 ⊢
  refine (openG [wId] _ br (WG.refl (s := (l, top)) H2 HW.out) HA.out (Strs.one hx2 ⟨.inr rfl, fun e => by have := blk_lt H1.blk; omega⟩)).mono ?_
  intro e w' h9
  have h9 := WP.unalloc H.out (by rw [hw1]; exact WP.unalloc H1 (by rw [hw2]; exact h9))
  rcases hr : openS br [wId] (l, top) with _ | q
  · rw [hr] at h9
    obtain rfl := h9.none
    exact ⟨rfl, WP.no (by first | rfl | (rw [hr]; rfl)) h9.low h9.keep⟩
  · rw [hr] at h9
    obtain ⟨rfl, g2⟩ := h9.some
    have G2 := hid g2; have HR := hid hr
    clear h9 g2 hr
    go_wp2
    go_end0
    exact G2.out.ok (by first | rfl | (rw [HR.out]; rfl))
set_option maxHeartbeats 1600000 in
set_option maxRecDepth 100000 in
theorem exprW_farid (es : List Expr) (br lim : Int) (n : Nat) (o op num : Int) (nm : ByteArray) (xk : List Int) (w : World) (lo pb : Nat) (ex : Nat → Prop) (D S : Nat → Value) (l : List Form) (top : List Int) (h : WX w lo ex pb D S l top) (hwf : WWf l top) (hbr : WAt br l) (hP : ExprsP w lo (D 1) es) (hn : n < es.length) (hl : (n : Int) < lim) (hx : nth es n = { kind := 7, of_ := o, op := op, name := nm, num := num, kids := xk }) :
    Calls Try.prog 55 #[.pointer (some ⟨pb, 0, none⟩), .int .i64 br, .int .i64 (n : Int), .int .i64 lim] w (WP w lo ex pb D (unitR (sndS (openS br [wFarid] (l, top))))) := by
  obtain ⟨xb, xo, xc, kv, hD1, hxb, hcells, hints⟩ := hP.at_ hn
  rw [hx] at hcells hints
  obtain ⟨KA, kc, rfl, _, _⟩ := hints.slice
  have c0 := hcells 0 _ rfl; have c1 := hcells 1 _ rfl; have c2 := hcells 2 _ rfl; have c3 := hcells 3 _ rfl; have c4 := hcells 4 _ rfl; have c5 := hcells 5 _ rfl
  simp only [Nat.add_zero] at c0
  have hB := h.blk
  rw [hD1] at hB
  have q1 := blk_cell hB 1
  have hmin := run_min2 Try.prog lim (es.length : Int)
  obtain ⟨M, hM⟩ : ∃ M, minI lim (es.length : Int) = M := ⟨_, rfl⟩
  have HM := hid (show 0 ≤ (n : Int) ∧ (n : Int) < M by rw [← hM]; unfold minI; split <;> omega)
  rw [hM] at hmin
  have hn0 : (0 : Int) ≤ (n : Int) := by omega
  have hn1 : (n : Int) < (es.length : Int) := by omega
  have H := hid h; have HW := hid hwf; have HA := hid hbr; have HI := hid hints
  clear h hwf hbr hP hcells hM hx hB hints
  go_enter Try.func55, Try.ntmps55
  go_wp2_with (go_at_call 31; refine (belowW _ _ _).mono ?_; rintro e w' ⟨he, hw⟩; have hw := hw.symm; subst hw; rw [if_pos HM.out] at he; subst he)
  obtain ⟨w1, hw1⟩ : ∃ w1, w.alloc (.cells #[.int .u8 7, .int .u8 o, .int .u8 op, .string nm, .int .i64 num, .slice KA xk.length kc] 71) = w1 := ⟨_, rfl⟩
  have H1 := H.out.alloc (.cells #[.int .u8 7, .int .u8 o, .int .u8 op, .string nm, .int .i64 num, .slice KA xk.length kc] 71)
  rw [hw1] at H1 ⊢
  have hz : w.heap.size + 1 = w1.heap.size := by rw [← hw1]; simp
  rw [hz]
  obtain ⟨w2, hw2⟩ : ∃ w2, w1.alloc (.cells #[.string ⟨#[102, 97, 114, 105, 100]⟩] 9) = w2 := ⟨_, rfl⟩
  have H2 := H1.alloc (.cells #[.string ⟨#[102, 97, 114, 105, 100]⟩] 9)
  have hx2 := new_blk w1 (.cells #[.string ⟨#[102, 97, 114, 105, 100]⟩] 9)
  rw [hw2] at H2 hx2 ⊢
  refine (openG [wFarid] _ br (WG.refl (s := (l, top)) H2 HW.out) HA.out (Strs.one hx2 ⟨.inr rfl, fun e => by have := blk_lt H1.blk; omega⟩)).mono ?_
  intro e w' h9
  have h9 := WP.unalloc H.out (by rw [hw1]; exact WP.unalloc H1 (by rw [hw2]; exact h9))
  rcases hr : openS br [wFarid] (l, top) with _ | q
  · rw [hr] at h9
    obtain rfl := h9.none
    exact ⟨rfl, WP.no (by first | rfl | (rw [hr]; rfl)) h9.low h9.keep⟩
  · rw [hr] at h9
    obtain ⟨rfl, g2⟩ := h9.some
    have G2 := hid g2; have HR := hid hr
    clear h9 g2 hr
    go_wp2
    go_end0
    exact G2.out.ok (by first | rfl | (rw [HR.out]; rfl))
set_option maxHeartbeats 1600000 in
set_option maxRecDepth 100000 in
theorem exprW_count (es : List Expr) (br lim : Int) (n : Nat) (o op num : Int) (nm : ByteArray) (xk : List Int) (w : World) (lo pb : Nat) (ex : Nat → Prop) (D S : Nat → Value) (l : List Form) (top : List Int) (h : WX w lo ex pb D S l top) (hwf : WWf l top) (hbr : WAt br l) (hP : ExprsP w lo (D 1) es) (hn : n < es.length) (hl : (n : Int) < lim) (hx : nth es n = { kind := 9, of_ := o, op := op, name := nm, num := num, kids := xk }) :
    Calls Try.prog 55 #[.pointer (some ⟨pb, 0, none⟩), .int .i64 br, .int .i64 (n : Int), .int .i64 lim] w (WP w lo ex pb D (unitR (sndS (openS br [wCount] (l, top))))) := by
  obtain ⟨xb, xo, xc, kv, hD1, hxb, hcells, hints⟩ := hP.at_ hn
  rw [hx] at hcells hints
  obtain ⟨KA, kc, rfl, _, _⟩ := hints.slice
  have c0 := hcells 0 _ rfl; have c1 := hcells 1 _ rfl; have c2 := hcells 2 _ rfl; have c3 := hcells 3 _ rfl; have c4 := hcells 4 _ rfl; have c5 := hcells 5 _ rfl
  simp only [Nat.add_zero] at c0
  have hB := h.blk
  rw [hD1] at hB
  have q1 := blk_cell hB 1
  have hmin := run_min2 Try.prog lim (es.length : Int)
  obtain ⟨M, hM⟩ : ∃ M, minI lim (es.length : Int) = M := ⟨_, rfl⟩
  have HM := hid (show 0 ≤ (n : Int) ∧ (n : Int) < M by rw [← hM]; unfold minI; split <;> omega)
  rw [hM] at hmin
  have hn0 : (0 : Int) ≤ (n : Int) := by omega
  have hn1 : (n : Int) < (es.length : Int) := by omega
  have H := hid h; have HW := hid hwf; have HA := hid hbr; have HI := hid hints
  clear h hwf hbr hP hcells hM hx hB hints
  go_enter Try.func55, Try.ntmps55
  go_wp2_with (go_at_call 31; refine (belowW _ _ _).mono ?_; rintro e w' ⟨he, hw⟩; have hw := hw.symm; subst hw; rw [if_pos HM.out] at he; subst he)
  obtain ⟨w1, hw1⟩ : ∃ w1, w.alloc (.cells #[.int .u8 9, .int .u8 o, .int .u8 op, .string nm, .int .i64 num, .slice KA xk.length kc] 71) = w1 := ⟨_, rfl⟩
  have H1 := H.out.alloc (.cells #[.int .u8 9, .int .u8 o, .int .u8 op, .string nm, .int .i64 num, .slice KA xk.length kc] 71)
  rw [hw1] at H1 ⊢
  have hz : w.heap.size + 1 = w1.heap.size := by rw [← hw1]; simp
  rw [hz]
  obtain ⟨w2, hw2⟩ : ∃ w2, w1.alloc (.cells #[.string ⟨#[99, 111, 117, 110, 116]⟩] 9) = w2 := ⟨_, rfl⟩
  have H2 := H1.alloc (.cells #[.string ⟨#[99, 111, 117, 110, 116]⟩] 9)
  have hx2 := new_blk w1 (.cells #[.string ⟨#[99, 111, 117, 110, 116]⟩] 9)
  rw [hw2] at H2 hx2 ⊢
  refine (openG [wCount] _ br (WG.refl (s := (l, top)) H2 HW.out) HA.out (Strs.one hx2 ⟨.inr rfl, fun e => by have := blk_lt H1.blk; omega⟩)).mono ?_
  intro e w' h9
  have h9 := WP.unalloc H.out (by rw [hw1]; exact WP.unalloc H1 (by rw [hw2]; exact h9))
  rcases hr : openS br [wCount] (l, top) with _ | q
  · rw [hr] at h9
    obtain rfl := h9.none
    exact ⟨rfl, WP.no (by first | rfl | (rw [hr]; rfl)) h9.low h9.keep⟩
  · rw [hr] at h9
    obtain ⟨rfl, g2⟩ := h9.some
    have G2 := hid g2; have HR := hid hr
    clear h9 g2 hr
    go_wp2
    go_end0
    exact G2.out.ok (by first | rfl | (rw [HR.out]; rfl))
set_option maxHeartbeats 1600000 in
set_option maxRecDepth 100000 in
theorem exprW_deg (es : List Expr) (br lim : Int) (n : Nat) (o op num : Int) (nm : ByteArray) (xk : List Int) (w : World) (lo pb : Nat) (ex : Nat → Prop) (D S : Nat → Value) (l : List Form) (top : List Int) (h : WX w lo ex pb D S l top) (hwf : WWf l top) (hbr : WAt br l) (hP : ExprsP w lo (D 1) es) (hn : n < es.length) (hl : (n : Int) < lim) (hx : nth es n = { kind := 8, of_ := o, op := op, name := nm, num := num, kids := xk }) :
    Calls Try.prog 55 #[.pointer (some ⟨pb, 0, none⟩), .int .i64 br, .int .i64 (n : Int), .int .i64 lim] w (WP w lo ex pb D (unitR (sndS (openS br [wDeg, sideS (num == 1)] (l, top))))) := by
  obtain ⟨xb, xo, xc, kv, hD1, hxb, hcells, hints⟩ := hP.at_ hn
  rw [hx] at hcells hints
  obtain ⟨KA, kc, rfl, _, _⟩ := hints.slice
  have c0 := hcells 0 _ rfl; have c1 := hcells 1 _ rfl; have c2 := hcells 2 _ rfl; have c3 := hcells 3 _ rfl; have c4 := hcells 4 _ rfl; have c5 := hcells 5 _ rfl
  simp only [Nat.add_zero] at c0
  have hB := h.blk
  rw [hD1] at hB
  have q1 := blk_cell hB 1
  have hmin := run_min2 Try.prog lim (es.length : Int)
  obtain ⟨M, hM⟩ : ∃ M, minI lim (es.length : Int) = M := ⟨_, rfl⟩
  have HM := hid (show 0 ≤ (n : Int) ∧ (n : Int) < M by rw [← hM]; unfold minI; split <;> omega)
  rw [hM] at hmin
  have hn0 : (0 : Int) ≤ (n : Int) := by omega
  have hn1 : (n : Int) < (es.length : Int) := by omega
  have H := hid h; have HW := hid hwf; have HA := hid hbr; have HI := hid hints
  clear h hwf hbr hP hcells hM hx hB hints
  go_enter Try.func55, Try.ntmps55
  go_wp2_with (first | (go_at_call 31; refine (belowW _ _ _).mono ?_; rintro e w' ⟨he, hw⟩; have hw := hw.symm; subst hw; rw [if_pos HM.out] at he; subst he) | (go_at_call 78; refine (side_any _ _).mono ?_; rintro e w' ⟨rfl, hw⟩; have hw := hw.symm; subst hw))
  obtain ⟨w1, hw1⟩ : ∃ w1, w.alloc (.cells #[.int .u8 8, .int .u8 o, .int .u8 op, .string nm, .int .i64 num, .slice KA xk.length kc] 71) = w1 := ⟨_, rfl⟩
  have H1 := H.out.alloc (.cells #[.int .u8 8, .int .u8 o, .int .u8 op, .string nm, .int .i64 num, .slice KA xk.length kc] 71)
  rw [hw1] at H1 ⊢
  have hz : w.heap.size + 1 = w1.heap.size := by rw [← hw1]; simp
  rw [hz]
  obtain ⟨w2, hw2⟩ : ∃ w2, w1.alloc (.cells #[.string ⟨#[100, 101, 103]⟩, .string (sideS (num == 1))] 9) = w2 := ⟨_, rfl⟩
  have H2 := H1.alloc (.cells #[.string ⟨#[100, 101, 103]⟩, .string (sideS (num == 1))] 9)
  have hx2 := new_blk w1 (.cells #[.string ⟨#[100, 101, 103]⟩, .string (sideS (num == 1))] 9)
  rw [hw2] at H2 hx2 ⊢
  refine (openG [wDeg, sideS (num == 1)] _ br (WG.refl (s := (l, top)) H2 HW.out) HA.out (Strs.two hx2 ⟨.inr rfl, fun e => by have := blk_lt H1.blk; omega⟩)).mono ?_
  intro e w' h9
  have h9 := WP.unalloc H.out (by rw [hw1]; exact WP.unalloc H1 (by rw [hw2]; exact h9))
  rcases hr : openS br [wDeg, sideS (num == 1)] (l, top) with _ | q
  · rw [hr] at h9
    obtain rfl := h9.none
    exact ⟨rfl, WP.no (by first | rfl | (rw [hr]; rfl)) h9.low h9.keep⟩
  · rw [hr] at h9
    obtain ⟨rfl, g2⟩ := h9.some
    have G2 := hid g2; have HR := hid hr
    clear h9 g2 hr
    go_wp2
    go_end0
    exact G2.out.ok (by first | rfl | (rw [HR.out]; rfl))
set_option maxHeartbeats 1600000 in
set_option maxRecDepth 100000 in
theorem exprW_bad (es : List Expr) (br lim : Int) (n : Nat) (k o op num : Int) (nm : ByteArray) (xk : List Int) (w : World) (lo pb : Nat) (ex : Nat → Prop) (D S : Nat → Value) (l : List Form) (top : List Int) (h : WX w lo ex pb D S l top) (hwf : WWf l top) (hbr : WAt br l) (hP : ExprsP w lo (D 1) es) (hn : n < es.length) (hl : (n : Int) < lim) (hx : nth es n = { kind := k, of_ := o, op := op, name := nm, num := num, kids := xk }) (hk : ¬ (k = 1 ∨ k = 2 ∨ k = 3 ∨ k = 4 ∨ k = 5 ∨ k = 6 ∨ k = 7 ∨ k = 8 ∨ k = 9 ∨ k = 10))  :
    Calls Try.prog 55 #[.pointer (some ⟨pb, 0, none⟩), .int .i64 br, .int .i64 (n : Int), .int .i64 lim] w (WP w lo ex pb D (unitR (none))) := by
  obtain ⟨xb, xo, xc, kv, hD1, hxb, hcells, hints⟩ := hP.at_ hn
  rw [hx] at hcells hints
  obtain ⟨KA, kc, rfl, _, _⟩ := hints.slice
  have c0 := hcells 0 _ rfl; have c1 := hcells 1 _ rfl; have c2 := hcells 2 _ rfl; have c3 := hcells 3 _ rfl; have c4 := hcells 4 _ rfl; have c5 := hcells 5 _ rfl
  simp only [Nat.add_zero] at c0
  have hB := h.blk
  rw [hD1] at hB
  have q1 := blk_cell hB 1
  have hmin := run_min2 Try.prog lim (es.length : Int)
  obtain ⟨M, hM⟩ : ∃ M, minI lim (es.length : Int) = M := ⟨_, rfl⟩
  have HM := hid (show 0 ≤ (n : Int) ∧ (n : Int) < M by rw [← hM]; unfold minI; split <;> omega)
  rw [hM] at hmin
  have hn0 : (0 : Int) ≤ (n : Int) := by omega
  have hn1 : (n : Int) < (es.length : Int) := by omega
  have H := hid h; have HW := hid hwf; have HA := hid hbr; have HI := hid hints
  clear h hwf hbr hP hcells hM hx hB hints
  have e1 : (k == 1) = false := by rw [beq_eq_false_iff_ne]; omega
  have e2 : (k == 2) = false := by rw [beq_eq_false_iff_ne]; omega
  have e3 : (k == 3) = false := by rw [beq_eq_false_iff_ne]; omega
  have e4 : (k == 4) = false := by rw [beq_eq_false_iff_ne]; omega
  have e5 : (k == 5) = false := by rw [beq_eq_false_iff_ne]; omega
  have e6 : (k == 6) = false := by rw [beq_eq_false_iff_ne]; omega
  have e7 : (k == 7) = false := by rw [beq_eq_false_iff_ne]; omega
  have e8 : (k == 8) = false := by rw [beq_eq_false_iff_ne]; omega
  have e9 : (k == 9) = false := by rw [beq_eq_false_iff_ne]; omega
  have e10 : (k == 10) = false := by rw [beq_eq_false_iff_ne]; omega
  clear hk
  go_enter Try.func55, Try.ntmps55
  go_wp2_with (go_at_call 31; refine (belowW _ _ _).mono ?_; rintro e w' ⟨he, hw⟩; have hw := hw.symm; subst hw; rw [if_pos HM.out] at he; subst he)
  exact ⟨rfl, WP.no rfl ((Below.refl _ _).alloc H.out.ft.lows.1 _) fun b hb _ => Below.heap_alloc _ _ _ (H.out.ft.lows.2 b hb)⟩
end Go.Proofs.Ytgaginegcjpddaa
/- The program's writer: expressions. -/
namespace Go.Proofs.Ytgaginegcjpddaa
open Go.RowKit
theorem sndS_len {br : Int} {ws : List ByteArray} {s r : WSt} (h : sndS (openS br ws s) = some r) : s.1.length ≤ r.1.length := by
  unfold sndS at h
  cases hr : openS br ws s with
  | none => rw [hr] at h; cases h
  | some q =>
    rw [hr] at h
    have := (openS_len hr).2
    simp only [Option.map_some, Option.some.injEq] at h
    subst h; omega
theorem literalS_len {br : Int} {x : Expr} {s r : WSt} (h : literalS br x s = some r) : s.1.length ≤ r.1.length := by
  unfold literalS at h
  split at h
  · cases hr : formS br (numF x.num) s with
    | none => rw [hr] at h; cases h
    | some q =>
      rw [hr] at h
      have := (formS_len hr).2
      simp only [Option.map_some, Option.some.injEq] at h
      subst h; omega
  · split at h <;> exact wordS_len h
theorem kidsWS_len {g : Int → WSt → Option WSt} (hg : ∀ k s r, g k s = some r → s.1.length ≤ r.1.length) : ∀ {ks : List Int} {s r : WSt}, kidsWS g ks s = some r → s.1.length ≤ r.1.length
  | [], s, r, h => by simp only [kidsWS, Option.some.injEq] at h; subst h; exact Nat.le_refl _
  | k :: ks, s, r, h => by
    simp only [kidsWS] at h
    split at h
    · cases h
    · rename_i s1 h1
      exact Nat.le_trans (hg _ _ _ h1) (kidsWS_len hg h)
theorem exprK_len {x : Expr} {br : Int} {g : Int → Int → WSt → Option WSt} (hg : ∀ b k s r, g b k s = some r → s.1.length ≤ r.1.length) {s r : WSt} (h : exprKW x br g s = some r) : s.1.length ≤ r.1.length := by
  unfold exprKW at h
  split at h
  · exact literalS_len h
  split at h
  · exact wordS_len h
  repeat (split at h; · exact sndS_len h)
  split at h
  · split at h
    · cases h
    · rename_i b s1 h1
      have := (openS_len h1).2
      have h2 := kidsWS_len (hg b) h
      simp only at this
      omega
  · cases h
theorem exprWS_len (es : List Expr) : ∀ (f : Nat) (br e lim : Int) (s r : WSt), exprWS es f br e lim s = some r → s.1.length ≤ r.1.length
  | 0, br, e, lim, s, r, h => by cases h
  | f + 1, br, e, lim, s, r, h => by
    unfold exprWS at h
    split at h
    · exact exprK_len (fun b k s r h => exprWS_len es f b k e s r h) h
    · cases h
/-- the writer of one expression, at a fuel -/
def ExprWC (es : List Expr) (f : Nat) : Prop := ∀ (br lim e : Int) (w : World) (lo pb : Nat) (ex : Nat → Prop) (D S : Nat → Value) (l : List Form) (top : List Int), minI lim es.length ≤ f → WX w lo ex pb D S l top → WWf l top → WAt br l → ExprsP w lo (D 1) es →
  Calls Try.prog 55 #[.pointer (some ⟨pb, 0, none⟩), .int .i64 br, .int .i64 e, .int .i64 lim] w (WP w lo ex pb D (unitR (exprWS es f br e lim (l, top))))
set_option maxHeartbeats 1600000 in
set_option maxRecDepth 100000 in
theorem exprW_out (es : List Expr) (br lim e : Int) (w : World) (lo pb : Nat) (ex : Nat → Prop) (D S : Nat → Value) (l : List Form) (top : List Int) (h : WX w lo ex pb D S l top) (hP : ExprsP w lo (D 1) es) (he : ¬ (0 ≤ e ∧ e < minI lim es.length)) (r : Option (Value × WSt)) (hr : r = none) :
    Calls Try.prog 55 #[.pointer (some ⟨pb, 0, none⟩), .int .i64 br, .int .i64 e, .int .i64 lim] w (WP w lo ex pb D r) := by
  obtain ⟨A, c, hD1, _, _⟩ := hP.slice
  have hB := h.blk
  rw [hD1] at hB
  have q1 := blk_cell hB 1
  have hmin := run_min2 Try.prog lim (es.length : Int)
  obtain ⟨M, hM⟩ : ∃ M, minI lim (es.length : Int) = M := ⟨_, rfl⟩
  rw [hM] at hmin he
  have HE := hid he; have HR := hid hr
  clear h hP hM hB he hr
  go_enter Try.func55, Try.ntmps55
  go_wp2_with (go_at_call 31; refine (belowW _ _ _).mono ?_; rintro e w' ⟨he, hw⟩; have hw := hw.symm; subst hw; rw [if_neg HE.out] at he; subst he)
  exact ⟨rfl, WP.no HR.out (Below.refl _ _) fun _ _ _ => rfl⟩
set_option maxHeartbeats 3200000 in
set_option maxRecDepth 100000 in
theorem exprW_call (es : List Expr) (f : Nat) (ih : ExprWC es f) (br lim : Int) (n : Nat) (o op num : Int) (nm : ByteArray) (xk : List Int) (w : World) (lo pb : Nat) (ex : Nat → Prop) (D S : Nat → Value) (l : List Form) (top : List Int) (h : WX w lo ex pb D S l top) (hwf : WWf l top) (hbr : WAt br l) (hP : ExprsP w lo (D 1) es) (hn : n < es.length) (hl : (n : Int) < lim) (hx : nth es n = { kind := 10, of_ := o, op := op, name := nm, num := num, kids := xk }) (hop : 0 ≤ op) (hnf : n ≤ f) :
    Calls Try.prog 55 #[.pointer (some ⟨pb, 0, none⟩), .int .i64 br, .int .i64 (n : Int), .int .i64 lim] w (WP w lo ex pb D (unitR (match openS br [opWordS op] (l, top) with
        | none => none
        | some (b, s1) => kidsWS (fun k s2 => exprWS es f b k (n : Int) s2) xk s1))) := by
  obtain ⟨xb, xo, xc, kv, hD1, hxb, hcells, hints⟩ := hP.at_ hn
  rw [hx] at hcells hints
  obtain ⟨KA, kc, rfl, _, _⟩ := hints.slice
  have c0 := hcells 0 _ rfl; have c1 := hcells 1 _ rfl; have c2 := hcells 2 _ rfl; have c3 := hcells 3 _ rfl; have c4 := hcells 4 _ rfl; have c5 := hcells 5 _ rfl
  simp only [Nat.add_zero] at c0
  have hB := h.blk
  rw [hD1] at hB
  have q1 := blk_cell hB 1
  have hmin := run_min2 Try.prog lim (es.length : Int)
  obtain ⟨M, hM⟩ : ∃ M, minI lim (es.length : Int) = M := ⟨_, rfl⟩
  have HM := hid (show 0 ≤ (n : Int) ∧ (n : Int) < M by rw [← hM]; unfold minI; split <;> omega)
  rw [hM] at hmin
  have hn0 : (0 : Int) ≤ (n : Int) := by omega
  have hn1 : (n : Int) < (es.length : Int) := by omega
  have H := hid h; have HW := hid hwf; have HA := hid hbr; have HI := hid hints; have HP := hid hP; have IH := hid ih
  generalize hgr : (match openS br [opWordS op] (l, top) with | none => none | some (b, s1) => kidsWS (fun k s2 => exprWS es f b k (n : Int) s2) xk s1) = R
  have HR := hid hgr
  obtain ⟨w1, hw1⟩ : ∃ w1, w.alloc (.cells #[.int .u8 10, .int .u8 o, .int .u8 op, .string nm, .int .i64 num, .slice KA xk.length kc] 71) = w1 := ⟨_, rfl⟩
  have HW1 := hid hw1
  clear h hwf hbr hP hcells hM hx hB hints ih hgr hw1
  go_enter Try.func55, Try.ntmps55
  go_wp2_with (go_at_call 31; refine (belowW _ _ _).mono ?_; rintro e w' ⟨he, hw⟩; have hw := hw.symm; subst hw; rw [if_pos HM.out] at he; subst he)
  rw [HW1.out]
  have h1 := H.out.alloc (.cells #[.int .u8 10, .int .u8 o, .int .u8 op, .string nm, .int .i64 num, .slice KA xk.length kc] 71)
  have hx1 := new_blk w (.cells #[.int .u8 10, .int .u8 o, .int .u8 op, .string nm, .int .i64 num, .slice KA xk.length kc] 71)
  rw [HW1.out] at h1 hx1
  refine (opWord_any op w1 hop).mono ?_
  rintro e w2 ⟨rfl, hb2⟩
  have h2 := h1.below hb2
  have hl1 := h1.ft.lows.1
  obtain ⟨ow, how⟩ : ∃ ow, opWordS op = ow := ⟨_, rfl⟩
  have HR0 := HR.out
  rw [how] at HR0 ⊢
  have HR := hid HR0
  have H1 := hid h1; have H2 := hid h2; have HB2 := hid hb2; have HX1 := hid hx1; have HL1 := hid hl1
  clear h1 h2 hb2 hx1 how HR0 c0 c1 c2 c3 c4 c5 q1 hmin
  go_wp2_with fail
  have h3 := H2.out.alloc (.cells #[.string ow] 9)
  have hx3 := new_blk w2 (.cells #[.string ow] 9)
  obtain ⟨w3, hw3⟩ : ∃ w3, w2.alloc (.cells #[.string ow] 9) = w3 := ⟨_, rfl⟩
  rw [hw3] at h3 hx3 ⊢
  refine (openG [ow] _ br (WG.refl (s := (l, top)) h3 HW.out) HA.out (Strs.one hx3 ⟨.inr rfl, fun e => by have := blk_lt H2.out.blk; omega⟩)).mono ?_
  intro e w4 h9
  have h9 := (WP.unalloc H2.out (by rw [hw3]; exact h9)).then (HB2.out.mono HL1.out) (fun b hb _ => HB2.out.block b (H1.out.ft.lows.2 b hb))
  have hun : ∀ r e w', WP w1 lo (fun b => ex b ∨ b = w.heap.size) pb D r e w' → WP w lo ex pb D r e w' := fun r e w' h => WP.unalloc H.out (by rw [HW1.out]; exact h)
  have HUN := hid hun
  clear hun h3 hx3 hw3
  rcases hr : openS br [ow] (l, top) with _ | ⟨b, s1⟩
  · rw [hr] at h9
    obtain rfl := h9.none
    have h9 := HUN.out _ _ _ h9
    exact ⟨rfl, WP.no (by rw [← HR.out, hr]; rfl) h9.low h9.keep⟩
  · rw [hr] at h9
    obtain ⟨rfl, g4⟩ := h9.some
    have hol := openS_len hr
    simp only at hol
    obtain ⟨rfl, hol⟩ := hol
    have HR2 := hid (show kidsWS (fun k s2 => exprWS es f (l.length : Int) k (n : Int) s2) xk s1 = R by rw [← HR.out, hr])
    have b5 := (g4.keep w.heap.size (.inr rfl) (fun e => by have := blk_lt H.out.blk; omega)).trans HX1.out
    have z5 := blk_cell b5 5
    have G4 := hid g4
    clear h9 g4 hr b5
    go_wp2_with fail
    go_loopw [11, 111] (fun s11 s111 wr => ∃ (k : Nat) (s2 : WSt), s111 = .int .i64 (k : Int) ∧ k ≤ xk.length ∧ Hid (WG w1 wr lo (fun b => ex b ∨ b = w.heap.size) pb D s2) ∧ l.length < s2.1.length ∧ Hid (kidsWS (fun k s2 => exprWS es f (l.length : Int) k (n : Int) s2) (xk.drop k) s2 = R)) (fun s11 s111 wr => xk.length - cnt s111)
    case atStart => exact ⟨0, s1, rfl, Nat.zero_le _, G4, by omega, by simpa using HR2⟩
    case round =>
      obtain ⟨k, s2, rfl, hk, G, hlt1, HR3⟩ := hrel
      by_cases hlt : k < xk.length
      · have hB1 : Below lo w wr := by have := (Below.refl w.heap.size w).alloc (Nat.le_refl _) (.cells #[.int .u8 10, .int .u8 o, .int .u8 op, .string nm, .int .i64 num, .slice KA xk.length kc] 71); rw [HW1.out] at this; exact (this.mono H.out.ft.lows.1).trans G.out.low
        have hIr := HI.out.imp (w' := wr) (D' := fun b => b < lo) fun b hD _ => ⟨hD, hB1.block b hD⟩
        obtain ⟨eb, eo, ec, hev, _, _, _, _, hcell⟩ := hIr.at_ k hlt
        simp only [Value.slice.injEq] at hev
        obtain ⟨rfl, _, rfl⟩ := hev
        obtain ⟨kk, hkk⟩ : ∃ kk, nth xk k = kk := ⟨_, rfl⟩
        have hdr : xk.drop k = kk :: xk.drop (k + 1) := by rw [drop_nth hlt, hkk]
        rw [hkk] at hcell
        have hR3 := HR3.out
        rw [hdr] at hR3
        simp only [kidsWS] at hR3
        have HR4 := hid hR3; have HPr := hid (HP.out.below hB1)
        obtain ⟨S2, hX2⟩ := G.out.out
        have HX2 := hid hX2
        clear hdr HR3 hR3 hkk hB1 hIr hX2
        go_wp2_with fail
        refine (IH.out (l.length : Int) (n : Int) kk wr lo pb _ D S2 s2.1 s2.2 (by unfold minI; split <;> omega) HX2.out G.out.wf (.inr ⟨l.length, rfl, hlt1⟩) HPr.out).mono ?_
        intro e w5 h9
        have h9 := h9.then G.out.low G.out.keep
        rcases hr : exprWS es f (l.length : Int) kk (n : Int) (s2.1, s2.2) with _ | s3
        · rw [hr] at h9
          obtain rfl := h9.none
          have h9 := HUN.out _ _ _ h9
          exact ⟨rfl, WP.no (by rw [← HR4.out, hr]; rfl) h9.low h9.keep⟩
        · rw [hr] at h9
          obtain ⟨rfl, g5⟩ := h9.some
          have G5 := hid g5; have HR5 := hid (show kidsWS (fun k s2 => exprWS es f (l.length : Int) k (n : Int) s2) (xk.drop (k + 1)) s3 = R by rw [← HR4.out, hr])
          have hl3 : l.length < s3.1.length := by have := exprWS_len es f _ _ _ _ _ hr; simp only at this; omega
          clear h9 g5 hr HR4
          go_wp2_with fail
          go_roundw
          case rel => exact ⟨k + 1, s3, by simp, by omega, G5, hl3, HR5⟩
          case measure => simp only [cnt]; omega
      · have hk' : k = xk.length := by omega
        subst hk'
        have hR3 := HR3.out
        rw [List.drop_length] at hR3
        simp only [kidsWS] at hR3
        have HR4 := hid hR3
        clear HR3 hR3
        go_wp2
        go_end0
        exact HUN.out _ _ _ (G.out.ok (by rw [← HR4.out]; rfl))
theorem exprW_any (es : List Expr) (hops : ∀ x ∈ es, 0 ≤ x.op) : ∀ f, ExprWC es f
  | 0 => fun br lim e w lo pb ex D S l top hf h hwf hbr hP => exprW_out es br lim e w lo pb ex D S l top h hP (by omega) _ rfl
  | f + 1 => fun br lim e w lo pb ex D S l top hf h hwf hbr hP => by
    by_cases hr : 0 ≤ e ∧ e < minI lim es.length
    case neg => exact exprW_out es br lim e w lo pb ex D S l top h hP hr _ (by unfold exprWS; rw [if_neg hr]; rfl)
    obtain ⟨n, rfl⟩ : ∃ n : Nat, e = (n : Int) := ⟨e.toNat, by omega⟩
    have hm : minI lim es.length ≤ lim ∧ minI lim es.length ≤ es.length := by unfold minI; split <;> omega
    have hn : n < es.length := by omega
    have hl : (n : Int) < lim := by omega
    have hx : ∃ x, nth es n = x := ⟨_, rfl⟩
    obtain ⟨⟨k, o, op, nm, num, xk⟩, hx⟩ := hx
    have hop : 0 ≤ op := by have := hops _ (nth_mem hn); rw [hx] at this; exact this
    have hE : ∀ s, exprWS es (f + 1) br (n : Int) lim s = exprKW { kind := k, of_ := o, op := op, name := nm, num := num, kids := xk } br (fun b k s2 => exprWS es f b k (n : Int) s2) s := fun s => by
      rw [exprWS, if_pos hr, Int.toNat_natCast, hx]
    rw [hE]
    unfold exprKW
    simp only
    by_cases k1 : k = 1
    · subst k1; exact exprW_lit es br lim n o op num nm xk w lo pb ex D S l top h hwf hbr hP hn hl hx
    rw [if_neg k1]
    by_cases k2 : k = 2
    · subst k2; exact exprW_var es br lim n o op num nm xk w lo pb ex D S l top h hwf hbr hP hn hl hx
    rw [if_neg k2]
    by_cases k3 : k = 3
    · subst k3; exact exprW_own es br lim n o op num nm xk w lo pb ex D S l top h hwf hbr hP hn hl hx
    rw [if_neg k3]
    by_cases k4 : k = 4
    · subst k4; exact exprW_far es br lim n o op num nm xk w lo pb ex D S l top h hwf hbr hP hn hl hx
    rw [if_neg k4]
    by_cases k5 : k = 5
    · subst k5; exact exprW_via es br lim n o op num nm xk w lo pb ex D S l top h hwf hbr hP hn hl hx
    rw [if_neg k5]
    by_cases k6 : k = 6
    · subst k6; exact exprW_id es br lim n o op num nm xk w lo pb ex D S l top h hwf hbr hP hn hl hx
    rw [if_neg k6]
    by_cases k7 : k = 7
    · subst k7; exact exprW_farid es br lim n o op num nm xk w lo pb ex D S l top h hwf hbr hP hn hl hx
    rw [if_neg k7]
    by_cases k9 : k = 9
    · subst k9; exact exprW_count es br lim n o op num nm xk w lo pb ex D S l top h hwf hbr hP hn hl hx
    rw [if_neg k9]
    by_cases k8 : k = 8
    · subst k8; exact exprW_deg es br lim n o op num nm xk w lo pb ex D S l top h hwf hbr hP hn hl hx
    rw [if_neg k8]
    by_cases k10 : k = 10
    · subst k10
      rw [if_pos rfl]
      exact exprW_call es f (exprW_any es hops f) br lim n o op num nm xk w lo pb ex D S l top h hwf hbr hP hn hl hx hop (by omega)
    rw [if_neg k10]
    exact exprW_bad es br lim n k o op num nm xk w lo pb ex D S l top h hwf hbr hP hn hl hx (by omega)
/-- as the writer goes on -/
theorem exprG (es : List Expr) (hops : ∀ x ∈ es, 0 ≤ x.op) (br lim e : Int) {w w1 : World} {lo : Nat} {ex : Nat → Prop} {pb : Nat} {D : Nat → Value} {s : WSt} (g : WG w w1 lo ex pb D s) (hbr : WAt br s.1) (hP : ExprsP w1 lo (D 1) es) :
    Calls Try.prog 55 #[.pointer (some ⟨pb, 0, none⟩), .int .i64 br, .int .i64 e, .int .i64 lim] w1 (WP w lo ex pb D (unitR (exprWS es es.length br e lim s))) := by
  obtain ⟨S, hX⟩ := g.out
  exact (exprW_any es hops es.length br lim e w1 lo pb ex D S s.1 s.2 (by unfold minI; split <;> omega) hX g.wf hbr hP).mono fun e w' h => h.then g.low g.keep
end Go.Proofs.Ytgaginegcjpddaa
/- The program's writer: an expression, and a condition if there is one; what regions that draw their order want. -/
namespace Go.Proofs.Ytgaginegcjpddaa
open Go.RowKit
def exprW1 (es : List Expr) (br e : Int) (s : WSt) : Option WSt := exprWS es es.length br e es.length s
def partsWS (es : List Expr) (br e cond : Int) (s : WSt) : Option WSt :=
  match exprW1 es br e s with
  | none => none
  | some s1 => if cond = -1 then some s1 else exprW1 es br cond s1
/-- what is read stays as the writer goes on -/
theorem ExprsP.step {w w1 w2 : World} {lo : Nat} {ex : Nat → Prop} {pb : Nat} {D : Nat → Value} {v : Value} {es : List Expr} {s s2 : WSt} (h : ExprsP w1 lo v es) (g1 : WG w w1 lo ex pb D s) (g2 : WG w w2 lo ex pb D s2) : ExprsP w2 lo v es :=
  Row.imp h (fun a cs _ hr => hr.imp fun b hD hlt => ⟨hD, (g2.low.block b hD).trans (g1.low.block b hD).symm⟩) (fun b hD _ => ⟨hD, (g2.low.block b hD).trans (g1.low.block b hD).symm⟩) (by omega) (fun _ _ h => h.len)
set_option maxHeartbeats 1600000 in
set_option maxRecDepth 100000 in
theorem partsG (es : List Expr) (hops : ∀ x ∈ es, 0 ≤ x.op) (br e cond : Int) {w w1 : World} {lo : Nat} {ex : Nat → Prop} {pb : Nat} {D : Nat → Value} {s : WSt} (g : WG w w1 lo ex pb D s) (hbr : WAt br s.1) (hP : ExprsP w1 lo (D 1) es) :
    Calls Try.prog 56 #[.pointer (some ⟨pb, 0, none⟩), .int .i64 br, .int .i64 e, .int .i64 cond] w1 (WP w lo ex pb D (unitR (partsWS es br e cond s))) := by
  obtain ⟨A, c, hD1, _, _⟩ := hP.slice
  obtain ⟨S, hX⟩ := g.out
  have hB := hX.blk
  rw [hD1] at hB
  have q1 := blk_cell hB 1
  have G := hid g; have HA := hid hbr; have HP := hid hP; have HO := hid hops
  generalize hgr : partsWS es br e cond s = R
  have HR := hid hgr
  clear g hbr hP hops hB hX hgr
  go_enter Try.func56, Try.ntmps56
  go_wp2_with fail
  refine (exprG es HO.out br es.length e G.out HA.out HP.out).mono ?_
  intro e1 w2 h9
  rcases hr : exprWS es es.length br e es.length s with _ | s1
  · rw [hr] at h9
    obtain rfl := h9.none
    exact ⟨rfl, WP.no (by rw [← HR.out]; unfold partsWS exprW1; rw [hr]; rfl) h9.low h9.keep⟩
  · rw [hr] at h9
    obtain ⟨rfl, g2⟩ := h9.some
    have hl1 := exprWS_len es _ _ _ _ _ _ hr
    have hR := HR.out
    unfold partsWS exprW1 at hR
    rw [hr] at hR
    simp only at hR
    obtain ⟨S2, hX2⟩ := g2.out
    have hB2 := hX2.blk
    rw [hD1] at hB2
    have q2 := blk_cell hB2 1
    have hP2 : ExprsP w2 lo (D 1) es := HP.out.step G.out g2
    have G2 := hid g2; have HP2 := hid hP2; have HR2 := hid hR
    clear h9 g2 hr hR hX2 hB2 hP2 q1
    by_cases hc : cond = -1
    · subst hc
      have hR := HR2.out
      rw [if_pos rfl] at hR
      have HR3 := hid hR
      clear hR
      go_wp2
      go_end0
      exact G2.out.ok (by rw [← HR3.out]; rfl)
    · have hc2 : (cond == -1) = false := by rw [beq_eq_false_iff_ne]; exact hc
      have hR := HR2.out
      rw [if_neg hc] at hR
      have HR3 := hid hR
      clear hR hc
      go_wp2_with fail
      refine (exprG es HO.out br es.length cond G2.out (HA.out.more hl1) HP2.out).mono ?_
      intro e1 w2 h9
      rcases hr : exprWS es es.length br cond es.length s1 with _ | s2
      · rw [hr] at h9
        obtain rfl := h9.none
        exact ⟨rfl, WP.no (by rw [← HR3.out, hr]; rfl) h9.low h9.keep⟩
      · rw [hr] at h9
        obtain ⟨rfl, g3⟩ := h9.some
        have G3 := hid g3; have HR4 := hid hr
        clear h9 g3 hr
        go_wp2
        go_end0
        exact G3.out.ok (by rw [← HR3.out, HR4.out]; rfl)
end Go.Proofs.Ytgaginegcjpddaa
/- The program's writer: a bracket that is opened in a region that draws its order. -/
namespace Go.Proofs.Ytgaginegcjpddaa
open Go.RowKit
theorem WX.more {w : World} {lo : Nat} {ex : Nat → Prop} {pb : Nat} {D S : Nat → Value} {l : List Form} {top : List Int} (h : WX w lo ex pb D S l top) {E : Nat → Prop} (hb : ∀ i b, (S i).ownBlock = some b → ¬ E b) (hlt : ∀ b, E b → b < w.heap.size) : WX w lo (fun c => ex c ∨ E c) pb D S l top :=
  ⟨h.blk, ⟨h.ft.forms, h.ft.rows, h.ft.out, h.ft.apart, fun i c e => ⟨(h.ft.low i c e).1, fun hc => hc.elim (h.ft.low i c e).2 (hb i c e)⟩, h.ft.lows.1, fun c hc => hc.elim (h.ft.lows.2 c) (hlt c)⟩, .inl h.ex, h.lo⟩
/-- the writer in a region: ahead of the bracket that is opened, or behind it -/
structure OI (w1 : World) (lo : Nat) (ex : Nat → Prop) (pb : Nat) (D S : Nat → Value) (s : WSt) (br : Int) (ws : List ByteArray) (op : Bool) (w' : World) : Prop where
  a : op = false → WX w' lo ex pb D S s.1 s.2 ∧ Below w1.heap.size w1 w'
  b : op = true → ∃ s1, openS br ws s = some ((s.1.length : Int), s1) ∧ WG w1 w' lo ex pb D s1
  low : Below lo w1 w'
  keep : ∀ c, ex c → c ≠ pb → w'.heap[c]? = w1.heap[c]?
section
variable {w1 w' w'' : World} {lo : Nat} {ex : Nat → Prop} {pb : Nat} {D S : Nat → Value} {s : WSt} {br : Int} {ws : List ByteArray}
theorem OI.start (h : WX w1 lo ex pb D S s.1 s.2) : OI w1 lo ex pb D S s br ws false w1.drew :=
  ⟨fun _ => ⟨h.below ⟨rfl, rfl, rfl, Nat.le_refl _, fun _ _ => rfl⟩, ⟨rfl, rfl, rfl, Nat.le_refl _, fun _ _ => rfl⟩⟩, fun e => by (cases e), ⟨rfl, rfl, rfl, Nat.le_refl _, fun _ _ => rfl⟩, fun _ _ _ => rfl⟩
theorem OI.below (h : OI w1 lo ex pb D S s br ws false w') (hb : Below w'.heap.size w' w'') (hlo : lo ≤ w1.heap.size) : OI w1 lo ex pb D S s br ws false w'' := by
  obtain ⟨hX, hB⟩ := h.a rfl
  have hB2 := hB.trans (hb.mono hB.size)
  exact ⟨fun _ => ⟨hX.below hb, hB2⟩, fun e => by (cases e), hB2.mono hlo, fun c hc hp => (hb.block c (hX.ft.lows.2 c hc)).trans (h.keep c hc hp)⟩
theorem OI.cell {o : Bool} (h : OI w1 lo ex pb D S s br ws o w') {bx : Nat} {cs : Array Value} {t : TypeId} (hb : w1.heap[bx]? = some (.cells cs t (0, 0))) (hx : ex bx) (hp : bx ≠ pb) (j : Nat) : w'.cell? ⟨bx, j, none⟩ = cs[j]? := blk_cell ((h.keep bx hx hp).trans hb) j
/-- what opening it comes to -/
def OP (w1 : World) (lo : Nat) (ex : Nat → Prop) (pb : Nat) (D S : Nat → Value) (s : WSt) (br : Int) (ws : List ByteArray) (w' : World) (e : Ending) (w'' : World) : Prop :=
  (e = .returned (.int .i64 (s.1.length : Int)) ∧ OI w1 lo ex pb D S s br ws true w'') ∨ (e = .panicked wStop ∧ openS br ws s = none ∧ Below lo w1 w'' ∧ ∀ c, ex c → c ≠ pb → w''.heap[c]? = w1.heap[c]?)
theorem OI.of (h : OI w1 lo ex pb D S s br ws false w') {ex2 : Nat → Prop} (hex : ∀ c, ex c → ex2 c) (hp : ex pb) {e : Ending} (h9 : WP w' lo ex2 pb D (intR (openS br ws s)) e w'') : OP w1 lo ex pb D S s br ws w' e w'' := by
  cases hr : openS br ws s with
  | none =>
    rw [hr] at h9
    exact .inr ⟨h9.none, hr, h.low.trans h9.low, fun c hc hp => (h9.keep c (hex c hc) hp).trans (h.keep c hc hp)⟩
  | some q =>
    obtain ⟨n, s1⟩ := q
    have hol := openS_len hr
    simp only at hol
    obtain ⟨rfl, hol⟩ := hol
    rw [hr] at h9
    obtain ⟨rfl, g⟩ := h9.some
    obtain ⟨S2, hX2⟩ := g.out
    have hk : ∀ c, ex c → c ≠ pb → w''.heap[c]? = w1.heap[c]? := fun c hc hp => (g.keep c (hex c hc) hp).trans (h.keep c hc hp)
    exact .inl ⟨rfl, fun e => by (cases e), fun _ => ⟨s1, hr, ⟨⟨S2, hX2.less (fun c hc => hex c hc) hp⟩, g.wf, h.low.trans g.low, hk⟩⟩, h.low.trans g.low, hk⟩
theorem OI.open_ (h : OI w1 lo ex pb D S s br ws false w') (hwf : WWf s.1 s.2) (hbr : WAt br s.1) (hS : ∀ i b, (S i).ownBlock = some b → b < w1.heap.size) (hpl : pb < w1.heap.size) {v : Value} {B : Nat} (hB1 : w1.heap.size ≤ B) (hBl : B < w'.heap.size) (hv : Strs w' (fun b => b = B) v ws) :
    Calls Try.prog 54 #[.pointer (some ⟨pb, 0, none⟩), .int .i64 br, v] w' (fun e w'' => OP w1 lo ex pb D S s br ws w' e w'' ∧ ∀ c, w1.heap.size ≤ c → c < w'.heap.size → w''.heap[c]? = w'.heap[c]?) := by
  obtain ⟨hX, hB⟩ := h.a rfl
  have hX2 := hX.more (E := fun c => w1.heap.size ≤ c ∧ c < w'.heap.size) (fun i b e hc => by have := hS i b e; omega) (fun b hb => hb.2)
  refine (openW_any ws v br w' lo pb _ D S s.1 s.2 hX2 hwf hbr (Row.imp hv (fun _ _ _ h => h) (fun b hb _ => ⟨⟨.inr ⟨by omega, by omega⟩, by omega⟩, rfl⟩) (by omega) (fun _ _ h => h.len))).mono fun e w'' h9 => ?_
  exact ⟨h.of (fun c hc => .inl hc) hX.ex h9, fun c h1 h2 => h9.keep c (.inr ⟨h1, h2⟩) (by omega)⟩
theorem OI.open0 (h : OI w1 lo ex pb D S s br [] false w') (hwf : WWf s.1 s.2) (hbr : WAt br s.1) :
    Calls Try.prog 54 #[.pointer (some ⟨pb, 0, none⟩), .int .i64 br, .slice none 0 0] w' (OP w1 lo ex pb D S s br [] w') := by
  obtain ⟨hX, hB⟩ := h.a rfl
  refine (openW_any [] _ br w' lo pb ex D S s.1 s.2 hX hwf hbr (Row.nil _ _ _ _)).mono fun e w'' h9 => ?_
  exact h.of (fun c hc => hc) hX.ex h9
end
end Go.Proofs.Ytgaginegcjpddaa
/- The program's writer: acts. (printed by gen_wact.py) -/
namespace Go.Proofs.Ytgaginegcjpddaa
open Go.RowKit
def actOpen (br : Int) (a : PAct) (s : WSt) : Option (Int × WSt) :=
  if a.kind = 1 then openS br [wPut, a.name] s
  else if a.kind = 2 then openS br [wPush, a.name, opWordS a.op, sideS a.inn] s
  else if a.kind = 3 then openS br [wPull, a.name, opWordS a.op, sideS a.inn] s
  else none
def actWS (es : List Expr) (br : Int) (a : PAct) (s : WSt) : Option WSt :=
  match actOpen br a s with
  | none => none
  | some (b, s1) => partsWS es b a.e a.cond s1
set_option maxHeartbeats 3200000 in
set_option maxRecDepth 100000 in
theorem actW_put (es : List Expr) (hops : ∀ x ∈ es, 0 ≤ x.op) (br : Int) (nm : ByteArray) (op : Int) (inn : Bool) (e cond : Int) (w : World) (lo pb : Nat) (ex : Nat → Prop) (D S : Nat → Value) (l : List Form) (top : List Int) (h : WX w lo ex pb D S l top) (hwf : WWf l top) (hbr : WAt br l) (hP : ExprsP w lo (D 1) es) (hop : 0 ≤ op) :
    Calls Try.prog 57 #[.pointer (some ⟨pb, 0, none⟩), .int .i64 br, .agg #[.int .u8 1, .string nm, .int .u8 op, .bool inn, .int .i64 e, .int .i64 cond]] w (WP w lo ex pb D (unitR (actWS es br { kind := 1, name := nm, op := op, inn := inn, e := e, cond := cond } (l, top)))) := by
  obtain ⟨w1, hw1⟩ : ∃ w1, w.alloc (.cells #[.int .u8 1, .string nm, .int .u8 op, .bool inn, .int .i64 e, .int .i64 cond] 137) = w1 := ⟨_, rfl⟩
  have h1 := h.alloc (.cells #[.int .u8 1, .string nm, .int .u8 op, .bool inn, .int .i64 e, .int .i64 cond] 137)
  have hx1 := new_blk w (.cells #[.int .u8 1, .string nm, .int .u8 op, .bool inn, .int .i64 e, .int .i64 cond] 137)
  rw [hw1] at h1 hx1
  have hB1 : Below lo w w1 := by rw [← hw1]; exact (Below.refl _ _).alloc h.ft.lows.1 _
  have hun : ∀ r e w', WP w1 lo (fun b => ex b ∨ b = w.heap.size) pb D r e w' → WP w lo ex pb D r e w' := fun r e w' h9 => WP.unalloc h (by rw [hw1]; exact h9)
  have hpn : w.heap.size ≠ pb := fun e => by have := blk_lt h.blk; omega
  have hpl := blk_lt h1.blk
  have hS1 := h1.ft.lt
  have H1 := hid h1; have HW := hid hwf; have HA := hid hbr; have HP := hid (hP.below hB1); have HX1 := hid hx1; have HUN := hid hun; have HO := hid hops; have HW1 := hid hw1; have HS1 := hid hS1
  generalize hgr : actWS es br { kind := 1, name := nm, op := op, inn := inn, e := e, cond := cond } (l, top) = R
  have HR := hid hgr
  clear h hwf hbr hP hx1 hun hops h1 hw1 hgr hB1 hS1
  go_enter Try.func57, Try.ntmps57
  go_wp2_with fail
  rw [HW1.out]
  have hz : w.heap.size + 1 = w1.heap.size := by rw [← HW1.out]; simp
  rw [hz]
  obtain ⟨w2, hw2⟩ : ∃ w2, w1.alloc (.cells #[.string ⟨#[112, 117, 116]⟩, .string nm] 9) = w2 := ⟨_, rfl⟩
  have H2 := H1.out.alloc (.cells #[.string ⟨#[112, 117, 116]⟩, .string nm] 9)
  have hx2 := new_blk w1 (.cells #[.string ⟨#[112, 117, 116]⟩, .string nm] 9)
  rw [hw2] at H2 hx2 ⊢
  refine (openG [wPut, nm] _ br (WG.refl (s := (l, top)) H2 HW.out) HA.out (Strs.two hx2 ⟨.inr rfl, fun e => by omega⟩)).mono ?_
  intro e4 w4 h9
  have h9 := WP.unalloc H1.out (by rw [hw2]; exact h9)
  have HR1 := HR.out
  unfold actWS actOpen at HR1
  simp only [if_true] at HR1
  rcases hr : openS br [wPut, nm] (l, top) with _ | ⟨b4, s1⟩
  · rw [hr] at h9 HR1
    obtain rfl := h9.none
    have h9 := HUN.out _ _ _ h9
    exact ⟨rfl, WP.no (by rw [← HR1]; rfl) h9.low h9.keep⟩
  rw [hr] at h9 HR1
  obtain ⟨rfl, g4⟩ := h9.some
  have hol := openS_len hr
  simp only at hol HR1
  obtain ⟨rfl, hol⟩ := hol
  have G4 := hid g4; have HR2 := hid HR1; have HLT := hid hol
  clear h9 g4 hr HR1 hol hx2 H2 hw2
  have hP4 : ExprsP w4 lo (D 1) es := HP.out.below G4.out.low
  have y4 := blk_cell ((G4.out.keep w.heap.size (.inr rfl) hpn).trans HX1.out) 4
  have y5 := blk_cell ((G4.out.keep w.heap.size (.inr rfl) hpn).trans HX1.out) 5
  have HP4 := hid hP4
  clear hP4
  go_wp2_with fail
  refine (partsG es HO.out (l.length : Int) e cond G4.out (.inr ⟨l.length, rfl, HLT.out⟩) HP4.out).mono ?_
  intro e5 w5 h9
  have h9 := HUN.out _ _ _ h9
  rcases hr : partsWS es (l.length : Int) e cond s1 with _ | s2
  · rw [hr] at h9
    obtain rfl := h9.none
    exact ⟨rfl, WP.no (by rw [← HR2.out, hr]; rfl) h9.low h9.keep⟩
  · rw [hr] at h9
    obtain ⟨rfl, g5⟩ := h9.some
    have G5 := hid g5; have HR5 := hid hr
    clear h9 g5 hr
    go_wp2
    go_end0
    exact G5.out.ok (by rw [← HR2.out, HR5.out]; rfl)
set_option maxHeartbeats 3200000 in
set_option maxRecDepth 100000 in
theorem actW_push (es : List Expr) (hops : ∀ x ∈ es, 0 ≤ x.op) (br : Int) (nm : ByteArray) (op : Int) (inn : Bool) (e cond : Int) (w : World) (lo pb : Nat) (ex : Nat → Prop) (D S : Nat → Value) (l : List Form) (top : List Int) (h : WX w lo ex pb D S l top) (hwf : WWf l top) (hbr : WAt br l) (hP : ExprsP w lo (D 1) es) (hop : 0 ≤ op) :
    Calls Try.prog 57 #[.pointer (some ⟨pb, 0, none⟩), .int .i64 br, .agg #[.int .u8 2, .string nm, .int .u8 op, .bool inn, .int .i64 e, .int .i64 cond]] w (WP w lo ex pb D (unitR (actWS es br { kind := 2, name := nm, op := op, inn := inn, e := e, cond := cond } (l, top)))) := by
  obtain ⟨w1, hw1⟩ : ∃ w1, w.alloc (.cells #[.int .u8 2, .string nm, .int .u8 op, .bool inn, .int .i64 e, .int .i64 cond] 137) = w1 := ⟨_, rfl⟩
  have h1 := h.alloc (.cells #[.int .u8 2, .string nm, .int .u8 op, .bool inn, .int .i64 e, .int .i64 cond] 137)
  have hx1 := new_blk w (.cells #[.int .u8 2, .string nm, .int .u8 op, .bool inn, .int .i64 e, .int .i64 cond] 137)
  rw [hw1] at h1 hx1
  have hB1 : Below lo w w1 := by rw [← hw1]; exact (Below.refl _ _).alloc h.ft.lows.1 _
  have hun : ∀ r e w', WP w1 lo (fun b => ex b ∨ b = w.heap.size) pb D r e w' → WP w lo ex pb D r e w' := fun r e w' h9 => WP.unalloc h (by rw [hw1]; exact h9)
  have hpn : w.heap.size ≠ pb := fun e => by have := blk_lt h.blk; omega
  have hpl := blk_lt h1.blk
  have hS1 := h1.ft.lt
  have H1 := hid h1; have HW := hid hwf; have HA := hid hbr; have HP := hid (hP.below hB1); have HX1 := hid hx1; have HUN := hid hun; have HO := hid hops; have HW1 := hid hw1; have HS1 := hid hS1
  generalize hgr : actWS es br { kind := 2, name := nm, op := op, inn := inn, e := e, cond := cond } (l, top) = R
  have HR := hid hgr
  clear h hwf hbr hP hx1 hun hops h1 hw1 hgr hB1 hS1
  go_enter Try.func57, Try.ntmps57
  go_upto_region 7 with fail
  rw [HW1.out]
  obtain ⟨ow, how⟩ : ∃ ow, opWordS op = ow := ⟨_, rfl⟩
  have HR1 := HR.out
  unfold actWS actOpen at HR1
  simp only [if_true, if_false, Int.reduceEq, how] at HR1
  have HR1 := hid HR1
  have hcell : ∀ o w', OI w1 lo (fun b => ex b ∨ b = w.heap.size) pb D S (l, top) br [wPush, nm, ow, sideS inn] o w' → ∀ j, w'.cell? ⟨w.heap.size, j, none⟩ = (#[.int .u8 2, .string nm, .int .u8 op, .bool inn, .int .i64 e, .int .i64 cond] : Array Value)[j]? := fun o w' hI j => hI.cell HX1.out (.inr rfl) hpn j
  refine wp_region_rg2 12 (fun dn w' => OI w1 lo (fun b => ex b ∨ b = w.heap.size) pb D S (l, top) br [wPush, nm, ow, sideS inn] (dn 11) w') (fun j v w' => match j with
    | 0 => v = .pointer (some ⟨pb, 0, none⟩)
    | 1 => v = .int .i64 br
    | 2 => v = .pointer (some ⟨w.heap.size, 1, none⟩)
    | 3 => v = .string nm
    | 4 => v = .pointer (some ⟨w.heap.size, 2, none⟩)
    | 5 => v = .int .u8 op
    | 6 => v = .string ow
    | 7 => v = .pointer (some ⟨w.heap.size, 3, none⟩)
    | 8 => v = .bool inn
    | 9 => v = .string (sideS inn)
    | 10 => ∃ B : Nat, v = .slice (some ⟨B, 0, none⟩) 4 4 ∧ w1.heap.size ≤ B ∧ w'.heap[B]? = some (.cells #[.string ⟨#[112, 117, 115, 104]⟩, .string nm, .string ow, .string (sideS inn)] 9 (0, 0))
    | 11 => v = .int .i64 (l.length : Int)
    | _ => True) (by kernel_rfl) (by kernel_rfl) (by rfl) (OI.start (s := (l, top)) H1.out) ?rgO ?rgE
  case rgO =>
    refine ⟨?_, ?_, ?_, ?_, ?_, ?_, ?_, ?_, ?_, ?_, ?_, ?_, trivial⟩
    · refine RgOk2.val rfl (fun dn w h => by simpa [dn1] using h) fun a wq dn hI hD hF => ⟨?_, ?_, ?_⟩
      rotate_left 2
      · exact rfl
      · have s0 : a.tmps.getD 0 undef = _ := hF.get 0 rfl; simp [execOp, go_sem, Act.eval, s0]
    · refine RgOk2.val rfl (fun dn w h => by simpa [dn1] using h) fun a wq dn hI hD hF => ⟨?_, ?_, ?_⟩
      rotate_left 2
      · exact rfl
      · have s1 : a.tmps.getD 1 undef = _ := hF.get 1 rfl; simp [execOp, go_sem, Act.eval, s1]
    · refine RgOk2.val rfl (fun dn w h => by simpa [dn1] using h) fun a wq dn hI hD hF => ⟨?_, ?_, ?_⟩
      rotate_left 2
      · exact rfl
      · have s5 : a.tmps.getD 5 undef = _ := hF.get 5 rfl; simp [execOp, go_sem, Act.eval, s5]
    · refine RgOk2.val rfl (fun dn w h => by simpa [dn1] using h) fun a wq dn hI hD hF => ⟨?_, ?_, ?_⟩
      rotate_left 2
      · exact rfl
      · have d2 : a.tmps.getD 23 undef = _ := hD.get 2 rfl rfl rfl; simp [execOp, go_sem, Act.eval, d2, hcell _ _ hI 1]
    · refine RgOk2.val rfl (fun dn w h => by simpa [dn1] using h) fun a wq dn hI hD hF => ⟨?_, ?_, ?_⟩
      rotate_left 2
      · exact rfl
      · have s5 : a.tmps.getD 5 undef = _ := hF.get 5 rfl; simp [execOp, go_sem, Act.eval, s5]
    · refine RgOk2.val rfl (fun dn w h => by simpa [dn1] using h) fun a wq dn hI hD hF => ⟨?_, ?_, ?_⟩
      rotate_left 2
      · exact rfl
      · have d4 : a.tmps.getD 25 undef = _ := hD.get 4 rfl rfl rfl; simp [execOp, go_sem, Act.eval, d4, hcell _ _ hI 2]
    · refine RgOk2.call rfl 15 fun a wq dn h0 hcl hI hD hF => ⟨#[.int .u8 op], ?_, ?_⟩
      rotate_left 1
      have h10 := hcl.no 10 6 rfl rfl h0
      have h11 := hcl.no 11 10 rfl rfl h10
      rw [h11] at hI
      refine (opWord_any op wq hop).mono ?_
      rintro e' w' ⟨rfl, hb⟩
      rw [how]
      exact .inl ⟨_, rfl, by simpa [dn1, h11] using hI.below hb H1.out.ft.lows.1, rfl, fun i u hi hd hp => by (split at hp <;> first | exact hp | (rw [h10] at hd; cases hd))⟩
      have d5 : a.tmps.getD 26 undef = _ := hD.get 5 rfl rfl rfl
      simp only [Array.getD_eq_getD_getElem?] at d5
      simp [execOp, go_sem, Act.eval, d5]
    · refine RgOk2.val rfl (fun dn w h => by simpa [dn1] using h) fun a wq dn hI hD hF => ⟨?_, ?_, ?_⟩
      rotate_left 2
      · exact rfl
      · have s5 : a.tmps.getD 5 undef = _ := hF.get 5 rfl; simp [execOp, go_sem, Act.eval, s5]
    · refine RgOk2.val rfl (fun dn w h => by simpa [dn1] using h) fun a wq dn hI hD hF => ⟨?_, ?_, ?_⟩
      rotate_left 2
      · exact rfl
      · have d7 : a.tmps.getD 28 undef = _ := hD.get 7 rfl rfl rfl; simp [execOp, go_sem, Act.eval, d7, hcell _ _ hI 3]
    · refine RgOk2.call rfl 78 fun a wq dn h0 hcl hI hD hF => ⟨#[.bool inn], ?_, ?_⟩
      rotate_left 1
      refine (side_any inn wq).mono ?_
      rintro e' w' ⟨rfl, hw⟩
      have hw := hw.symm
      subst hw
      exact .inl ⟨_, rfl, by simpa [dn1] using hI, rfl, fun i u hi hd hp => hp⟩
      have d8 : a.tmps.getD 29 undef = _ := hD.get 8 rfl rfl rfl
      simp only [Array.getD_eq_getD_getElem?] at d8
      simp [execOp, go_sem, Act.eval, d8]
    · refine RgOk2.turn rfl fun a wq dn h0 hcl hI hD hF => ?_
      have h11 := hcl.no 11 10 rfl rfl h0
      rw [h11] at hI
      have d3 : a.tmps.getD 24 undef = _ := hD.get 3 rfl rfl rfl
      have d6 : a.tmps.getD 27 undef = _ := hD.get 6 rfl rfl rfl
      have d9 : a.tmps.getD 30 undef = _ := hD.get 9 rfl rfl rfl
      simp only [Array.getD_eq_getD_getElem?] at d3 d6 d9
      have hbq := (Below.refl wq.heap.size wq).alloc (Nat.le_refl _) (.cells #[.string ⟨#[112, 117, 115, 104]⟩, .string nm, .string ow, .string (sideS inn)] 9)
      refine ⟨_, wq.alloc (.cells #[.string ⟨#[112, 117, 115, 104]⟩, .string nm, .string ow, .string (sideS inn)] 9), ?_, by simpa [dn1, h11] using hI.below hbq H1.out.ft.lows.1, ⟨wq.heap.size, rfl, (hI.a rfl).2.size, new_blk _ _⟩, fun i u hi hd hp => by (split at hp <;> first | exact hp | exact absurd rfl hi)⟩
      simp [execOp, go_sem, Act.eval, d3, d6, d9]
    · refine RgOk2.call rfl 54 fun a wq dn h0 hcl hI hD hF => ?_
      rw [h0] at hI
      have d0 : a.tmps.getD 21 undef = _ := hD.get 0 rfl rfl rfl
      have d1 : a.tmps.getD 22 undef = _ := hD.get 1 rfl rfl rfl
      obtain ⟨B, d10, hB1, hB2⟩ := hD.get 10 rfl rfl rfl
      simp only [Array.getD_eq_getD_getElem?] at d0 d1 d10
      refine ⟨#[.pointer (some ⟨pb, 0, none⟩), .int .i64 br, .slice (some ⟨B, 0, none⟩) 4 4], by simp [execOp, go_sem, Act.eval, d0, d1, d10], ?_⟩
      refine (hI.open_ HW.out HA.out HS1.out hpl hB1 (blk_lt hB2) (Strs.four hB2 rfl)).mono ?_
      rintro e' w' ⟨⟨rfl, hO⟩ | ⟨rfl, hn, hl, hk⟩, hBk⟩
      exact .inl ⟨_, rfl, by simpa [dn1] using hO, rfl, fun i u hi hd hp => by (split at hp <;> first | exact hp | exact absurd rfl hi | (obtain ⟨B', u1, u2, u3⟩ := hp; exact ⟨B', u1, u2, (hBk B' u2 (blk_lt u3)).trans u3⟩))⟩
      have h9 := HUN.out none _ _ (WP.no (D := D) (pb := pb) rfl hl hk)
      exact .inr ⟨_, rfl, hF.1, WP.no (by rw [← HR1.out]; rw [show openS br [wPush, nm, ow, sideS inn] (l, top) = none from hn]; rfl) h9.low h9.keep⟩
  case rgE =>
    intro vs w4 hI hP
    obtain ⟨s1, hr, g4⟩ := hI.b rfl
    have e11 : vs 11 = _ := hP 11 _ _ (by omega) rfl rfl
    simp only [rgPut, List.take, List.drop, Nat.zero_add, Nat.reduceAdd, e11]
    have hR2 := HR1.out
    rw [hr] at hR2
    simp only at hR2
    have hol := (openS_len hr).2
    have G4 := hid g4; have HR2 := hid hR2; have HLT := hid hol
    clear hI hP g4 hR2 hr hol e11
    have hP4 : ExprsP w4 lo (D 1) es := HP.out.below G4.out.low
    have y4 := blk_cell ((G4.out.keep w.heap.size (.inr rfl) hpn).trans HX1.out) 4
    have y5 := blk_cell ((G4.out.keep w.heap.size (.inr rfl) hpn).trans HX1.out) 5
    have HP4 := hid hP4
    clear hP4
    go_wp2_with fail
    refine (partsG es HO.out (l.length : Int) e cond G4.out (.inr ⟨l.length, rfl, HLT.out⟩) HP4.out).mono ?_
    intro e5 w5 h9
    have h9 := HUN.out _ _ _ h9
    rcases hr : partsWS es (l.length : Int) e cond s1 with _ | s2
    · rw [hr] at h9
      obtain rfl := h9.none
      exact ⟨rfl, WP.no (by rw [← HR2.out, hr]; rfl) h9.low h9.keep⟩
    · rw [hr] at h9
      obtain ⟨rfl, g5⟩ := h9.some
      have G5 := hid g5; have HR5 := hid hr
      clear h9 g5 hr
      go_wp2
      go_end0
      exact G5.out.ok (by rw [← HR2.out, HR5.out]; rfl)
set_option maxHeartbeats 3200000 in
set_option maxRecDepth 100000 in
theorem actW_pull (es : List Expr) (hops : ∀ x ∈ es, 0 ≤ x.op) (br : Int) (nm : ByteArray) (op : Int) (inn : Bool) (e cond : Int) (w : World) (lo pb : Nat) (ex : Nat → Prop) (D S : Nat → Value) (l : List Form) (top : List Int) (h : WX w lo ex pb D S l top) (hwf : WWf l top) (hbr : WAt br l) (hP : ExprsP w lo (D 1) es) (hop : 0 ≤ op) :
    Calls Try.prog 57 #[.pointer (some ⟨pb, 0, none⟩), .int .i64 br, .agg #[.int .u8 3, .string nm, .int .u8 op, .bool inn, .int .i64 e, .int .i64 cond]] w (WP w lo ex pb D (unitR (actWS es br { kind := 3, name := nm, op := op, inn := inn, e := e, cond := cond } (l, top)))) := by
  obtain ⟨w1, hw1⟩ : ∃ w1, w.alloc (.cells #[.int .u8 3, .string nm, .int .u8 op, .bool inn, .int .i64 e, .int .i64 cond] 137) = w1 := ⟨_, rfl⟩
  have h1 := h.alloc (.cells #[.int .u8 3, .string nm, .int .u8 op, .bool inn, .int .i64 e, .int .i64 cond] 137)
  have hx1 := new_blk w (.cells #[.int .u8 3, .string nm, .int .u8 op, .bool inn, .int .i64 e, .int .i64 cond] 137)
  rw [hw1] at h1 hx1
  have hB1 : Below lo w w1 := by rw [← hw1]; exact (Below.refl _ _).alloc h.ft.lows.1 _
  have hun : ∀ r e w', WP w1 lo (fun b => ex b ∨ b = w.heap.size) pb D r e w' → WP w lo ex pb D r e w' := fun r e w' h9 => WP.unalloc h (by rw [hw1]; exact h9)
  have hpn : w.heap.size ≠ pb := fun e => by have := blk_lt h.blk; omega
  have hpl := blk_lt h1.blk
  have hS1 := h1.ft.lt
  have H1 := hid h1; have HW := hid hwf; have HA := hid hbr; have HP := hid (hP.below hB1); have HX1 := hid hx1; have HUN := hid hun; have HO := hid hops; have HW1 := hid hw1; have HS1 := hid hS1
  generalize hgr : actWS es br { kind := 3, name := nm, op := op, inn := inn, e := e, cond := cond } (l, top) = R
  have HR := hid hgr
  clear h hwf hbr hP hx1 hun hops h1 hw1 hgr hB1 hS1
  go_enter Try.func57, Try.ntmps57
  go_upto_region 9 with fail
  rw [HW1.out]
  obtain ⟨ow, how⟩ : ∃ ow, opWordS op = ow := ⟨_, rfl⟩
  have HR1 := HR.out
  unfold actWS actOpen at HR1
  simp only [if_true, if_false, Int.reduceEq, how] at HR1
  have HR1 := hid HR1
  have hcell : ∀ o w', OI w1 lo (fun b => ex b ∨ b = w.heap.size) pb D S (l, top) br [wPull, nm, ow, sideS inn] o w' → ∀ j, w'.cell? ⟨w.heap.size, j, none⟩ = (#[.int .u8 3, .string nm, .int .u8 op, .bool inn, .int .i64 e, .int .i64 cond] : Array Value)[j]? := fun o w' hI j => hI.cell HX1.out (.inr rfl) hpn j
  refine wp_region_rg2 12 (fun dn w' => OI w1 lo (fun b => ex b ∨ b = w.heap.size) pb D S (l, top) br [wPull, nm, ow, sideS inn] (dn 11) w') (fun j v w' => match j with
    | 0 => v = .pointer (some ⟨pb, 0, none⟩)
    | 1 => v = .int .i64 br
    | 2 => v = .pointer (some ⟨w.heap.size, 1, none⟩)
    | 3 => v = .string nm
    | 4 => v = .pointer (some ⟨w.heap.size, 2, none⟩)
    | 5 => v = .int .u8 op
    | 6 => v = .string ow
    | 7 => v = .pointer (some ⟨w.heap.size, 3, none⟩)
    | 8 => v = .bool inn
    | 9 => v = .string (sideS inn)
    | 10 => ∃ B : Nat, v = .slice (some ⟨B, 0, none⟩) 4 4 ∧ w1.heap.size ≤ B ∧ w'.heap[B]? = some (.cells #[.string ⟨#[112, 117, 108, 108]⟩, .string nm, .string ow, .string (sideS inn)] 9 (0, 0))
    | 11 => v = .int .i64 (l.length : Int)
    | _ => True) (by kernel_rfl) (by kernel_rfl) (by rfl) (OI.start (s := (l, top)) H1.out) ?rgO ?rgE
  case rgO =>
    refine ⟨?_, ?_, ?_, ?_, ?_, ?_, ?_, ?_, ?_, ?_, ?_, ?_, trivial⟩
    · refine RgOk2.val rfl (fun dn w h => by simpa [dn1] using h) fun a wq dn hI hD hF => ⟨?_, ?_, ?_⟩
      rotate_left 2
      · exact rfl
      · have s0 : a.tmps.getD 0 undef = _ := hF.get 0 rfl; simp [execOp, go_sem, Act.eval, s0]
    · refine RgOk2.val rfl (fun dn w h => by simpa [dn1] using h) fun a wq dn hI hD hF => ⟨?_, ?_, ?_⟩
      rotate_left 2
      · exact rfl
      · have s1 : a.tmps.getD 1 undef = _ := hF.get 1 rfl; simp [execOp, go_sem, Act.eval, s1]
    · refine RgOk2.val rfl (fun dn w h => by simpa [dn1] using h) fun a wq dn hI hD hF => ⟨?_, ?_, ?_⟩
      rotate_left 2
      · exact rfl
      · have s5 : a.tmps.getD 5 undef = _ := hF.get 5 rfl; simp [execOp, go_sem, Act.eval, s5]
    · refine RgOk2.val rfl (fun dn w h => by simpa [dn1] using h) fun a wq dn hI hD hF => ⟨?_, ?_, ?_⟩
      rotate_left 2
      · exact rfl
      · have d2 : a.tmps.getD 37 undef = _ := hD.get 2 rfl rfl rfl; simp [execOp, go_sem, Act.eval, d2, hcell _ _ hI 1]
    · refine RgOk2.val rfl (fun dn w h => by simpa [dn1] using h) fun a wq dn hI hD hF => ⟨?_, ?_, ?_⟩
      rotate_left 2
      · exact rfl
      · have s5 : a.tmps.getD 5 undef = _ := hF.get 5 rfl; simp [execOp, go_sem, Act.eval, s5]
    · refine RgOk2.val rfl (fun dn w h => by simpa [dn1] using h) fun a wq dn hI hD hF => ⟨?_, ?_, ?_⟩
      rotate_left 2
      · exact rfl
      · have d4 : a.tmps.getD 39 undef = _ := hD.get 4 rfl rfl rfl; simp [execOp, go_sem, Act.eval, d4, hcell _ _ hI 2]
    · refine RgOk2.call rfl 15 fun a wq dn h0 hcl hI hD hF => ⟨#[.int .u8 op], ?_, ?_⟩
      rotate_left 1
      have h10 := hcl.no 10 6 rfl rfl h0
      have h11 := hcl.no 11 10 rfl rfl h10
      rw [h11] at hI
      refine (opWord_any op wq hop).mono ?_
      rintro e' w' ⟨rfl, hb⟩
      rw [how]
      exact .inl ⟨_, rfl, by simpa [dn1, h11] using hI.below hb H1.out.ft.lows.1, rfl, fun i u hi hd hp => by (split at hp <;> first | exact hp | (rw [h10] at hd; cases hd))⟩
      have d5 : a.tmps.getD 40 undef = _ := hD.get 5 rfl rfl rfl
      simp only [Array.getD_eq_getD_getElem?] at d5
      simp [execOp, go_sem, Act.eval, d5]
    · refine RgOk2.val rfl (fun dn w h => by simpa [dn1] using h) fun a wq dn hI hD hF => ⟨?_, ?_, ?_⟩
      rotate_left 2
      · exact rfl
      · have s5 : a.tmps.getD 5 undef = _ := hF.get 5 rfl; simp [execOp, go_sem, Act.eval, s5]
    · refine RgOk2.val rfl (fun dn w h => by simpa [dn1] using h) fun a wq dn hI hD hF => ⟨?_, ?_, ?_⟩
      rotate_left 2
      · exact rfl
      · have d7 : a.tmps.getD 42 undef = _ := hD.get 7 rfl rfl rfl; simp [execOp, go_sem, Act.eval, d7, hcell _ _ hI 3]
    · refine RgOk2.call rfl 78 fun a wq dn h0 hcl hI hD hF => ⟨#[.bool inn], ?_, ?_⟩
      rotate_left 1
      refine (side_any inn wq).mono ?_
      rintro e' w' ⟨rfl, hw⟩
      have hw := hw.symm
      subst hw
      exact .inl ⟨_, rfl, by simpa [dn1] using hI, rfl, fun i u hi hd hp => hp⟩
      have d8 : a.tmps.getD 43 undef = _ := hD.get 8 rfl rfl rfl
      simp only [Array.getD_eq_getD_getElem?] at d8
      simp [execOp, go_sem, Act.eval, d8]
    · refine RgOk2.turn rfl fun a wq dn h0 hcl hI hD hF => ?_
      have h11 := hcl.no 11 10 rfl rfl h0
      rw [h11] at hI
      have d3 : a.tmps.getD 38 undef = _ := hD.get 3 rfl rfl rfl
      have d6 : a.tmps.getD 41 undef = _ := hD.get 6 rfl rfl rfl
      have d9 : a.tmps.getD 44 undef = _ := hD.get 9 rfl rfl rfl
      simp only [Array.getD_eq_getD_getElem?] at d3 d6 d9
      have hbq := (Below.refl wq.heap.size wq).alloc (Nat.le_refl _) (.cells #[.string ⟨#[112, 117, 108, 108]⟩, .string nm, .string ow, .string (sideS inn)] 9)
      refine ⟨_, wq.alloc (.cells #[.string ⟨#[112, 117, 108, 108]⟩, .string nm, .string ow, .string (sideS inn)] 9), ?_, by simpa [dn1, h11] using hI.below hbq H1.out.ft.lows.1, ⟨wq.heap.size, rfl, (hI.a rfl).2.size, new_blk _ _⟩, fun i u hi hd hp => by (split at hp <;> first | exact hp | exact absurd rfl hi)⟩
      simp [execOp, go_sem, Act.eval, d3, d6, d9]
    · refine RgOk2.call rfl 54 fun a wq dn h0 hcl hI hD hF => ?_
      rw [h0] at hI
      have d0 : a.tmps.getD 35 undef = _ := hD.get 0 rfl rfl rfl
      have d1 : a.tmps.getD 36 undef = _ := hD.get 1 rfl rfl rfl
      obtain ⟨B, d10, hB1, hB2⟩ := hD.get 10 rfl rfl rfl
      simp only [Array.getD_eq_getD_getElem?] at d0 d1 d10
      refine ⟨#[.pointer (some ⟨pb, 0, none⟩), .int .i64 br, .slice (some ⟨B, 0, none⟩) 4 4], by simp [execOp, go_sem, Act.eval, d0, d1, d10], ?_⟩
      refine (hI.open_ HW.out HA.out HS1.out hpl hB1 (blk_lt hB2) (Strs.four hB2 rfl)).mono ?_
      rintro e' w' ⟨⟨rfl, hO⟩ | ⟨rfl, hn, hl, hk⟩, hBk⟩
      exact .inl ⟨_, rfl, by simpa [dn1] using hO, rfl, fun i u hi hd hp => by (split at hp <;> first | exact hp | exact absurd rfl hi | (obtain ⟨B', u1, u2, u3⟩ := hp; exact ⟨B', u1, u2, (hBk B' u2 (blk_lt u3)).trans u3⟩))⟩
      have h9 := HUN.out none _ _ (WP.no (D := D) (pb := pb) rfl hl hk)
      exact .inr ⟨_, rfl, hF.1, WP.no (by rw [← HR1.out]; rw [show openS br [wPull, nm, ow, sideS inn] (l, top) = none from hn]; rfl) h9.low h9.keep⟩
  case rgE =>
    intro vs w4 hI hP
    obtain ⟨s1, hr, g4⟩ := hI.b rfl
    have e11 : vs 11 = _ := hP 11 _ _ (by omega) rfl rfl
    simp only [rgPut, List.take, List.drop, Nat.zero_add, Nat.reduceAdd, e11]
    have hR2 := HR1.out
    rw [hr] at hR2
    simp only at hR2
    have hol := (openS_len hr).2
    have G4 := hid g4; have HR2 := hid hR2; have HLT := hid hol
    clear hI hP g4 hR2 hr hol e11
    have hP4 : ExprsP w4 lo (D 1) es := HP.out.below G4.out.low
    have y4 := blk_cell ((G4.out.keep w.heap.size (.inr rfl) hpn).trans HX1.out) 4
    have y5 := blk_cell ((G4.out.keep w.heap.size (.inr rfl) hpn).trans HX1.out) 5
    have HP4 := hid hP4
    clear hP4
    go_wp2_with fail
    refine (partsG es HO.out (l.length : Int) e cond G4.out (.inr ⟨l.length, rfl, HLT.out⟩) HP4.out).mono ?_
    intro e5 w5 h9
    have h9 := HUN.out _ _ _ h9
    rcases hr : partsWS es (l.length : Int) e cond s1 with _ | s2
    · rw [hr] at h9
      obtain rfl := h9.none
      exact ⟨rfl, WP.no (by rw [← HR2.out, hr]; rfl) h9.low h9.keep⟩
    · rw [hr] at h9
      obtain ⟨rfl, g5⟩ := h9.some
      have G5 := hid g5; have HR5 := hid hr
      clear h9 g5 hr
      go_wp2
      go_end0
      exact G5.out.ok (by rw [← HR2.out, HR5.out]; rfl)
set_option maxHeartbeats 3200000 in
set_option maxRecDepth 100000 in
theorem actW_bad (es : List Expr) (hops : ∀ x ∈ es, 0 ≤ x.op) (br : Int) (k : Int) (nm : ByteArray) (op : Int) (inn : Bool) (e cond : Int) (w : World) (lo pb : Nat) (ex : Nat → Prop) (D S : Nat → Value) (l : List Form) (top : List Int) (h : WX w lo ex pb D S l top) (hwf : WWf l top) (hbr : WAt br l) (hP : ExprsP w lo (D 1) es) (hop : 0 ≤ op) (hk : ¬ (k = 1 ∨ k = 2 ∨ k = 3))  :
    Calls Try.prog 57 #[.pointer (some ⟨pb, 0, none⟩), .int .i64 br, .agg #[.int .u8 k, .string nm, .int .u8 op, .bool inn, .int .i64 e, .int .i64 cond]] w (WP w lo ex pb D (unitR (actWS es br { kind := k, name := nm, op := op, inn := inn, e := e, cond := cond } (l, top)))) := by
  obtain ⟨w1, hw1⟩ : ∃ w1, w.alloc (.cells #[.int .u8 k, .string nm, .int .u8 op, .bool inn, .int .i64 e, .int .i64 cond] 137) = w1 := ⟨_, rfl⟩
  have h1 := h.alloc (.cells #[.int .u8 k, .string nm, .int .u8 op, .bool inn, .int .i64 e, .int .i64 cond] 137)
  have hx1 := new_blk w (.cells #[.int .u8 k, .string nm, .int .u8 op, .bool inn, .int .i64 e, .int .i64 cond] 137)
  rw [hw1] at h1 hx1
  have hB1 : Below lo w w1 := by rw [← hw1]; exact (Below.refl _ _).alloc h.ft.lows.1 _
  have hun : ∀ r e w', WP w1 lo (fun b => ex b ∨ b = w.heap.size) pb D r e w' → WP w lo ex pb D r e w' := fun r e w' h9 => WP.unalloc h (by rw [hw1]; exact h9)
  have hpn : w.heap.size ≠ pb := fun e => by have := blk_lt h.blk; omega
  have hpl := blk_lt h1.blk
  have hS1 := h1.ft.lt
  have H1 := hid h1; have HW := hid hwf; have HA := hid hbr; have HP := hid (hP.below hB1); have HX1 := hid hx1; have HUN := hid hun; have HO := hid hops; have HW1 := hid hw1; have HS1 := hid hS1
  generalize hgr : actWS es br { kind := k, name := nm, op := op, inn := inn, e := e, cond := cond } (l, top) = R
  have HR := hid hgr
  clear h hwf hbr hP hx1 hun hops h1 hw1 hgr hB1 hS1
  have e1 : (k == 1) = false := by rw [beq_eq_false_iff_ne]; omega
  have e2 : (k == 2) = false := by rw [beq_eq_false_iff_ne]; omega
  have e3 : (k == 3) = false := by rw [beq_eq_false_iff_ne]; omega
  have HRN := hid (show R = none by rw [← HR.out]; unfold actWS actOpen; simp only; rw [if_neg (by omega), if_neg (by omega), if_neg (by omega)])
  clear hk
  go_enter Try.func57, Try.ntmps57
  go_wp2_with fail
  have h9 := HUN.out none _ _ (WP.no (D := D) (pb := pb) rfl (Below.refl lo w1) (fun _ _ _ => rfl))
  rw [HW1.out]
  exact ⟨rfl, WP.no (by rw [HRN.out]; rfl) h9.low h9.keep⟩
theorem actG (es : List Expr) (hops : ∀ x ∈ es, 0 ≤ x.op) (br : Int) (a : PAct) {w w1 : World} {lo : Nat} {ex : Nat → Prop} {pb : Nat} {D : Nat → Value} {s : WSt} (g : WG w w1 lo ex pb D s) (hbr : WAt br s.1) (hP : ExprsP w1 lo (D 1) es) (hop : 0 ≤ a.op) :
    Calls Try.prog 57 #[.pointer (some ⟨pb, 0, none⟩), .int .i64 br, .agg a.cells.toArray] w1 (WP w lo ex pb D (unitR (actWS es br a s))) := by
  obtain ⟨S, hX⟩ := g.out
  obtain ⟨k, nm, op, inn, e, cond⟩ := a
  have key : Calls Try.prog 57 #[.pointer (some ⟨pb, 0, none⟩), .int .i64 br, .agg (PAct.cells { kind := k, name := nm, op := op, inn := inn, e := e, cond := cond }).toArray] w1 (WP w1 lo ex pb D (unitR (actWS es br { kind := k, name := nm, op := op, inn := inn, e := e, cond := cond } s))) := by
    by_cases k1 : k = 1
    · subst k1; exact actW_put es hops br nm op inn e cond w1 lo pb ex D S s.1 s.2 hX g.wf hbr hP hop
    by_cases k2 : k = 2
    · subst k2; exact actW_push es hops br nm op inn e cond w1 lo pb ex D S s.1 s.2 hX g.wf hbr hP hop
    by_cases k3 : k = 3
    · subst k3; exact actW_pull es hops br nm op inn e cond w1 lo pb ex D S s.1 s.2 hX g.wf hbr hP hop
    exact actW_bad es hops br k nm op inn e cond w1 lo pb ex D S s.1 s.2 hX g.wf hbr hP hop (by omega)
  exact key.mono fun e w' h => h.then g.low g.keep
end Go.Proofs.Ytgaginegcjpddaa
