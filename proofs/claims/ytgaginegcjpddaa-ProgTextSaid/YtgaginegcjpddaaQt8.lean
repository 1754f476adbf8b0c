/- The program's reader of forms: statements with a body. (printed by gen_stmt.py) -/
import Derived.Test.YtgaginegcjpddaaQt7
set_option linter.unusedVariables false
set_option linter.unusedSimpArgs false
namespace Go.Proofs.Ytgaginegcjpddaa
open Go.RowKit
/-- the reader, and beside it a box of one's own -/
structure BX (w0 w : World) (l : List Form) (lo rb : Nat) (S : Nat → Value) (Z : Nat → Prop) (S1 : Nat → Value) (Z1 : Nat → Prop) (p : Prg) (b : Nat) (t : TypeId) (cs : Array Value) : Prop where
  x : RX w l lo rb S1 Z1 p
  s : RStep w0 rb S Z w S1 Z1
  blk : w.heap[b]? = some (.cells cs t (0, 0))
  low : lo ≤ b
  nr : ¬ RB rb S1 b
  nz : ¬ Z1 b
  nw : w0.heap.size ≤ b
theorem BX.set {w0 w : World} {l : List Form} {lo rb : Nat} {S : Nat → Value} {Z : Nat → Prop} {S1 : Nat → Value} {Z1 : Nat → Prop} {p : Prg} {b : Nat} {t : TypeId} {cs : Array Value} (h : BX w0 w l lo rb S Z S1 Z1 p b t cs) (j : Nat) (v : Value) (cs' : Array Value) (hc : cs.setIfInBounds j v = cs') : BX w0 (w.setCell ⟨b, j, none⟩ v) l lo rb S Z S1 Z1 p b t cs' :=
  ⟨h.x.setOut h.low h.nr h.nz j v, h.s.setOut h.nw j v, by rw [blk_set h.blk, hc], h.low, h.nr, h.nz, h.nw⟩
theorem BX.step {w0 w w' : World} {l : List Form} {lo rb : Nat} {S : Nat → Value} {Z : Nat → Prop} {S1 S2 : Nat → Value} {Z1 Z2 : Nat → Prop} {p p2 : Prg} {b : Nat} {t : TypeId} {cs : Array Value} (h : BX w0 w l lo rb S Z S1 Z1 p b t cs) (hX : RX w' l lo rb S2 Z2 p2) (hS : RStep w rb S1 Z1 w' S2 Z2) : BX w0 w' l lo rb S Z S2 Z2 p2 b t cs :=
  have f := h.x.fresh h.s hS (blk_lt h.blk) h.nr h.nz
  ⟨hX, h.s.trans hS, f.2.2.trans h.blk, h.low, f.1, f.2.1, h.nw⟩
theorem BX.below {w0 w w' : World} {l : List Form} {lo rb : Nat} {S : Nat → Value} {Z : Nat → Prop} {S1 : Nat → Value} {Z1 : Nat → Prop} {p : Prg} {b : Nat} {t : TypeId} {cs : Array Value} (h : BX w0 w l lo rb S Z S1 Z1 p b t cs) (hb : Below w.heap.size w w') : BX w0 w' l lo rb S Z S1 Z1 p b t cs :=
  ⟨h.x.below hb, h.s.trans (RStep.of_below hb), keep_blk hb h.blk, h.low, h.nr, h.nz, h.nw⟩
theorem BX.new {w0 w : World} {l : List Form} {lo rb : Nat} {S : Nat → Value} {Z : Nat → Prop} {S1 : Nat → Value} {Z1 : Nat → Prop} {p : Prg} (hX : RX w l lo rb S1 Z1 p) (hS : RStep w0 rb S Z w S1 Z1) (cs : Array Value) (t : TypeId) : BX w0 (w.alloc (.cells cs t (0, 0))) l lo rb S Z S1 Z1 p w.heap.size t cs :=
  have f := hX.new_ (b := w.heap.size) (Nat.le_refl _)
  ⟨hX.below ((Below.refl _ _).alloc (Nat.le_refl _) _), hS.trans (RStep.of_below ((Below.refl _ _).alloc (Nat.le_refl _) _)), new_blk w _, f.1, f.2.1, f.2.2, hS.grow.size⟩
/-- what lay there before is as it was -/
theorem BX.old {w0 w : World} {l : List Form} {lo rb : Nat} {S : Nat → Value} {Z : Nat → Prop} {S1 : Nat → Value} {Z1 : Nat → Prop} {p p0 : Prg} {b : Nat} {t : TypeId} {cs : Array Value} (h : BX w0 w l lo rb S Z S1 Z1 p b t cs) (h0 : RX w0 l lo rb S Z p0) {c : Nat} (hc : c < lo) : w.heap[c]? = w0.heap[c]? := (RStep.below h0 h.s).block c hc
theorem BX.ints {w0 w : World} {l : List Form} {lo rb : Nat} {S : Nat → Value} {Z : Nat → Prop} {S1 : Nat → Value} {Z1 : Nat → Prop} {p : Prg} {b : Nat} {t : TypeId} {cs : Array Value} (h : BX w0 w l lo rb S Z S1 Z1 p b t cs) {v : Value} {ks : List Int} (hI : Ints w Z1 v ks) (j : Nat) (x : Value) : Ints (w.setCell ⟨b, j, none⟩ x) Z1 v ks :=
  hI.imp fun c hz hlt => ⟨hz, Below.heap_setCell _ _ _ _ (fun e => h.nz (by have e' : c = b := e; rwa [e'] at hz))⟩
set_option maxHeartbeats 4000000 in
set_option maxRecDepth 100000 in
theorem stmt_while (l : List Form) (hwf : WF l) (f : Nat) (w : World) (lo rb : Nat) (S : Nat → Value) (Z : Nat → Prop) (p : Prg) (h : RX w l lo rb S Z p) (n : Nat) (hn : n < l.length) (hkr : ∀ k ∈ tailK l (n : Int), Kin l f k) (ih : StmtC l f) (hcnt : p.exprs.length + cntL l f (tailK l (n : Int)) ≤ 99999) (hcs : p.stmts.length + cntL l f (tailK l (n : Int)) ≤ 99999)
    (hsp : splitOk l (n : Int) = true) (hw : headW l (n : Int) = wWhile) (hc : 1 ≤ (tailK l (n : Int)).length) (hkl : (tailK l (n : Int)).length ≤ 90000) :
    Calls Try.prog 39 #[.pointer (some ⟨rb, 0, none⟩), .int .i64 (n : Int)] w (SP w l lo rb S Z p (bodyS l f (stmtS l f) (nth (tailK l (n : Int)) 0) ((tailK l (n : Int)).drop 1) (fun e ps => { stmt0 with kind := 5, e := e, thn := ps }) (p.exprs, p.stmts))) := by
  obtain ⟨kids, hkd⟩ : ∃ kids, tailK l (n : Int) = kids := ⟨_, rfl⟩
  rw [hkd] at hkr hcnt hcs hc hkl ⊢
  generalize hgr : (bodyS l f (stmtS l f) (nth kids 0) (kids.drop 1) (fun e ps => { stmt0 with kind := 5, e := e, thn := ps }) (p.exprs, p.stmts)) = R
  have hA := hgr.symm
  have hlow := h.size.2
  have H := hid h; have HSP := hid hsp; have HW := hid hw; have HKD := hid hkd; have HKR := hid hkr; have IH := hid ih
  have HRR := hid hA
  clear h hsp hw hkd hkr ih hgr hA
  go_enter Try.func39, Try.ntmps39
  go_upto_region 2 with (go_at_call 37; refine (split_yes l hwf rb _ _ (by exact H.out.rf) n hn HSP.out).mono ?_; rintro e w2 ⟨tv, rfl, htv, hb2⟩; rw [HW.out]; rw [HKD.out] at htv)
  have hX2 := H.out.below hb2
  have hS2 := RStep.of_below (rb := rb) (S := S) (Z := Z) hb2
  have hz2 := hb2.size
  obtain ⟨kb, ko, kc, rfl, hle, hcap, hkD, hkb, hc0⟩ := htv.at_ 0 (by omega)
  obtain ⟨k0, hk0, hk0l, hk0f⟩ := HKR.out _ (nth_mem (i := 0) (by omega))
  have e0 := cntL_at l f (ks := kids) (i := 0) (by omega)
  rw [hk0] at e0 hc0
  have hi0 : (0 : Int) < (kids.length : Int) := by omega
  rw [List.drop_zero] at e0
  rw [Nat.add_zero] at hc0
  simp only [Nat.zero_add, Nat.reduceAdd] at e0
  have hw0 : (wWhile.toList == [115, 101, 116]) = false := by rw [ByteArray.toList_eq]; rfl
  have hw1 : (wWhile.toList == [102, 111, 108, 100]) = false := by rw [ByteArray.toList_eq]; rfl
  have hw2 : (wWhile.toList == [101, 97, 99, 104]) = false := by rw [ByteArray.toList_eq]; rfl
  have hw3 : (wWhile.toList == [105, 102]) = false := by rw [ByteArray.toList_eq]; rfl
  have hw4 : (wWhile.toList == [119, 104, 105, 108, 101]) = true := by rw [ByteArray.toList_eq]; rfl
  have hw5 : (wWhile.toList == [108, 111, 111, 112]) = false := by rw [ByteArray.toList_eq]; rfl
  have hw6 : (wWhile.toList == [98, 102, 115]) = false := by rw [ByteArray.toList_eq]; rfl
  have hge : (1 : Int) ≤ (kids.length : Int) := by omega
  have hsl := fun W => slice_from W kb ko kids.length kc 1 (by omega) hle 1 rfl
  have hif : Ints w2 (fun b => b < lo) (fromV kb ko kids.length kc 1) (kids.drop 1) := htv.from (by omega)
  have hkd1 : ∀ k ∈ kids.drop 1, Kin l f k := fun k hk => HKR.out k (List.mem_of_mem_drop hk)
  have hdl : (kids.drop 1).length ≤ 90000 := by rw [List.length_drop]; omega
  have hA := HRR.out
  rw [hk0] at hA
  have hkb2 : kb < w2.heap.size := hkb
  have hb0 := BX.new hX2 hS2 #[.int .u8 0, .string ⟨#[]⟩, .int .u8 0, .int .i64 (-1), .int .i64 (-1), .slice none 0 0, .slice none 0 0, .slice none 0 0] 77
  have HX2 := hid hX2; have HS2 := hid hS2; have HB0 := hid hb0; have HIF := hid hif; have HKD1 := hid hkd1; have HADD := hid (stmtS_len hwf f); have HDL := hid hdl
  have hce : p.exprs.length + cntE l f (k0 : Int) ≤ 100000 := by omega
  have hce1 : ∀ es1 : List Expr, es1.length ≤ p.exprs.length + cntE l f (k0 : Int) → es1.length + cntL l f (kids.drop 1) ≤ 99999 := fun es1 h => by omega
  have hcs1 : p.stmts.length + cntL l f (kids.drop 1) ≤ 99999 := by omega
  have HCE1 := hid hce1; have HCS1 := hid hcs1
  clear hX2 hS2 hk0 e0 hb0 htv hcnt hif hkd1 hce1 hcs1 hdl
  rcases hpp : exprS l f (k0 : Int) p.exprs with ⟨ev, es1⟩ | wr
  · have hes := exprS_len l f _ _ _ hpp
    simp only [bodyS, hpp] at hA
    rcases hps : seqS (stmtS l f) (kids.drop 1) (es1, p.stmts) with ⟨ps, s1⟩ | wr
    · have hs1 := (seqS_stmts HADD.out HKD1.out hps).2
      rw [hps] at hA
      simp only [addS] at hA
      have hs1l : s1.2.length ≤ 99999 := by have := HCS1.out; simp only at hs1; omega
      have HA := hid hA; have HPP := hid hpp; have HPS := hid hps; have HES := hid hes
      clear hA hpp hps hes hs1
      go_wp2_with fail
      have b2 := HB0.out
      refine (expr_any l hwf f k0 _ lo rb S Z p hk0l hk0f b2.x hce).mono ?_
      rintro e w5 he
      rw [HPP.out] at he
      obtain ⟨rfl, S5, Z5, hX5, hSt5⟩ := he
      have b5 := b2.step hX5 hSt5
      have z0 := blk_cell b5.blk 0; have z3 := blk_cell b5.blk 3; have zf := blk_free b5.blk
      have HB5 := hid b5
      clear b2 b5 hX5 hSt5
      go_wp2_with fail
      have b6 := (HB5.out.set 0 (.int .u8 5) #[.int .u8 5, .string ⟨#[]⟩, .int .u8 0, .int .i64 (-1), .int .i64 (-1), .slice none 0 0, .slice none 0 0, .slice none 0 0] (by rfl)).set 3 (.int .i64 ev) #[.int .u8 5, .string ⟨#[]⟩, .int .u8 0, .int .i64 ev, .int .i64 (-1), .slice none 0 0, .slice none 0 0, .slice none 0 0] (by rfl)
      generalize (w5.setCell ⟨w2.heap.size, 0, none⟩ (.int .u8 5)).setCell ⟨w2.heap.size, 3, none⟩ (.int .i64 ev) = w6 at b6 ⊢
      have hi6 : Ints w6 (fun b => b < lo) (fromV kb ko kids.length kc 1) (kids.drop 1) := HIF.out.imp fun b hD hlt => ⟨hD, (b6.old H.out hD).trans (hb2.block b (Nat.lt_of_lt_of_le hD hlow)).symm⟩
      refine (stmts_any l f w6 lo rb S5 Z5 { p with exprs := es1 } b6.x (kids.drop 1) _ hi6 HKD1.out HDL.out IH.out HADD.out (HCE1.out es1 HES.out) HCS1.out).mono ?_
      rintro e w7 he
      simp only at he
      rw [HPS.out] at he
      obtain ⟨v, S9, Z9, rfl, hI7, hX7, hSt7⟩ := he
      obtain ⟨VA, vc, rfl, _, _⟩ := hI7.slice
      have b7 := b6.step hX7 hSt7
      have z6 := blk_cell b7.blk 6; have zf := blk_free b7.blk
      have HB7 := hid b7; have HI7 := hid hI7
      clear b6 b7 hX7 hSt7 hI7 hi6
      go_upto_region 34 with fail
      have b9 := HB7.out.set 6 (.slice VA ps.length vc) #[.int .u8 5, .string ⟨#[]⟩, .int .u8 0, .int .i64 ev, .int .i64 (-1), .slice none 0 0, .slice VA ps.length vc, .slice none 0 0] (by rfl)
      have hI9 := HB7.out.ints HI7.out 6 (.slice VA ps.length vc)
      generalize w7.setCell ⟨w2.heap.size, 6, none⟩ (.slice VA ps.length vc) = w9 at b9 hI9 ⊢
      have hsl := b9.x.size.1
      obtain ⟨fv, hb, _⟩ := b9.x.blk
      have hV : StmtV w9 Z9 { stmt0 with kind := 5, e := ev, thn := ps } (PStmt.cells { stmt0 with kind := 5, e := ev, thn := ps } (.slice none 0 0) (.slice VA ps.length vc) (.slice none 0 0)) := ⟨_, _, _, rfl, Row.nil _ _ _ _, hI9, Row.nil _ _ _ _⟩
      refine wp_push2 pt_stmts (by kernel_rfl) 0 234 _ (by kernel_rfl) (by rfl) (by rfl) (by rfl) (by omega) (R := StmtV w9 Z9) rb 0 (S9 2) (.agg #[.int .u8 5, .string ⟨#[]⟩, .int .u8 0, .int .i64 ev, .int .i64 (-1), .slice none 0 0, .slice VA ps.length vc, .slice none 0 0]) (PStmt.cells { stmt0 with kind := 5, e := ev, thn := ps } (.slice none 0 0) (.slice VA ps.length vc) (.slice none 0 0)) s1.2 { stmt0 with kind := 5, e := ev, thn := ps } rfl (blk_cell hb 3) (blk_free hb 3) (fun e => (b9.x.low 2 rb e).2.1 rfl) b9.x.stmts ?el ?bs hV rfl (by simp [PStmt.cells, Value.oneCell']) (by omega) (by omega) ?q
      case el =>
        intro a w' o6 ho hFr hgr
        have hbb := (hgr.block w2.heap.size (blk_lt b9.blk) (fun e => b9.nr (.inr ⟨2, e.symm⟩))).trans b9.blk
        have hc := blk_cell hbb
        have ht : a.tmps.getD 7 undef = _ := hFr.get 7 (by rfl)
        simp only [Array.getD_eq_getD_getElem?] at ht
        simp [execOp, ho, go_sem, Act.eval, ht, hc, PStmt.cells]
      case bs => intro w'; simp [go_sem, PStmt.cells, stmt0]
      case q =>
        intro B g cap w1 hG
        obtain ⟨h2, h3⟩ := b9.x.pushS hG
        have h4 := b9.s.trans h3
        simp only [pushAct2, Nat.add_zero, Nat.zero_add, Nat.reduceAdd]
        generalize w1.setCell ⟨rb, 3, none⟩ (.slice (some ⟨g, 0, none⟩) (s1.2.length + 1) cap) = wz at h2 h4 ⊢
        obtain ⟨fv2, hb2, _⟩ := h2.blk
        simp only [up] at hb2
        have q := blk_cell hb2 3
        have hl2 : (s1.2.length : Int) + 1 ≤ 200000 := by omega
        have H2 := hid h2; have H4 := hid h4
        clear h2 h4 h3 hG b9 hV hb hb2
        go_wp2
        go_ret
        exact SP.ok HA.out H2.out H4.out
    · rw [hps] at hA
      simp only at hA
      have HA := hid hA; have HPP := hid hpp; have HPS := hid hps; have HES := hid hes
      clear hA hpp hps hes
      go_wp2_with fail
      have b2 := HB0.out
      refine (expr_any l hwf f k0 _ lo rb S Z p hk0l hk0f b2.x hce).mono ?_
      rintro e w5 he
      rw [HPP.out] at he
      obtain ⟨rfl, S5, Z5, hX5, hSt5⟩ := he
      have b5 := b2.step hX5 hSt5
      have z0 := blk_cell b5.blk 0; have z3 := blk_cell b5.blk 3; have zf := blk_free b5.blk
      have HB5 := hid b5
      clear b2 b5 hX5 hSt5
      go_wp2_with fail
      have b6 := (HB5.out.set 0 (.int .u8 5) #[.int .u8 5, .string ⟨#[]⟩, .int .u8 0, .int .i64 (-1), .int .i64 (-1), .slice none 0 0, .slice none 0 0, .slice none 0 0] (by rfl)).set 3 (.int .i64 ev) #[.int .u8 5, .string ⟨#[]⟩, .int .u8 0, .int .i64 ev, .int .i64 (-1), .slice none 0 0, .slice none 0 0, .slice none 0 0] (by rfl)
      generalize (w5.setCell ⟨w2.heap.size, 0, none⟩ (.int .u8 5)).setCell ⟨w2.heap.size, 3, none⟩ (.int .i64 ev) = w6 at b6 ⊢
      have hi6 : Ints w6 (fun b => b < lo) (fromV kb ko kids.length kc 1) (kids.drop 1) := HIF.out.imp fun b hD hlt => ⟨hD, (b6.old H.out hD).trans (hb2.block b (Nat.lt_of_lt_of_le hD hlow)).symm⟩
      refine (stmts_any l f w6 lo rb S5 Z5 { p with exprs := es1 } b6.x (kids.drop 1) _ hi6 HKD1.out HDL.out IH.out HADD.out (HCE1.out es1 HES.out) HCS1.out).mono ?_
      rintro e w7 he
      simp only at he
      rw [HPS.out] at he
      obtain ⟨rfl, hBp⟩ := he
      exact ⟨rfl, SP.no HA.out ((RStep.below H.out b6.s).trans hBp)⟩
  · simp only [bodyS, hpp] at hA
    have HA := hid hA; have HPP := hid hpp
    clear hA hpp
    go_wp2_with fail
    have b2 := HB0.out
    refine (expr_any l hwf f k0 _ lo rb S Z p hk0l hk0f b2.x hce).mono ?_
    rintro e w5 he
    rw [HPP.out] at he
    obtain ⟨rfl, hBp⟩ := he
    exact ⟨rfl, SP.no HA.out ((RStep.below H.out b2.s).trans hBp)⟩
set_option maxHeartbeats 4000000 in
set_option maxRecDepth 100000 in
theorem stmt_loop (l : List Form) (hwf : WF l) (f : Nat) (w : World) (lo rb : Nat) (S : Nat → Value) (Z : Nat → Prop) (p : Prg) (h : RX w l lo rb S Z p) (n : Nat) (hn : n < l.length) (hkr : ∀ k ∈ tailK l (n : Int), Kin l f k) (ih : StmtC l f) (hcnt : p.exprs.length + cntL l f (tailK l (n : Int)) ≤ 99999) (hcs : p.stmts.length + cntL l f (tailK l (n : Int)) ≤ 99999)
    (hsp : splitOk l (n : Int) = true) (hw : headW l (n : Int) = wLoop) (hc : 1 ≤ (tailK l (n : Int)).length) (hkl : (tailK l (n : Int)).length ≤ 90000) :
    Calls Try.prog 39 #[.pointer (some ⟨rb, 0, none⟩), .int .i64 (n : Int)] w (SP w l lo rb S Z p (bodyS l f (stmtS l f) (nth (tailK l (n : Int)) 0) ((tailK l (n : Int)).drop 1) (fun e ps => { stmt0 with kind := 6, e := e, thn := ps }) (p.exprs, p.stmts))) := by
  obtain ⟨kids, hkd⟩ : ∃ kids, tailK l (n : Int) = kids := ⟨_, rfl⟩
  rw [hkd] at hkr hcnt hcs hc hkl ⊢
  generalize hgr : (bodyS l f (stmtS l f) (nth kids 0) (kids.drop 1) (fun e ps => { stmt0 with kind := 6, e := e, thn := ps }) (p.exprs, p.stmts)) = R
  have hA := hgr.symm
  have hlow := h.size.2
  have H := hid h; have HSP := hid hsp; have HW := hid hw; have HKD := hid hkd; have HKR := hid hkr; have IH := hid ih
  have HRR := hid hA
  clear h hsp hw hkd hkr ih hgr hA
  go_enter Try.func39, Try.ntmps39
  go_upto_region 2 with (go_at_call 37; refine (split_yes l hwf rb _ _ (by exact H.out.rf) n hn HSP.out).mono ?_; rintro e w2 ⟨tv, rfl, htv, hb2⟩; rw [HW.out]; rw [HKD.out] at htv)
  have hX2 := H.out.below hb2
  have hS2 := RStep.of_below (rb := rb) (S := S) (Z := Z) hb2
  have hz2 := hb2.size
  obtain ⟨kb, ko, kc, rfl, hle, hcap, hkD, hkb, hc0⟩ := htv.at_ 0 (by omega)
  obtain ⟨k0, hk0, hk0l, hk0f⟩ := HKR.out _ (nth_mem (i := 0) (by omega))
  have e0 := cntL_at l f (ks := kids) (i := 0) (by omega)
  rw [hk0] at e0 hc0
  have hi0 : (0 : Int) < (kids.length : Int) := by omega
  rw [List.drop_zero] at e0
  rw [Nat.add_zero] at hc0
  simp only [Nat.zero_add, Nat.reduceAdd] at e0
  have hw0 : (wLoop.toList == [115, 101, 116]) = false := by rw [ByteArray.toList_eq]; rfl
  have hw1 : (wLoop.toList == [102, 111, 108, 100]) = false := by rw [ByteArray.toList_eq]; rfl
  have hw2 : (wLoop.toList == [101, 97, 99, 104]) = false := by rw [ByteArray.toList_eq]; rfl
  have hw3 : (wLoop.toList == [105, 102]) = false := by rw [ByteArray.toList_eq]; rfl
  have hw4 : (wLoop.toList == [119, 104, 105, 108, 101]) = false := by rw [ByteArray.toList_eq]; rfl
  have hw5 : (wLoop.toList == [108, 111, 111, 112]) = true := by rw [ByteArray.toList_eq]; rfl
  have hw6 : (wLoop.toList == [98, 102, 115]) = false := by rw [ByteArray.toList_eq]; rfl
  have hge : (1 : Int) ≤ (kids.length : Int) := by omega
  have hsl := fun W => slice_from W kb ko kids.length kc 1 (by omega) hle 1 rfl
  have hif : Ints w2 (fun b => b < lo) (fromV kb ko kids.length kc 1) (kids.drop 1) := htv.from (by omega)
  have hkd1 : ∀ k ∈ kids.drop 1, Kin l f k := fun k hk => HKR.out k (List.mem_of_mem_drop hk)
  have hdl : (kids.drop 1).length ≤ 90000 := by rw [List.length_drop]; omega
  have hA := HRR.out
  rw [hk0] at hA
  have hkb2 : kb < w2.heap.size := hkb
  have hb0 := BX.new hX2 hS2 #[.int .u8 0, .string ⟨#[]⟩, .int .u8 0, .int .i64 (-1), .int .i64 (-1), .slice none 0 0, .slice none 0 0, .slice none 0 0] 77
  have HX2 := hid hX2; have HS2 := hid hS2; have HB0 := hid hb0; have HIF := hid hif; have HKD1 := hid hkd1; have HADD := hid (stmtS_len hwf f); have HDL := hid hdl
  have hce : p.exprs.length + cntE l f (k0 : Int) ≤ 100000 := by omega
  have hce1 : ∀ es1 : List Expr, es1.length ≤ p.exprs.length + cntE l f (k0 : Int) → es1.length + cntL l f (kids.drop 1) ≤ 99999 := fun es1 h => by omega
  have hcs1 : p.stmts.length + cntL l f (kids.drop 1) ≤ 99999 := by omega
  have HCE1 := hid hce1; have HCS1 := hid hcs1
  clear hX2 hS2 hk0 e0 hb0 htv hcnt hif hkd1 hce1 hcs1 hdl
  rcases hpp : exprS l f (k0 : Int) p.exprs with ⟨ev, es1⟩ | wr
  · have hes := exprS_len l f _ _ _ hpp
    simp only [bodyS, hpp] at hA
    rcases hps : seqS (stmtS l f) (kids.drop 1) (es1, p.stmts) with ⟨ps, s1⟩ | wr
    · have hs1 := (seqS_stmts HADD.out HKD1.out hps).2
      rw [hps] at hA
      simp only [addS] at hA
      have hs1l : s1.2.length ≤ 99999 := by have := HCS1.out; simp only at hs1; omega
      have HA := hid hA; have HPP := hid hpp; have HPS := hid hps; have HES := hid hes
      clear hA hpp hps hes hs1
      go_wp2_with fail
      have b2 := HB0.out
      refine (expr_any l hwf f k0 _ lo rb S Z p hk0l hk0f b2.x hce).mono ?_
      rintro e w5 he
      rw [HPP.out] at he
      obtain ⟨rfl, S5, Z5, hX5, hSt5⟩ := he
      have b5 := b2.step hX5 hSt5
      have z0 := blk_cell b5.blk 0; have z3 := blk_cell b5.blk 3; have zf := blk_free b5.blk
      have HB5 := hid b5
      clear b2 b5 hX5 hSt5
      go_wp2_with fail
      have b6 := (HB5.out.set 0 (.int .u8 6) #[.int .u8 6, .string ⟨#[]⟩, .int .u8 0, .int .i64 (-1), .int .i64 (-1), .slice none 0 0, .slice none 0 0, .slice none 0 0] (by rfl)).set 3 (.int .i64 ev) #[.int .u8 6, .string ⟨#[]⟩, .int .u8 0, .int .i64 ev, .int .i64 (-1), .slice none 0 0, .slice none 0 0, .slice none 0 0] (by rfl)
      generalize (w5.setCell ⟨w2.heap.size, 0, none⟩ (.int .u8 6)).setCell ⟨w2.heap.size, 3, none⟩ (.int .i64 ev) = w6 at b6 ⊢
      have hi6 : Ints w6 (fun b => b < lo) (fromV kb ko kids.length kc 1) (kids.drop 1) := HIF.out.imp fun b hD hlt => ⟨hD, (b6.old H.out hD).trans (hb2.block b (Nat.lt_of_lt_of_le hD hlow)).symm⟩
      refine (stmts_any l f w6 lo rb S5 Z5 { p with exprs := es1 } b6.x (kids.drop 1) _ hi6 HKD1.out HDL.out IH.out HADD.out (HCE1.out es1 HES.out) HCS1.out).mono ?_
      rintro e w7 he
      simp only at he
      rw [HPS.out] at he
      obtain ⟨v, S9, Z9, rfl, hI7, hX7, hSt7⟩ := he
      obtain ⟨VA, vc, rfl, _, _⟩ := hI7.slice
      have b7 := b6.step hX7 hSt7
      have z6 := blk_cell b7.blk 6; have zf := blk_free b7.blk
      have HB7 := hid b7; have HI7 := hid hI7
      clear b6 b7 hX7 hSt7 hI7 hi6
      go_upto_region 34 with fail
      have b9 := HB7.out.set 6 (.slice VA ps.length vc) #[.int .u8 6, .string ⟨#[]⟩, .int .u8 0, .int .i64 ev, .int .i64 (-1), .slice none 0 0, .slice VA ps.length vc, .slice none 0 0] (by rfl)
      have hI9 := HB7.out.ints HI7.out 6 (.slice VA ps.length vc)
      generalize w7.setCell ⟨w2.heap.size, 6, none⟩ (.slice VA ps.length vc) = w9 at b9 hI9 ⊢
      have hsl := b9.x.size.1
      obtain ⟨fv, hb, _⟩ := b9.x.blk
      have hV : StmtV w9 Z9 { stmt0 with kind := 6, e := ev, thn := ps } (PStmt.cells { stmt0 with kind := 6, e := ev, thn := ps } (.slice none 0 0) (.slice VA ps.length vc) (.slice none 0 0)) := ⟨_, _, _, rfl, Row.nil _ _ _ _, hI9, Row.nil _ _ _ _⟩
      refine wp_push2 pt_stmts (by kernel_rfl) 0 234 _ (by kernel_rfl) (by rfl) (by rfl) (by rfl) (by omega) (R := StmtV w9 Z9) rb 0 (S9 2) (.agg #[.int .u8 6, .string ⟨#[]⟩, .int .u8 0, .int .i64 ev, .int .i64 (-1), .slice none 0 0, .slice VA ps.length vc, .slice none 0 0]) (PStmt.cells { stmt0 with kind := 6, e := ev, thn := ps } (.slice none 0 0) (.slice VA ps.length vc) (.slice none 0 0)) s1.2 { stmt0 with kind := 6, e := ev, thn := ps } rfl (blk_cell hb 3) (blk_free hb 3) (fun e => (b9.x.low 2 rb e).2.1 rfl) b9.x.stmts ?el ?bs hV rfl (by simp [PStmt.cells, Value.oneCell']) (by omega) (by omega) ?q
      case el =>
        intro a w' o6 ho hFr hgr
        have hbb := (hgr.block w2.heap.size (blk_lt b9.blk) (fun e => b9.nr (.inr ⟨2, e.symm⟩))).trans b9.blk
        have hc := blk_cell hbb
        have ht : a.tmps.getD 7 undef = _ := hFr.get 7 (by rfl)
        simp only [Array.getD_eq_getD_getElem?] at ht
        simp [execOp, ho, go_sem, Act.eval, ht, hc, PStmt.cells]
      case bs => intro w'; simp [go_sem, PStmt.cells, stmt0]
      case q =>
        intro B g cap w1 hG
        obtain ⟨h2, h3⟩ := b9.x.pushS hG
        have h4 := b9.s.trans h3
        simp only [pushAct2, Nat.add_zero, Nat.zero_add, Nat.reduceAdd]
        generalize w1.setCell ⟨rb, 3, none⟩ (.slice (some ⟨g, 0, none⟩) (s1.2.length + 1) cap) = wz at h2 h4 ⊢
        obtain ⟨fv2, hb2, _⟩ := h2.blk
        simp only [up] at hb2
        have q := blk_cell hb2 3
        have hl2 : (s1.2.length : Int) + 1 ≤ 200000 := by omega
        have H2 := hid h2; have H4 := hid h4
        clear h2 h4 h3 hG b9 hV hb hb2
        go_wp2
        go_ret
        exact SP.ok HA.out H2.out H4.out
    · rw [hps] at hA
      simp only at hA
      have HA := hid hA; have HPP := hid hpp; have HPS := hid hps; have HES := hid hes
      clear hA hpp hps hes
      go_wp2_with fail
      have b2 := HB0.out
      refine (expr_any l hwf f k0 _ lo rb S Z p hk0l hk0f b2.x hce).mono ?_
      rintro e w5 he
      rw [HPP.out] at he
      obtain ⟨rfl, S5, Z5, hX5, hSt5⟩ := he
      have b5 := b2.step hX5 hSt5
      have z0 := blk_cell b5.blk 0; have z3 := blk_cell b5.blk 3; have zf := blk_free b5.blk
      have HB5 := hid b5
      clear b2 b5 hX5 hSt5
      go_wp2_with fail
      have b6 := (HB5.out.set 0 (.int .u8 6) #[.int .u8 6, .string ⟨#[]⟩, .int .u8 0, .int .i64 (-1), .int .i64 (-1), .slice none 0 0, .slice none 0 0, .slice none 0 0] (by rfl)).set 3 (.int .i64 ev) #[.int .u8 6, .string ⟨#[]⟩, .int .u8 0, .int .i64 ev, .int .i64 (-1), .slice none 0 0, .slice none 0 0, .slice none 0 0] (by rfl)
      generalize (w5.setCell ⟨w2.heap.size, 0, none⟩ (.int .u8 6)).setCell ⟨w2.heap.size, 3, none⟩ (.int .i64 ev) = w6 at b6 ⊢
      have hi6 : Ints w6 (fun b => b < lo) (fromV kb ko kids.length kc 1) (kids.drop 1) := HIF.out.imp fun b hD hlt => ⟨hD, (b6.old H.out hD).trans (hb2.block b (Nat.lt_of_lt_of_le hD hlow)).symm⟩
      refine (stmts_any l f w6 lo rb S5 Z5 { p with exprs := es1 } b6.x (kids.drop 1) _ hi6 HKD1.out HDL.out IH.out HADD.out (HCE1.out es1 HES.out) HCS1.out).mono ?_
      rintro e w7 he
      simp only at he
      rw [HPS.out] at he
      obtain ⟨rfl, hBp⟩ := he
      exact ⟨rfl, SP.no HA.out ((RStep.below H.out b6.s).trans hBp)⟩
  · simp only [bodyS, hpp] at hA
    have HA := hid hA; have HPP := hid hpp
    clear hA hpp
    go_wp2_with fail
    have b2 := HB0.out
    refine (expr_any l hwf f k0 _ lo rb S Z p hk0l hk0f b2.x hce).mono ?_
    rintro e w5 he
    rw [HPP.out] at he
    obtain ⟨rfl, hBp⟩ := he
    exact ⟨rfl, SP.no HA.out ((RStep.below H.out b2.s).trans hBp)⟩
set_option maxHeartbeats 4000000 in
set_option maxRecDepth 100000 in
theorem stmt_bfs (l : List Form) (hwf : WF l) (f : Nat) (w : World) (lo rb : Nat) (S : Nat → Value) (Z : Nat → Prop) (p : Prg) (h : RX w l lo rb S Z p) (n : Nat) (hn : n < l.length) (hkr : ∀ k ∈ tailK l (n : Int), Kin l f k) (ih : StmtC l f) (hcnt : p.exprs.length + cntL l f (tailK l (n : Int)) ≤ 99999) (hcs : p.stmts.length + cntL l f (tailK l (n : Int)) ≤ 99999)
    (hsp : splitOk l (n : Int) = true) (hw : headW l (n : Int) = wBfs) (hc : 2 ≤ (tailK l (n : Int)).length) (hkl : (tailK l (n : Int)).length ≤ 90000) :
    Calls Try.prog 39 #[.pointer (some ⟨rb, 0, none⟩), .int .i64 (n : Int)] w (SP w l lo rb S Z p (if nameOk l (nth (tailK l (n : Int)) 0) then bodyS l f (stmtS l f) (nth (tailK l (n : Int)) 1) ((tailK l (n : Int)).drop 2) (fun e ps => { stmt0 with kind := 7, name := (fm l (nth (tailK l (n : Int)) 0)).text, e := e, thn := ps }) (p.exprs, p.stmts) else .inr (wrongS l (nth (tailK l (n : Int)) 0)))) := by
  obtain ⟨kids, hkd⟩ : ∃ kids, tailK l (n : Int) = kids := ⟨_, rfl⟩
  rw [hkd] at hkr hcnt hcs hc hkl ⊢
  generalize hgr : (if nameOk l (nth kids 0) then bodyS l f (stmtS l f) (nth kids 1) (kids.drop 2) (fun e ps => { stmt0 with kind := 7, name := (fm l (nth kids 0)).text, e := e, thn := ps }) (p.exprs, p.stmts) else .inr (wrongS l (nth kids 0))) = R
  have hA := hgr.symm
  have hlow := h.size.2
  have H := hid h; have HSP := hid hsp; have HW := hid hw; have HKD := hid hkd; have HKR := hid hkr; have IH := hid ih
  have HRR := hid hA
  clear h hsp hw hkd hkr ih hgr hA
  go_enter Try.func39, Try.ntmps39
  go_upto_region 2 with (go_at_call 37; refine (split_yes l hwf rb _ _ (by exact H.out.rf) n hn HSP.out).mono ?_; rintro e w2 ⟨tv, rfl, htv, hb2⟩; rw [HW.out]; rw [HKD.out] at htv)
  have hX2 := H.out.below hb2
  have hS2 := RStep.of_below (rb := rb) (S := S) (Z := Z) hb2
  have hz2 := hb2.size
  obtain ⟨kb, ko, kc, rfl, hle, hcap, hkD, hkb, hc0⟩ := htv.at_ 0 (by omega)
  obtain ⟨kb1, ko1, kc1, he1, _, _, _, _, hc1⟩ := htv.at_ 1 (by omega)
  simp only [Value.slice.injEq] at he1
  obtain ⟨he1, _, rfl⟩ := he1
  cases he1
  obtain ⟨k0, hk0, hk0l, hk0f⟩ := HKR.out _ (nth_mem (i := 0) (by omega))
  have e0 := cntL_at l f (ks := kids) (i := 0) (by omega)
  rw [hk0] at e0 hc0
  have hi0 : (0 : Int) < (kids.length : Int) := by omega
  obtain ⟨k1, hk1, hk1l, hk1f⟩ := HKR.out _ (nth_mem (i := 1) (by omega))
  have e1 := cntL_at l f (ks := kids) (i := 1) (by omega)
  rw [hk1] at e1 hc1
  have hi1 : (1 : Int) < (kids.length : Int) := by omega
  rw [List.drop_zero] at e0
  rw [Nat.add_zero] at hc0
  simp only [Nat.zero_add, Nat.reduceAdd] at e0 e1
  have hw0 : (wBfs.toList == [115, 101, 116]) = false := by rw [ByteArray.toList_eq]; rfl
  have hw1 : (wBfs.toList == [102, 111, 108, 100]) = false := by rw [ByteArray.toList_eq]; rfl
  have hw2 : (wBfs.toList == [101, 97, 99, 104]) = false := by rw [ByteArray.toList_eq]; rfl
  have hw3 : (wBfs.toList == [105, 102]) = false := by rw [ByteArray.toList_eq]; rfl
  have hw4 : (wBfs.toList == [119, 104, 105, 108, 101]) = false := by rw [ByteArray.toList_eq]; rfl
  have hw5 : (wBfs.toList == [108, 111, 111, 112]) = false := by rw [ByteArray.toList_eq]; rfl
  have hw6 : (wBfs.toList == [98, 102, 115]) = true := by rw [ByteArray.toList_eq]; rfl
  have hge : (2 : Int) ≤ (kids.length : Int) := by omega
  have hsl := fun W => slice_from W kb ko kids.length kc 2 (by omega) hle 2 rfl
  have hif : Ints w2 (fun b => b < lo) (fromV kb ko kids.length kc 2) (kids.drop 2) := htv.from (by omega)
  have hkd1 : ∀ k ∈ kids.drop 2, Kin l f k := fun k hk => HKR.out k (List.mem_of_mem_drop hk)
  have hdl : (kids.drop 2).length ≤ 90000 := by rw [List.length_drop]; omega
  have hA := HRR.out
  rw [hk0, hk1] at hA
  have hkb2 : kb < w2.heap.size := hkb
  have hb0 := BX.new hX2 hS2 #[.int .u8 0, .string ⟨#[]⟩, .int .u8 0, .int .i64 (-1), .int .i64 (-1), .slice none 0 0, .slice none 0 0, .slice none 0 0] 77
  have HX2 := hid hX2; have HS2 := hid hS2; have HB0 := hid hb0; have HIF := hid hif; have HKD1 := hid hkd1; have HADD := hid (stmtS_len hwf f); have HDL := hid hdl
  have hce : p.exprs.length + cntE l f (k1 : Int) ≤ 100000 := by omega
  have hce1 : ∀ es1 : List Expr, es1.length ≤ p.exprs.length + cntE l f (k1 : Int) → es1.length + cntL l f (kids.drop 2) ≤ 99999 := fun es1 h => by omega
  have hcs1 : p.stmts.length + cntL l f (kids.drop 2) ≤ 99999 := by omega
  have HCE1 := hid hce1; have HCS1 := hid hcs1
  clear hX2 hS2 hk0 e0 hk1 e1 hb0 htv hcnt hif hkd1 hce1 hcs1 hdl
  by_cases hno : nameOk l (k0 : Int) = true
  · rw [if_pos hno] at hA
    obtain ⟨nm, hnm⟩ : ∃ nm, (fm l (k0 : Int)).text = nm := ⟨_, rfl⟩
    rw [hnm] at hA
    have HNM := hid hnm; have HNO := hid hno
    clear hnm hno
    rcases hpp : exprS l f (k1 : Int) p.exprs with ⟨ev, es1⟩ | wr
    · have hes := exprS_len l f _ _ _ hpp
      simp only [bodyS, hpp] at hA
      rcases hps : seqS (stmtS l f) (kids.drop 2) (es1, p.stmts) with ⟨ps, s1⟩ | wr
      · have hs1 := (seqS_stmts HADD.out HKD1.out hps).2
        rw [hps] at hA
        simp only [addS] at hA
        have hs1l : s1.2.length ≤ 99999 := by have := HCS1.out; simp only at hs1; omega
        have HA := hid hA; have HPP := hid hpp; have HPS := hid hps; have HES := hid hes
        clear hA hpp hps hes hs1
        go_wp2_with (first | (go_at_call 41; refine (name_yes l rb _ _ (by exact HB0.out.x.rf) k0 hk0l HNO.out).mono ?_; rintro e w3 ⟨rfl, hb3⟩; rw [HNM.out]; have b1 := HB0.out.below hb3; have z0 := blk_cell b1.blk 0; have z1 := blk_cell b1.blk 1; have zf := blk_free b1.blk; have d1 := (World.cell?_of_block (a := ⟨kb, ko + 1, none⟩) ((b1.old H.out hkD).trans (hb2.block kb (Nat.lt_of_lt_of_le hkD hlow)).symm)).trans hc1; have hkn : kb ≠ w2.heap.size := (by omega); have HB1 := hid b1; clear b1 hb3))
        have b2 := (HB1.out.set 0 (.int .u8 7) #[.int .u8 7, .string ⟨#[]⟩, .int .u8 0, .int .i64 (-1), .int .i64 (-1), .slice none 0 0, .slice none 0 0, .slice none 0 0] (by rfl)).set 1 (.string nm) #[.int .u8 7, .string nm, .int .u8 0, .int .i64 (-1), .int .i64 (-1), .slice none 0 0, .slice none 0 0, .slice none 0 0] (by rfl)
        generalize (w3.setCell ⟨w2.heap.size, 0, none⟩ (.int .u8 7)).setCell ⟨w2.heap.size, 1, none⟩ (.string nm) = w4 at b2 ⊢
        refine (expr_any l hwf f k1 w4 lo rb S Z p hk1l hk1f b2.x hce).mono ?_
        rintro e w5 he
        rw [HPP.out] at he
        obtain ⟨rfl, S5, Z5, hX5, hSt5⟩ := he
        have b5 := b2.step hX5 hSt5
        have z0 := blk_cell b5.blk 0; have z3 := blk_cell b5.blk 3; have zf := blk_free b5.blk
        have HB5 := hid b5
        clear b2 b5 hX5 hSt5 z1 d1
        go_wp2_with fail
        have b6 := HB5.out.set 3 (.int .i64 ev) #[.int .u8 7, .string nm, .int .u8 0, .int .i64 ev, .int .i64 (-1), .slice none 0 0, .slice none 0 0, .slice none 0 0] (by rfl)
        generalize w5.setCell ⟨w2.heap.size, 3, none⟩ (.int .i64 ev) = w6 at b6 ⊢
        have hi6 : Ints w6 (fun b => b < lo) (fromV kb ko kids.length kc 2) (kids.drop 2) := HIF.out.imp fun b hD hlt => ⟨hD, (b6.old H.out hD).trans (hb2.block b (Nat.lt_of_lt_of_le hD hlow)).symm⟩
        refine (stmts_any l f w6 lo rb S5 Z5 { p with exprs := es1 } b6.x (kids.drop 2) _ hi6 HKD1.out HDL.out IH.out HADD.out (HCE1.out es1 HES.out) HCS1.out).mono ?_
        rintro e w7 he
        simp only at he
        rw [HPS.out] at he
        obtain ⟨v, S9, Z9, rfl, hI7, hX7, hSt7⟩ := he
        obtain ⟨VA, vc, rfl, _, _⟩ := hI7.slice
        have b7 := b6.step hX7 hSt7
        have z6 := blk_cell b7.blk 6; have zf := blk_free b7.blk
        have HB7 := hid b7; have HI7 := hid hI7
        clear b6 b7 hX7 hSt7 hI7 hi6
        go_upto_region 34 with fail
        have b9 := HB7.out.set 6 (.slice VA ps.length vc) #[.int .u8 7, .string nm, .int .u8 0, .int .i64 ev, .int .i64 (-1), .slice none 0 0, .slice VA ps.length vc, .slice none 0 0] (by rfl)
        have hI9 := HB7.out.ints HI7.out 6 (.slice VA ps.length vc)
        generalize w7.setCell ⟨w2.heap.size, 6, none⟩ (.slice VA ps.length vc) = w9 at b9 hI9 ⊢
        have hsl := b9.x.size.1
        obtain ⟨fv, hb, _⟩ := b9.x.blk
        have hV : StmtV w9 Z9 { stmt0 with kind := 7, name := nm, e := ev, thn := ps } (PStmt.cells { stmt0 with kind := 7, name := nm, e := ev, thn := ps } (.slice none 0 0) (.slice VA ps.length vc) (.slice none 0 0)) := ⟨_, _, _, rfl, Row.nil _ _ _ _, hI9, Row.nil _ _ _ _⟩
        refine wp_push2 pt_stmts (by kernel_rfl) 0 234 _ (by kernel_rfl) (by rfl) (by rfl) (by rfl) (by omega) (R := StmtV w9 Z9) rb 0 (S9 2) (.agg #[.int .u8 7, .string nm, .int .u8 0, .int .i64 ev, .int .i64 (-1), .slice none 0 0, .slice VA ps.length vc, .slice none 0 0]) (PStmt.cells { stmt0 with kind := 7, name := nm, e := ev, thn := ps } (.slice none 0 0) (.slice VA ps.length vc) (.slice none 0 0)) s1.2 { stmt0 with kind := 7, name := nm, e := ev, thn := ps } rfl (blk_cell hb 3) (blk_free hb 3) (fun e => (b9.x.low 2 rb e).2.1 rfl) b9.x.stmts ?el ?bs hV rfl (by simp [PStmt.cells, Value.oneCell']) (by omega) (by omega) ?q
        case el =>
          intro a w' o6 ho hFr hgr
          have hbb := (hgr.block w2.heap.size (blk_lt b9.blk) (fun e => b9.nr (.inr ⟨2, e.symm⟩))).trans b9.blk
          have hc := blk_cell hbb
          have ht : a.tmps.getD 7 undef = _ := hFr.get 7 (by rfl)
          simp only [Array.getD_eq_getD_getElem?] at ht
          simp [execOp, ho, go_sem, Act.eval, ht, hc, PStmt.cells]
        case bs => intro w'; simp [go_sem, PStmt.cells, stmt0]
        case q =>
          intro B g cap w1 hG
          obtain ⟨h2, h3⟩ := b9.x.pushS hG
          have h4 := b9.s.trans h3
          simp only [pushAct2, Nat.add_zero, Nat.zero_add, Nat.reduceAdd]
          generalize w1.setCell ⟨rb, 3, none⟩ (.slice (some ⟨g, 0, none⟩) (s1.2.length + 1) cap) = wz at h2 h4 ⊢
          obtain ⟨fv2, hb2, _⟩ := h2.blk
          simp only [up] at hb2
          have q := blk_cell hb2 3
          have hl2 : (s1.2.length : Int) + 1 ≤ 200000 := by omega
          have H2 := hid h2; have H4 := hid h4
          clear h2 h4 h3 hG b9 hV hb hb2
          go_wp2
          go_ret
          exact SP.ok HA.out H2.out H4.out
      · rw [hps] at hA
        simp only at hA
        have HA := hid hA; have HPP := hid hpp; have HPS := hid hps; have HES := hid hes
        clear hA hpp hps hes
        go_wp2_with (first | (go_at_call 41; refine (name_yes l rb _ _ (by exact HB0.out.x.rf) k0 hk0l HNO.out).mono ?_; rintro e w3 ⟨rfl, hb3⟩; rw [HNM.out]; have b1 := HB0.out.below hb3; have z0 := blk_cell b1.blk 0; have z1 := blk_cell b1.blk 1; have zf := blk_free b1.blk; have d1 := (World.cell?_of_block (a := ⟨kb, ko + 1, none⟩) ((b1.old H.out hkD).trans (hb2.block kb (Nat.lt_of_lt_of_le hkD hlow)).symm)).trans hc1; have hkn : kb ≠ w2.heap.size := (by omega); have HB1 := hid b1; clear b1 hb3))
        have b2 := (HB1.out.set 0 (.int .u8 7) #[.int .u8 7, .string ⟨#[]⟩, .int .u8 0, .int .i64 (-1), .int .i64 (-1), .slice none 0 0, .slice none 0 0, .slice none 0 0] (by rfl)).set 1 (.string nm) #[.int .u8 7, .string nm, .int .u8 0, .int .i64 (-1), .int .i64 (-1), .slice none 0 0, .slice none 0 0, .slice none 0 0] (by rfl)
        generalize (w3.setCell ⟨w2.heap.size, 0, none⟩ (.int .u8 7)).setCell ⟨w2.heap.size, 1, none⟩ (.string nm) = w4 at b2 ⊢
        refine (expr_any l hwf f k1 w4 lo rb S Z p hk1l hk1f b2.x hce).mono ?_
        rintro e w5 he
        rw [HPP.out] at he
        obtain ⟨rfl, S5, Z5, hX5, hSt5⟩ := he
        have b5 := b2.step hX5 hSt5
        have z0 := blk_cell b5.blk 0; have z3 := blk_cell b5.blk 3; have zf := blk_free b5.blk
        have HB5 := hid b5
        clear b2 b5 hX5 hSt5 z1 d1
        go_wp2_with fail
        have b6 := HB5.out.set 3 (.int .i64 ev) #[.int .u8 7, .string nm, .int .u8 0, .int .i64 ev, .int .i64 (-1), .slice none 0 0, .slice none 0 0, .slice none 0 0] (by rfl)
        generalize w5.setCell ⟨w2.heap.size, 3, none⟩ (.int .i64 ev) = w6 at b6 ⊢
        have hi6 : Ints w6 (fun b => b < lo) (fromV kb ko kids.length kc 2) (kids.drop 2) := HIF.out.imp fun b hD hlt => ⟨hD, (b6.old H.out hD).trans (hb2.block b (Nat.lt_of_lt_of_le hD hlow)).symm⟩
        refine (stmts_any l f w6 lo rb S5 Z5 { p with exprs := es1 } b6.x (kids.drop 2) _ hi6 HKD1.out HDL.out IH.out HADD.out (HCE1.out es1 HES.out) HCS1.out).mono ?_
        rintro e w7 he
        simp only at he
        rw [HPS.out] at he
        obtain ⟨rfl, hBp⟩ := he
        exact ⟨rfl, SP.no HA.out ((RStep.below H.out b6.s).trans hBp)⟩
    · simp only [bodyS, hpp] at hA
      have HA := hid hA; have HPP := hid hpp
      clear hA hpp
      go_wp2_with (first | (go_at_call 41; refine (name_yes l rb _ _ (by exact HB0.out.x.rf) k0 hk0l HNO.out).mono ?_; rintro e w3 ⟨rfl, hb3⟩; rw [HNM.out]; have b1 := HB0.out.below hb3; have z0 := blk_cell b1.blk 0; have z1 := blk_cell b1.blk 1; have zf := blk_free b1.blk; have d1 := (World.cell?_of_block (a := ⟨kb, ko + 1, none⟩) ((b1.old H.out hkD).trans (hb2.block kb (Nat.lt_of_lt_of_le hkD hlow)).symm)).trans hc1; have hkn : kb ≠ w2.heap.size := (by omega); have HB1 := hid b1; clear b1 hb3))
      have b2 := (HB1.out.set 0 (.int .u8 7) #[.int .u8 7, .string ⟨#[]⟩, .int .u8 0, .int .i64 (-1), .int .i64 (-1), .slice none 0 0, .slice none 0 0, .slice none 0 0] (by rfl)).set 1 (.string nm) #[.int .u8 7, .string nm, .int .u8 0, .int .i64 (-1), .int .i64 (-1), .slice none 0 0, .slice none 0 0, .slice none 0 0] (by rfl)
      generalize (w3.setCell ⟨w2.heap.size, 0, none⟩ (.int .u8 7)).setCell ⟨w2.heap.size, 1, none⟩ (.string nm) = w4 at b2 ⊢
      refine (expr_any l hwf f k1 w4 lo rb S Z p hk1l hk1f b2.x hce).mono ?_
      rintro e w5 he
      rw [HPP.out] at he
      obtain ⟨rfl, hBp⟩ := he
      exact ⟨rfl, SP.no HA.out ((RStep.below H.out b2.s).trans hBp)⟩
  · rw [if_neg hno] at hA
    have hno' : nameOk l (k0 : Int) = false := by simpa using hno
    have HNO := hid hno'; have HA := hid hA
    clear hno hno' hA
    go_wp2_with (go_at_call 41; refine (name_no l rb _ _ (by exact HB0.out.x.rf) k0 hk0l HNO.out).mono ?_; rintro e w3 ⟨rfl, hb3⟩)
    exact ⟨rfl, SP.no HA.out ((RStep.below H.out HB0.out.s).trans (hb3.mono HB0.out.x.size.2))⟩
end Go.Proofs.Ytgaginegcjpddaa
/- The program's reader of forms: fold. (printed by gen_fold.py) -/
namespace Go.Proofs.Ytgaginegcjpddaa
open Go.RowKit
def foldS (l : List Form) (f : Nat) (n : Int) (kids : List Int) (s : ESt) : (Int × ESt) ⊕ Wr :=
  if takingOk l (nth kids 1) then
    if nameOk l (nth kids 0) then
      match partsS l f (kids.drop 2) s.1 with
      | .inr e => .inr e
      | .inl ((e, c), es1) => addS (es1, s.2) { stmt0 with kind := 2, name := (fm l (nth kids 0)).text, op := takingOp l (nth kids 1), e := e, cond := c }
    else .inr (wrongS l (nth kids 0))
  else .inr (wrongS l n)
set_option maxHeartbeats 4000000 in
set_option maxRecDepth 100000 in
theorem stmt_fold (l : List Form) (hwf : WF l) (f : Nat) (w : World) (lo rb : Nat) (S : Nat → Value) (Z : Nat → Prop) (p : Prg) (h : RX w l lo rb S Z p) (n : Nat) (hn : n < l.length) (hkr : ∀ k ∈ tailK l (n : Int), Kin l f k) (hcnt : p.exprs.length + cntL l f (tailK l (n : Int)) ≤ 99999) (hcs : p.stmts.length ≤ 99999)
    (hsp : splitOk l (n : Int) = true) (hw : headW l (n : Int) = wFold) (hc : (tailK l (n : Int)).length = 3 ∨ (tailK l (n : Int)).length = 4) :
    Calls Try.prog 39 #[.pointer (some ⟨rb, 0, none⟩), .int .i64 (n : Int)] w (SP w l lo rb S Z p (foldS l f (n : Int) (tailK l (n : Int)) (p.exprs, p.stmts))) := by
  obtain ⟨kids, hkd⟩ : ∃ kids, tailK l (n : Int) = kids := ⟨_, rfl⟩
  rw [hkd] at hkr hcnt hc ⊢
  generalize hgr : foldS l f (n : Int) kids (p.exprs, p.stmts) = R
  have hA := hgr.symm
  have hlow := h.size.2
  have H := hid h; have HSP := hid hsp; have HW := hid hw; have HKD := hid hkd; have HKR := hid hkr; have HC := hid hc
  have HRR := hid hA
  clear h hsp hw hkd hkr hgr hA hc
  go_enter Try.func39, Try.ntmps39
  go_upto_region 2 with (go_at_call 37; refine (split_yes l hwf rb _ _ (by exact H.out.rf) n hn HSP.out).mono ?_; rintro e w2 ⟨tv, rfl, htv, hb2⟩; rw [HW.out]; rw [HKD.out] at htv)
  have hX2 := H.out.below hb2
  have hS2 := RStep.of_below (rb := rb) (S := S) (Z := Z) hb2
  have hz2 := hb2.size
  have hl2 : 3 ≤ kids.length ∧ kids.length ≤ 4 := by have := HC.out; omega
  obtain ⟨kb, ko, kc, rfl, hle, hcap, hkD, hkb, hc0⟩ := htv.at_ 0 (by omega)
  obtain ⟨kb1, ko1, kc1, he1, _, _, _, _, hc1⟩ := htv.at_ 1 (by omega)
  simp only [Value.slice.injEq] at he1
  obtain ⟨he1, _, rfl⟩ := he1
  cases he1
  obtain ⟨k0, hk0, hk0l, hk0f⟩ := HKR.out _ (nth_mem (i := 0) (by omega))
  obtain ⟨k1, hk1, hk1l, hk1f⟩ := HKR.out _ (nth_mem (i := 1) (by omega))
  rw [hk0, Nat.add_zero] at hc0
  rw [hk1] at hc1
  have hi0 : (0 : Int) < (kids.length : Int) := by omega
  have hi1 : (1 : Int) < (kids.length : Int) := by omega
  have hcb : Hid (((kids.length : Int) == 3) = true ∨ (((kids.length : Int) == 3) = false ∧ ((kids.length : Int) == 4) = true)) := hid (by
    have := HC.out
    rcases this with h | h
    · exact .inl (by rw [beq_iff_eq]; omega)
    · exact .inr ⟨by rw [beq_eq_false_iff_ne]; omega, by rw [beq_iff_eq]; omega⟩)
  have hw0 : (wFold.toList == [115, 101, 116]) = false := by rw [ByteArray.toList_eq]; rfl
  have hw1 : (wFold.toList == [102, 111, 108, 100]) = true := by rw [ByteArray.toList_eq]; rfl
  have hw2 : (wFold.toList == [101, 97, 99, 104]) = false := by rw [ByteArray.toList_eq]; rfl
  have hw3 : (wFold.toList == [105, 102]) = false := by rw [ByteArray.toList_eq]; rfl
  have hw4 : (wFold.toList == [119, 104, 105, 108, 101]) = false := by rw [ByteArray.toList_eq]; rfl
  have hw5 : (wFold.toList == [108, 111, 111, 112]) = false := by rw [ByteArray.toList_eq]; rfl
  have hw6 : (wFold.toList == [98, 102, 115]) = false := by rw [ByteArray.toList_eq]; rfl
  have hsl := fun W => slice_from W kb ko kids.length kc 2 (by omega) hle 2 rfl
  have hif : Ints w2 (fun b => b < lo) (fromV kb ko kids.length kc 2) (kids.drop 2) := htv.from (by omega)
  have hkd1 : ∀ k ∈ kids.drop 2, Kin l f k := fun k hk => HKR.out k (List.mem_of_mem_drop hk)
  have hdl : 0 < (kids.drop 2).length := by rw [List.length_drop]; omega
  have hcnl : p.exprs.length + cntL l f (kids.drop 2) ≤ 99999 := by have := cntL_drop l f kids 2; omega
  have hA := HRR.out
  unfold foldS at hA
  rw [hk0, hk1] at hA
  have hkb2 : kb < w2.heap.size := hkb
  have hb0 := BX.new hX2 hS2 #[.int .u8 0, .string ⟨#[]⟩, .int .u8 0, .int .i64 (-1), .int .i64 (-1), .slice none 0 0, .slice none 0 0, .slice none 0 0] 77
  have HX2 := hid hX2; have HB0 := hid hb0; have HIF := hid hif; have HKD1 := hid hkd1; have HDL := hid hdl; have HCN := hid hcnl
  clear hX2 hS2 hk0 hk1 hb0 htv hcnt hif hkd1 hdl hcnl hl2 HC
  obtain ⟨op, hop⟩ : ∃ op, takingOp l (k1 : Int) = op := ⟨_, rfl⟩
  rw [hop] at hA
  have HOP := hid hop
  clear hop
  by_cases htk : takingOk l (k1 : Int) = true
  · rw [if_pos htk] at hA
    have HTK := hid htk
    clear htk
    by_cases hno : nameOk l (k0 : Int) = true
    · rw [if_pos hno] at hA
      obtain ⟨nm, hnm⟩ : ∃ nm, (fm l (k0 : Int)).text = nm := ⟨_, rfl⟩
      rw [hnm] at hA
      have HNM := hid hnm; have HNO := hid hno
      clear hnm hno
      rcases hpp : partsS l f (kids.drop 2) p.exprs with ⟨⟨ev, cv⟩, es1⟩ | wr
      · simp only [hpp, addS] at hA
        obtain ⟨s1, hs1⟩ : ∃ s1 : ESt, s1 = (es1, p.stmts) := ⟨_, rfl⟩
        have hs1l : s1.2.length ≤ 99999 := by rw [hs1]; exact hcs
        have HA := hid hA; have HPP := hid hpp; have HS1 := hid hs1
        clear hA hpp hs1
        rcases hcb.out with hc3 | ⟨hc3, hc4⟩
        all_goals
          go_wp2_with fail
          refine (taking_any l rb _ _ (by exact HB0.out.x.rf) n k1 hn hk1l).mono ?_
          rintro e w3 ⟨he, hb3⟩
          unfold TakeP at he
          rw [if_pos HTK.out, HOP.out] at he
          subst he
          have b1 := HB0.out.below hb3
          have z0 := blk_cell b1.blk 0; have z2 := blk_cell b1.blk 2; have zf := blk_free b1.blk
          have d0 := (World.cell?_of_block (a := ⟨kb, ko, none⟩) ((b1.old H.out hkD).trans (hb2.block kb (Nat.lt_of_lt_of_le hkD hlow)).symm)).trans hc0
          have hkn : kb ≠ w2.heap.size := (by omega)
          have HB1 := hid b1
          clear b1 hb3
          go_wp2_with fail
          have b2 := (HB1.out.set 0 (.int .u8 2) #[.int .u8 2, .string ⟨#[]⟩, .int .u8 0, .int .i64 (-1), .int .i64 (-1), .slice none 0 0, .slice none 0 0, .slice none 0 0] (by rfl)).set 2 (.int .u8 op) #[.int .u8 2, .string ⟨#[]⟩, .int .u8 op, .int .i64 (-1), .int .i64 (-1), .slice none 0 0, .slice none 0 0, .slice none 0 0] (by rfl)
          generalize (w3.setCell ⟨w2.heap.size, 0, none⟩ (.int .u8 2)).setCell ⟨w2.heap.size, 2, none⟩ (.int .u8 op) = w4 at b2 ⊢
          refine (name_yes l rb _ _ (by exact b2.x.rf) k0 hk0l HNO.out).mono ?_
          rintro e w5 ⟨rfl, hb5⟩
          rw [HNM.out]
          have b3 := b2.below hb5
          have z1 := blk_cell b3.blk 1; have zf := blk_free b3.blk
          have HB3 := hid b3
          clear b2 b3 hb5 z0 z2 d0
          go_wp2_with fail
          have b4 := HB3.out.set 1 (.string nm) #[.int .u8 2, .string nm, .int .u8 op, .int .i64 (-1), .int .i64 (-1), .slice none 0 0, .slice none 0 0, .slice none 0 0] (by rfl)
          generalize w5.setCell ⟨w2.heap.size, 1, none⟩ (.string nm) = w6 at b4 ⊢
          have hi6 : Ints w6 (fun b => b < lo) (fromV kb ko kids.length kc 2) (kids.drop 2) := HIF.out.imp fun b hD hlt => ⟨hD, (b4.old H.out hD).trans (hb2.block b (Nat.lt_of_lt_of_le hD hlow)).symm⟩
          refine (parts_any l hwf f w6 lo rb S Z p b4.x (kids.drop 2) _ hi6 HDL.out HKD1.out HCN.out).mono ?_
          rintro e w7 he
          rw [HPP.out] at he
          obtain ⟨rfl, S9, Z9, hX7, hSt7⟩ := he
          have b7 := b4.step hX7 hSt7
          have z3 := blk_cell b7.blk 3; have z4 := blk_cell b7.blk 4; have zf := blk_free b7.blk
          have HB7 := hid b7
          clear b4 b7 hX7 hSt7 hi6 z1
          go_upto_region 34 with fail
          have b8 := (HB7.out.set 3 (.int .i64 ev) #[.int .u8 2, .string nm, .int .u8 op, .int .i64 ev, .int .i64 (-1), .slice none 0 0, .slice none 0 0, .slice none 0 0] (by rfl)).set 4 (.int .i64 cv) #[.int .u8 2, .string nm, .int .u8 op, .int .i64 ev, .int .i64 cv, .slice none 0 0, .slice none 0 0, .slice none 0 0] (by rfl)
          generalize (w7.setCell ⟨w2.heap.size, 3, none⟩ (.int .i64 ev)).setCell ⟨w2.heap.size, 4, none⟩ (.int .i64 cv) = w9 at b8 ⊢
          have hHA := HA.out
          have b9 : BX w w9 l lo rb S Z S9 Z9 { p with exprs := s1.1, stmts := s1.2 } w2.heap.size 77 #[.int .u8 2, .string nm, .int .u8 op, .int .i64 ev, .int .i64 cv, .slice none 0 0, .slice none 0 0, .slice none 0 0] := by rw [HS1.out]; exact b8
          have e1 : es1 = s1.1 := by rw [HS1.out]
          have e2 : p.stmts = s1.2 := by rw [HS1.out]
          rw [e1, e2] at hHA
          have HA := hid hHA
          clear hHA b8 e1 e2
          have hsl := b9.x.size.1
          obtain ⟨fv, hb, _⟩ := b9.x.blk
          have hV : StmtV w9 Z9 { stmt0 with kind := 2, name := nm, op := op, e := ev, cond := cv } (PStmt.cells { stmt0 with kind := 2, name := nm, op := op, e := ev, cond := cv } (.slice none 0 0) (.slice none 0 0) (.slice none 0 0)) := ⟨_, _, _, rfl, Row.nil _ _ _ _, Row.nil _ _ _ _, Row.nil _ _ _ _⟩
          refine wp_push2 pt_stmts (by kernel_rfl) 0 234 _ (by kernel_rfl) (by rfl) (by rfl) (by rfl) (by omega) (R := StmtV w9 Z9) rb 0 (S9 2) (.agg #[.int .u8 2, .string nm, .int .u8 op, .int .i64 ev, .int .i64 cv, .slice none 0 0, .slice none 0 0, .slice none 0 0]) (PStmt.cells { stmt0 with kind := 2, name := nm, op := op, e := ev, cond := cv } (.slice none 0 0) (.slice none 0 0) (.slice none 0 0)) s1.2 { stmt0 with kind := 2, name := nm, op := op, e := ev, cond := cv } rfl (blk_cell hb 3) (blk_free hb 3) (fun e => (b9.x.low 2 rb e).2.1 rfl) b9.x.stmts ?el ?bs hV rfl (by simp [PStmt.cells, Value.oneCell']) (by omega) (by omega) ?q
          case el =>
            intro a w' o6 ho hFr hgr
            have hbb := (hgr.block w2.heap.size (blk_lt b9.blk) (fun e => b9.nr (.inr ⟨2, e.symm⟩))).trans b9.blk
            have hc := blk_cell hbb
            have ht : a.tmps.getD 7 undef = _ := hFr.get 7 (by rfl)
            simp only [Array.getD_eq_getD_getElem?] at ht
            simp [execOp, ho, go_sem, Act.eval, ht, hc, PStmt.cells]
          case bs => intro w'; simp [go_sem, PStmt.cells, stmt0]
          case q =>
            intro B g cap w1 hG
            obtain ⟨h2, h3⟩ := b9.x.pushS hG
            have h4 := b9.s.trans h3
            simp only [pushAct2, Nat.add_zero, Nat.zero_add, Nat.reduceAdd]
            generalize w1.setCell ⟨rb, 3, none⟩ (.slice (some ⟨g, 0, none⟩) (s1.2.length + 1) cap) = wz at h2 h4 ⊢
            obtain ⟨fv2, hb2, _⟩ := h2.blk
            simp only [up] at hb2
            have q := blk_cell hb2 3
            have hl2 : (s1.2.length : Int) + 1 ≤ 200000 := by omega
            have H2 := hid h2; have H4 := hid h4
            clear h2 h4 h3 hG b9 hV hb hb2
            go_wp2
            go_ret
            exact SP.ok HA.out H2.out H4.out
      · simp only [hpp] at hA
        have HA := hid hA; have HPP := hid hpp
        clear hA hpp
        rcases hcb.out with hc3 | ⟨hc3, hc4⟩
        all_goals
          go_wp2_with fail
          refine (taking_any l rb _ _ (by exact HB0.out.x.rf) n k1 hn hk1l).mono ?_
          rintro e w3 ⟨he, hb3⟩
          unfold TakeP at he
          rw [if_pos HTK.out, HOP.out] at he
          subst he
          have b1 := HB0.out.below hb3
          have z0 := blk_cell b1.blk 0; have z2 := blk_cell b1.blk 2; have zf := blk_free b1.blk
          have d0 := (World.cell?_of_block (a := ⟨kb, ko, none⟩) ((b1.old H.out hkD).trans (hb2.block kb (Nat.lt_of_lt_of_le hkD hlow)).symm)).trans hc0
          have hkn : kb ≠ w2.heap.size := (by omega)
          have HB1 := hid b1
          clear b1 hb3
          go_wp2_with fail
          have b2 := (HB1.out.set 0 (.int .u8 2) #[.int .u8 2, .string ⟨#[]⟩, .int .u8 0, .int .i64 (-1), .int .i64 (-1), .slice none 0 0, .slice none 0 0, .slice none 0 0] (by rfl)).set 2 (.int .u8 op) #[.int .u8 2, .string ⟨#[]⟩, .int .u8 op, .int .i64 (-1), .int .i64 (-1), .slice none 0 0, .slice none 0 0, .slice none 0 0] (by rfl)
          generalize (w3.setCell ⟨w2.heap.size, 0, none⟩ (.int .u8 2)).setCell ⟨w2.heap.size, 2, none⟩ (.int .u8 op) = w4 at b2 ⊢
          refine (name_yes l rb _ _ (by exact b2.x.rf) k0 hk0l HNO.out).mono ?_
          rintro e w5 ⟨rfl, hb5⟩
          rw [HNM.out]
          have b3 := b2.below hb5
          have z1 := blk_cell b3.blk 1; have zf := blk_free b3.blk
          have HB3 := hid b3
          clear b2 b3 hb5 z0 z2 d0
          go_wp2_with fail
          have b4 := HB3.out.set 1 (.string nm) #[.int .u8 2, .string nm, .int .u8 op, .int .i64 (-1), .int .i64 (-1), .slice none 0 0, .slice none 0 0, .slice none 0 0] (by rfl)
          generalize w5.setCell ⟨w2.heap.size, 1, none⟩ (.string nm) = w6 at b4 ⊢
          have hi6 : Ints w6 (fun b => b < lo) (fromV kb ko kids.length kc 2) (kids.drop 2) := HIF.out.imp fun b hD hlt => ⟨hD, (b4.old H.out hD).trans (hb2.block b (Nat.lt_of_lt_of_le hD hlow)).symm⟩
          refine (parts_any l hwf f w6 lo rb S Z p b4.x (kids.drop 2) _ hi6 HDL.out HKD1.out HCN.out).mono ?_
          rintro e w7 he
          rw [HPP.out] at he
          obtain ⟨rfl, hBp⟩ := he
          exact ⟨rfl, SP.no HA.out ((RStep.below H.out b4.s).trans hBp)⟩
    · rw [if_neg hno] at hA
      have hno' : nameOk l (k0 : Int) = false := by simpa using hno
      have HNO := hid hno'; have HA := hid hA
      clear hno hno' hA
      rcases hcb.out with hc3 | ⟨hc3, hc4⟩
      all_goals
        go_wp2_with fail
        refine (taking_any l rb _ _ (by exact HB0.out.x.rf) n k1 hn hk1l).mono ?_
        rintro e w3 ⟨he, hb3⟩
        unfold TakeP at he
        rw [if_pos HTK.out, HOP.out] at he
        subst he
        have b1 := HB0.out.below hb3
        have z0 := blk_cell b1.blk 0; have z2 := blk_cell b1.blk 2; have zf := blk_free b1.blk
        have d0 := (World.cell?_of_block (a := ⟨kb, ko, none⟩) ((b1.old H.out hkD).trans (hb2.block kb (Nat.lt_of_lt_of_le hkD hlow)).symm)).trans hc0
        have hkn : kb ≠ w2.heap.size := (by omega)
        have HB1 := hid b1
        clear b1 hb3
        go_wp2_with fail
        have b2 := (HB1.out.set 0 (.int .u8 2) #[.int .u8 2, .string ⟨#[]⟩, .int .u8 0, .int .i64 (-1), .int .i64 (-1), .slice none 0 0, .slice none 0 0, .slice none 0 0] (by rfl)).set 2 (.int .u8 op) #[.int .u8 2, .string ⟨#[]⟩, .int .u8 op, .int .i64 (-1), .int .i64 (-1), .slice none 0 0, .slice none 0 0, .slice none 0 0] (by rfl)
        generalize (w3.setCell ⟨w2.heap.size, 0, none⟩ (.int .u8 2)).setCell ⟨w2.heap.size, 2, none⟩ (.int .u8 op) = w4 at b2 ⊢
        refine (name_no l rb _ _ (by exact b2.x.rf) k0 hk0l HNO.out).mono ?_
        rintro e w5 ⟨rfl, hb5⟩
        exact ⟨rfl, SP.no HA.out ((RStep.below H.out b2.s).trans (hb5.mono b2.x.size.2))⟩
  · rw [if_neg htk] at hA
    have HTK := hid htk; have HA := hid hA
    clear htk hA
    rcases hcb.out with hc3 | ⟨hc3, hc4⟩
    all_goals
      go_wp2_with fail
      refine (taking_any l rb _ _ (by exact HB0.out.x.rf) n k1 hn hk1l).mono ?_
      rintro e w3 ⟨he, hb3⟩
      unfold TakeP at he
      rw [if_neg HTK.out] at he
      subst he
      exact ⟨rfl, SP.no HA.out ((RStep.below H.out HB0.out.s).trans (hb3.mono HB0.out.x.size.2))⟩
end Go.Proofs.Ytgaginegcjpddaa
/- The program's reader of forms: what is no statement. (printed by gen_bad.py) -/
namespace Go.Proofs.Ytgaginegcjpddaa
open Go.RowKit
set_option maxHeartbeats 1600000 in
set_option maxRecDepth 100000 in
/-- by the word's tests -/
theorem stmt_bad0 (l : List Form) (hwf : WF l) (w : World) (lo rb : Nat) (S : Nat → Value) (Z : Nat → Prop) (p : Prg) (h : RX w l lo rb S Z p) (n : Nat) (hn : n < l.length) (hsp : splitOk l (n : Int) = true) (s : ByteArray) (kids : List Int) (hs : headW l (n : Int) = s) (hkd : tailK l (n : Int) = kids)
    (hq : Hid (((s.toList == [115, 101, 116]) = true ∧ (s.toList == [102, 111, 108, 100]) = false ∧ (s.toList == [101, 97, 99, 104]) = false ∧ (s.toList == [105, 102]) = false ∧ (s.toList == [119, 104, 105, 108, 101]) = false ∧ (s.toList == [108, 111, 111, 112]) = false ∧ (s.toList == [98, 102, 115]) = false ∧ ((kids.length : Int) == 2) = false) ∨
      ((s.toList == [115, 101, 116]) = false ∧ (s.toList == [102, 111, 108, 100]) = true ∧ (s.toList == [101, 97, 99, 104]) = false ∧ (s.toList == [105, 102]) = false ∧ (s.toList == [119, 104, 105, 108, 101]) = false ∧ (s.toList == [108, 111, 111, 112]) = false ∧ (s.toList == [98, 102, 115]) = false ∧ ((kids.length : Int) == 3) = false ∧ ((kids.length : Int) == 4) = false) ∨
      ((s.toList == [115, 101, 116]) = false ∧ (s.toList == [102, 111, 108, 100]) = false ∧ (s.toList == [101, 97, 99, 104]) = true ∧ (s.toList == [105, 102]) = false ∧ (s.toList == [119, 104, 105, 108, 101]) = false ∧ (s.toList == [108, 111, 111, 112]) = false ∧ (s.toList == [98, 102, 115]) = false ∧ ¬ ((1 : Int) ≤ (kids.length : Int))) ∨
      ((s.toList == [115, 101, 116]) = false ∧ (s.toList == [102, 111, 108, 100]) = false ∧ (s.toList == [101, 97, 99, 104]) = true ∧ (s.toList == [105, 102]) = false ∧ (s.toList == [119, 104, 105, 108, 101]) = false ∧ (s.toList == [108, 111, 111, 112]) = false ∧ (s.toList == [98, 102, 115]) = false ∧ (1 : Int) ≤ (kids.length : Int) ∧ ¬ ((kids.length : Int) ≤ 6)) ∨
      ((s.toList == [115, 101, 116]) = false ∧ (s.toList == [102, 111, 108, 100]) = false ∧ (s.toList == [101, 97, 99, 104]) = false ∧ (s.toList == [105, 102]) = true ∧ (s.toList == [119, 104, 105, 108, 101]) = false ∧ (s.toList == [108, 111, 111, 112]) = false ∧ (s.toList == [98, 102, 115]) = false ∧ ((kids.length : Int) == 3) = false) ∨
      ((s.toList == [115, 101, 116]) = false ∧ (s.toList == [102, 111, 108, 100]) = false ∧ (s.toList == [101, 97, 99, 104]) = false ∧ (s.toList == [105, 102]) = false ∧ (s.toList == [119, 104, 105, 108, 101]) = true ∧ (s.toList == [108, 111, 111, 112]) = false ∧ (s.toList == [98, 102, 115]) = false ∧ ¬ ((1 : Int) ≤ (kids.length : Int))) ∨
      ((s.toList == [115, 101, 116]) = false ∧ (s.toList == [102, 111, 108, 100]) = false ∧ (s.toList == [101, 97, 99, 104]) = false ∧ (s.toList == [105, 102]) = false ∧ (s.toList == [119, 104, 105, 108, 101]) = false ∧ (s.toList == [108, 111, 111, 112]) = true ∧ (s.toList == [98, 102, 115]) = false ∧ ¬ ((1 : Int) ≤ (kids.length : Int))) ∨
      ((s.toList == [115, 101, 116]) = false ∧ (s.toList == [102, 111, 108, 100]) = false ∧ (s.toList == [101, 97, 99, 104]) = false ∧ (s.toList == [105, 102]) = false ∧ (s.toList == [119, 104, 105, 108, 101]) = false ∧ (s.toList == [108, 111, 111, 112]) = false ∧ (s.toList == [98, 102, 115]) = true ∧ ¬ ((2 : Int) ≤ (kids.length : Int))) ∨
      ((s.toList == [115, 101, 116]) = false ∧ (s.toList == [102, 111, 108, 100]) = false ∧ (s.toList == [101, 97, 99, 104]) = false ∧ (s.toList == [105, 102]) = false ∧ (s.toList == [119, 104, 105, 108, 101]) = false ∧ (s.toList == [108, 111, 111, 112]) = false ∧ (s.toList == [98, 102, 115]) = false)))
    (r : (Int × ESt) ⊕ Wr) (hr : r = .inr (wrongS l (n : Int))) :
    Calls Try.prog 39 #[.pointer (some ⟨rb, 0, none⟩), .int .i64 (n : Int)] w (SP w l lo rb S Z p r) := by
  have hlow := h.size.2
  have H := hid h; have HSP := hid hsp; have HS := hid hs; have HKD := hid hkd; have HR := hid hr
  clear h hsp hs hkd hr
  go_enter Try.func39, Try.ntmps39
  go_upto_region 2 with (go_at_call 37; refine (split_yes l hwf rb _ _ (by exact H.out.rf) n hn HSP.out).mono ?_; rintro e w2 ⟨tv, rfl, htv, hb2⟩; rw [HS.out]; rw [HKD.out] at htv)
  have hX2 := H.out.below hb2
  have hS2 := RStep.of_below (rb := rb) (S := S) (Z := Z) hb2
  obtain ⟨TA, tc, rfl, _, _⟩ := htv.slice
  have hb0 := BX.new hX2 hS2 #[.int .u8 0, .string ⟨#[]⟩, .int .u8 0, .int .i64 (-1), .int .i64 (-1), .slice none 0 0, .slice none 0 0, .slice none 0 0] 77
  have HB0 := hid hb0
  clear hX2 hS2 htv hb2 hb0 HSP HS HKD
  rcases hq.out with ⟨q0, q1, q2, q3, q4, q5, q6, q7⟩ | ⟨q0, q1, q2, q3, q4, q5, q6, q7, q8⟩ | ⟨q0, q1, q2, q3, q4, q5, q6, q7⟩ | ⟨q0, q1, q2, q3, q4, q5, q6, q7, q8⟩ | ⟨q0, q1, q2, q3, q4, q5, q6, q7⟩ | ⟨q0, q1, q2, q3, q4, q5, q6, q7⟩ | ⟨q0, q1, q2, q3, q4, q5, q6, q7⟩ | ⟨q0, q1, q2, q3, q4, q5, q6, q7⟩ | ⟨q0, q1, q2, q3, q4, q5, q6⟩
  all_goals
    go_wp2_with (go_at_call 67; refine (refuse_any l rb _ _ (by exact HB0.out.x.rf) n hn).mono ?_; rintro e w3 ⟨rfl, hww⟩; subst hww)
    exact ⟨rfl, SP.no HR.out (RStep.below H.out HB0.out.s)⟩
end Go.Proofs.Ytgaginegcjpddaa
/- The program's reader of forms: what is no statement, by its kind. (printed by gen_bad2.py) -/
namespace Go.Proofs.Ytgaginegcjpddaa
open Go.RowKit
set_option maxHeartbeats 1600000 in
theorem stmt_bad (l : List Form) (hwf : WF l) (w : World) (lo rb : Nat) (S : Nat → Value) (Z : Nat → Prop) (p : Prg) (h : RX w l lo rb S Z p) (n : Nat) (hn : n < l.length) (hsp : splitOk l (n : Int) = true) (hK : stmtK (headW l (n : Int)) (tailK l (n : Int)).length = 0)
    (r : (Int × ESt) ⊕ Wr) (hr : r = .inr (wrongS l (n : Int))) :
    Calls Try.prog 39 #[.pointer (some ⟨rb, 0, none⟩), .int .i64 (n : Int)] w (SP w l lo rb S Z p r) := by
  obtain ⟨s, hs⟩ : ∃ s, headW l (n : Int) = s := ⟨_, rfl⟩
  obtain ⟨kids, hkd⟩ : ∃ kids, tailK l (n : Int) = kids := ⟨_, rfl⟩
  refine stmt_bad0 l hwf w lo rb S Z p h n hn hsp s kids hs hkd (hid ?_) r hr
  rw [hs, hkd] at hK
  clear hs hkd hsp
  have b0 : (s.toList == [115, 101, 116]) = decide (s = wSet) := by have := str_eq s wSet; rwa [show wSet.toList = [115, 101, 116] by rw [ByteArray.toList_eq]; rfl] at this
  have b1 : (s.toList == [102, 111, 108, 100]) = decide (s = wFold) := by have := str_eq s wFold; rwa [show wFold.toList = [102, 111, 108, 100] by rw [ByteArray.toList_eq]; rfl] at this
  have b2 : (s.toList == [101, 97, 99, 104]) = decide (s = wEach) := by have := str_eq s wEach; rwa [show wEach.toList = [101, 97, 99, 104] by rw [ByteArray.toList_eq]; rfl] at this
  have b3 : (s.toList == [105, 102]) = decide (s = wIf) := by have := str_eq s wIf; rwa [show wIf.toList = [105, 102] by rw [ByteArray.toList_eq]; rfl] at this
  have b4 : (s.toList == [119, 104, 105, 108, 101]) = decide (s = wWhile) := by have := str_eq s wWhile; rwa [show wWhile.toList = [119, 104, 105, 108, 101] by rw [ByteArray.toList_eq]; rfl] at this
  have b5 : (s.toList == [108, 111, 111, 112]) = decide (s = wLoop) := by have := str_eq s wLoop; rwa [show wLoop.toList = [108, 111, 111, 112] by rw [ByteArray.toList_eq]; rfl] at this
  have b6 : (s.toList == [98, 102, 115]) = decide (s = wBfs) := by have := str_eq s wBfs; rwa [show wBfs.toList = [98, 102, 115] by rw [ByteArray.toList_eq]; rfl] at this
  rw [b0, b1, b2, b3, b4, b5, b6]
  clear b0 b1 b2 b3 b4 b5 b6
  unfold stmtK at hK
  by_cases g0 : s = wSet
  · subst g0
    have hl : ¬ (kids.length = 2) := fun e => by rw [if_pos ⟨rfl, e⟩] at hK; omega
    exact .inl ⟨by decide, by decide, by decide, by decide, by decide, by decide, by decide, by rw [beq_eq_false_iff_ne]; omega⟩
  by_cases g1 : s = wFold
  · subst g1
    rw [if_neg (fun e => absurd e.1 (by decide : ¬ wFold = wSet))] at hK
    have hl : ¬ ((kids.length = 3 ∨ kids.length = 4)) := fun e => by rw [if_pos ⟨rfl, e⟩] at hK; omega
    exact .inr (.inl ⟨by decide, by decide, by decide, by decide, by decide, by decide, by decide, by rw [beq_eq_false_iff_ne]; omega, by rw [beq_eq_false_iff_ne]; omega⟩)
  by_cases g2 : s = wEach
  · subst g2
    rw [if_neg (fun e => absurd e.1 (by decide : ¬ wEach = wSet))] at hK
    rw [if_neg (fun e => absurd e.1 (by decide : ¬ wEach = wFold))] at hK
    have hl : ¬ (1 ≤ kids.length ∧ kids.length ≤ 6) := fun e => by rw [if_pos ⟨rfl, e⟩] at hK; omega
    by_cases h1 : 1 ≤ kids.length
    · exact .inr (.inr (.inr (.inl ⟨by decide, by decide, by decide, by decide, by decide, by decide, by decide, by omega, by omega⟩)))
    · exact .inr (.inr (.inl ⟨by decide, by decide, by decide, by decide, by decide, by decide, by decide, by omega⟩))
  by_cases g3 : s = wIf
  · subst g3
    rw [if_neg (fun e => absurd e.1 (by decide : ¬ wIf = wSet))] at hK
    rw [if_neg (fun e => absurd e.1 (by decide : ¬ wIf = wFold))] at hK
    rw [if_neg (fun e => absurd e.1 (by decide : ¬ wIf = wEach))] at hK
    have hl : ¬ (kids.length = 3) := fun e => by rw [if_pos ⟨rfl, e⟩] at hK; omega
    exact .inr (.inr (.inr (.inr (.inl ⟨by decide, by decide, by decide, by decide, by decide, by decide, by decide, by rw [beq_eq_false_iff_ne]; omega⟩))))
  by_cases g4 : s = wWhile
  · subst g4
    rw [if_neg (fun e => absurd e.1 (by decide : ¬ wWhile = wSet))] at hK
    rw [if_neg (fun e => absurd e.1 (by decide : ¬ wWhile = wFold))] at hK
    rw [if_neg (fun e => absurd e.1 (by decide : ¬ wWhile = wEach))] at hK
    rw [if_neg (fun e => absurd e.1 (by decide : ¬ wWhile = wIf))] at hK
    have hl : ¬ (1 ≤ kids.length) := fun e => by rw [if_pos ⟨rfl, e⟩] at hK; omega
    exact .inr (.inr (.inr (.inr (.inr (.inl ⟨by decide, by decide, by decide, by decide, by decide, by decide, by decide, by omega⟩)))))
  by_cases g5 : s = wLoop
  · subst g5
    rw [if_neg (fun e => absurd e.1 (by decide : ¬ wLoop = wSet))] at hK
    rw [if_neg (fun e => absurd e.1 (by decide : ¬ wLoop = wFold))] at hK
    rw [if_neg (fun e => absurd e.1 (by decide : ¬ wLoop = wEach))] at hK
    rw [if_neg (fun e => absurd e.1 (by decide : ¬ wLoop = wIf))] at hK
    rw [if_neg (fun e => absurd e.1 (by decide : ¬ wLoop = wWhile))] at hK
    have hl : ¬ (1 ≤ kids.length) := fun e => by rw [if_pos ⟨rfl, e⟩] at hK; omega
    exact .inr (.inr (.inr (.inr (.inr (.inr (.inl ⟨by decide, by decide, by decide, by decide, by decide, by decide, by decide, by omega⟩))))))
  by_cases g6 : s = wBfs
  · subst g6
    rw [if_neg (fun e => absurd e.1 (by decide : ¬ wBfs = wSet))] at hK
    rw [if_neg (fun e => absurd e.1 (by decide : ¬ wBfs = wFold))] at hK
    rw [if_neg (fun e => absurd e.1 (by decide : ¬ wBfs = wEach))] at hK
    rw [if_neg (fun e => absurd e.1 (by decide : ¬ wBfs = wIf))] at hK
    rw [if_neg (fun e => absurd e.1 (by decide : ¬ wBfs = wWhile))] at hK
    rw [if_neg (fun e => absurd e.1 (by decide : ¬ wBfs = wLoop))] at hK
    have hl : ¬ (2 ≤ kids.length) := fun e => by rw [if_pos ⟨rfl, e⟩] at hK; omega
    exact .inr (.inr (.inr (.inr (.inr (.inr (.inr (.inl ⟨by decide, by decide, by decide, by decide, by decide, by decide, by decide, by omega⟩)))))))
  exact .inr (.inr (.inr (.inr (.inr (.inr (.inr (.inr (⟨decide_eq_false g0, decide_eq_false g1, decide_eq_false g2, decide_eq_false g3, decide_eq_false g4, decide_eq_false g5, decide_eq_false g6⟩))))))))
end Go.Proofs.Ytgaginegcjpddaa
/- The program's reader of forms: if. (printed by gen_if.py) -/
namespace Go.Proofs.Ytgaginegcjpddaa
open Go.RowKit
def ifS (l : List Form) (f : Nat) (n : Int) (kids : List Int) (s : ESt) : (Int × ESt) ⊕ Wr :=
  if (fm l (nth kids 1)).kind = 1 ∧ (fm l (nth kids 2)).kind = 1 then
    match exprS l f (nth kids 0) s.1 with
    | .inr e => .inr e
    | .inl (e, es1) => match seqS (stmtS l f) (fm l (nth kids 1)).kids (es1, s.2) with
      | .inr e => .inr e
      | .inl (ts, s1) => match seqS (stmtS l f) (fm l (nth kids 2)).kids s1 with
        | .inr e => .inr e
        | .inl (fs, s2) => addS s2 { stmt0 with kind := 4, e := e, thn := ts, els := fs }
  else .inr (wrongS l n)
set_option maxHeartbeats 4000000 in
set_option maxRecDepth 100000 in
theorem stmt_if (l : List Form) (hwf : WF l) (f : Nat) (w : World) (lo rb : Nat) (S : Nat → Value) (Z : Nat → Prop) (p : Prg) (h : RX w l lo rb S Z p) (n : Nat) (hn : n < l.length) (hkr : ∀ k ∈ tailK l (n : Int), Kin l f k) (ih : StmtC l f) (hcnt : p.exprs.length + cntL l f (tailK l (n : Int)) ≤ 99999) (hcs : p.stmts.length + cntL l f (tailK l (n : Int)) ≤ 99999)
    (hsp : splitOk l (n : Int) = true) (hw : headW l (n : Int) = wIf) (hc : (tailK l (n : Int)).length = 3) (hkl : ∀ k, (fm l k).kids.length ≤ 90000) :
    Calls Try.prog 39 #[.pointer (some ⟨rb, 0, none⟩), .int .i64 (n : Int)] w (SP w l lo rb S Z p (ifS l f (n : Int) (tailK l (n : Int)) (p.exprs, p.stmts))) := by
  obtain ⟨kids, hkd⟩ : ∃ kids, tailK l (n : Int) = kids := ⟨_, rfl⟩
  rw [hkd] at hkr hcnt hcs hc ⊢
  generalize hgr : ifS l f (n : Int) kids (p.exprs, p.stmts) = R
  have hA := hgr.symm
  have hlow := h.size.2
  have H := hid h; have HSP := hid hsp; have HW := hid hw; have HKD := hid hkd; have HKR := hid hkr; have IH := hid ih; have HKL := hid hkl
  have HRR := hid hA
  clear h hsp hw hkd hkr ih hgr hA hkl
  go_enter Try.func39, Try.ntmps39
  go_upto_region 2 with (go_at_call 37; refine (split_yes l hwf rb _ _ (by exact H.out.rf) n hn HSP.out).mono ?_; rintro e w2 ⟨tv, rfl, htv, hb2⟩; rw [HW.out]; rw [HKD.out] at htv)
  have hX2 := H.out.below hb2
  have hS2 := RStep.of_below (rb := rb) (S := S) (Z := Z) hb2
  have hz2 := hb2.size
  obtain ⟨kb, ko, kc, rfl, hle, hcap, hkD, hkb, hc0⟩ := htv.at_ 0 (by omega)
  obtain ⟨kb1, ko1, kc1, he1, _, _, _, _, hc1⟩ := htv.at_ 1 (by omega)
  simp only [Value.slice.injEq] at he1
  obtain ⟨he1, _, rfl⟩ := he1
  cases he1
  obtain ⟨kb1, ko1, kc1, he1, _, _, _, _, hc2⟩ := htv.at_ 2 (by omega)
  simp only [Value.slice.injEq] at he1
  obtain ⟨he1, _, rfl⟩ := he1
  cases he1
  obtain ⟨k0, hk0, hk0l, hk0f⟩ := HKR.out _ (nth_mem (i := 0) (by omega))
  have e0 := cntL_at l f (ks := kids) (i := 0) (by omega)
  rw [hk0] at e0 hc0
  have hi0 : (0 : Int) < (kids.length : Int) := by omega
  have hk0i : (k0 : Int) < (l.length : Int) := by omega
  obtain ⟨k1, hk1, hk1l, hk1f⟩ := HKR.out _ (nth_mem (i := 1) (by omega))
  have e1 := cntL_at l f (ks := kids) (i := 1) (by omega)
  rw [hk1] at e1 hc1
  have hi1 : (1 : Int) < (kids.length : Int) := by omega
  have hk1i : (k1 : Int) < (l.length : Int) := by omega
  obtain ⟨k2, hk2, hk2l, hk2f⟩ := HKR.out _ (nth_mem (i := 2) (by omega))
  have e2 := cntL_at l f (ks := kids) (i := 2) (by omega)
  rw [hk2] at e2 hc2
  have hi2 : (2 : Int) < (kids.length : Int) := by omega
  have hk2i : (k2 : Int) < (l.length : Int) := by omega
  rw [List.drop_zero] at e0
  rw [Nat.add_zero] at hc0
  simp only [Nat.zero_add, Nat.reduceAdd] at e0 e1 e2
  have hw0 : (wIf.toList == [115, 101, 116]) = false := by rw [ByteArray.toList_eq]; rfl
  have hw1 : (wIf.toList == [102, 111, 108, 100]) = false := by rw [ByteArray.toList_eq]; rfl
  have hw2 : (wIf.toList == [101, 97, 99, 104]) = false := by rw [ByteArray.toList_eq]; rfl
  have hw3 : (wIf.toList == [105, 102]) = true := by rw [ByteArray.toList_eq]; rfl
  have hw4 : (wIf.toList == [119, 104, 105, 108, 101]) = false := by rw [ByteArray.toList_eq]; rfl
  have hw5 : (wIf.toList == [108, 111, 111, 112]) = false := by rw [ByteArray.toList_eq]; rfl
  have hw6 : (wIf.toList == [98, 102, 115]) = false := by rw [ByteArray.toList_eq]; rfl
  have hl3 : ((kids.length : Int) == 3) = true := by rw [beq_iff_eq]; omega
  have hA := HRR.out
  unfold ifS at hA
  rw [hk0, hk1, hk2] at hA
  have hkb2 : kb < w2.heap.size := hkb
  have hb0 := BX.new hX2 hS2 #[.int .u8 0, .string ⟨#[]⟩, .int .u8 0, .int .i64 (-1), .int .i64 (-1), .slice none 0 0, .slice none 0 0, .slice none 0 0] 77
  have q1 : Kin l f (k1 : Int) := ⟨k1, rfl, hk1l, hk1f⟩
  have q2 : Kin l f (k2 : Int) := ⟨k2, rfl, hk2l, hk2f⟩
  have d1 := cntL_kids hwf q1
  have d2 := cntL_kids hwf q2
  have HX2 := hid hX2; have HB0 := hid hb0; have HADD := hid (stmtS_len hwf f); have HQ1 := hid (kin_tail hwf (kin_up q1)); have HQ2 := hid (kin_tail hwf (kin_up q2))
  have hce : p.exprs.length + cntE l f (k0 : Int) ≤ 100000 := by omega
  have HCE := hid (show ∀ es1 : List Expr, es1.length ≤ p.exprs.length + cntE l f (k0 : Int) → es1.length + cntL l f (fm l (k1 : Int)).kids + cntL l f (fm l (k2 : Int)).kids ≤ 99999 from fun es1 h => by omega)
  have HCS := hid (show p.stmts.length + cntL l f (fm l (k1 : Int)).kids + cntL l f (fm l (k2 : Int)).kids ≤ 99999 by omega)
  have HK1 := hid (fm_nat l k1); have HK2 := hid (fm_nat l k2)
  clear hX2 hk0 hk1 hk2 e0 e1 e2 hb0 htv hcnt hcs d1 d2 q1 q2 hS2
  by_cases hkk : (fm l (k1 : Int)).kind = 1 ∧ (fm l (k2 : Int)).kind = 1
  · rw [if_pos hkk] at hA
    obtain ⟨g1, g2⟩ := hkk
    rw [HK1.out] at g1; rw [HK2.out] at g2
    have HA0 := hid hA
    clear hA
    obtain ⟨b, off, c, KA1, kcc1, h0, hl, hcc, _, _, _, _, c0, _, _, _, _⟩ := HB0.out.x.rf.at_ hk1l
    obtain ⟨b', off', c', KA2, kcc2, h0', _, _, _, _, _, _, d0, _, _, _, _⟩ := HB0.out.x.rf.at_ hk2l
    rw [h0] at h0'
    simp only [Option.some.injEq, Value.slice.injEq] at h0'
    obtain ⟨h01, _, rfl⟩ := h0'
    cases h01
    rw [g1] at c0; rw [g2] at d0
    have hkx1 := (World.cell?_of_block (a := ⟨kb, ko + 1, none⟩) (Below.heap_alloc w2 (.cells #[.int .u8 0, .string ⟨#[]⟩, .int .u8 0, .int .i64 (-1), .int .i64 (-1), .slice none 0 0, .slice none 0 0, .slice none 0 0] 77 (0, 0)) kb hkb2)).trans hc1
    have hkx2 := (World.cell?_of_block (a := ⟨kb, ko + 2, none⟩) (Below.heap_alloc w2 (.cells #[.int .u8 0, .string ⟨#[]⟩, .int .u8 0, .int .i64 (-1), .int .i64 (-1), .slice none 0 0, .slice none 0 0, .slice none 0 0] 77 (0, 0)) kb hkb2)).trans hc2
    have hkx0 := (World.cell?_of_block (a := ⟨kb, ko, none⟩) (Below.heap_alloc w2 (.cells #[.int .u8 0, .string ⟨#[]⟩, .int .u8 0, .int .i64 (-1), .int .i64 (-1), .slice none 0 0, .slice none 0 0, .slice none 0 0] 77 (0, 0)) kb hkb2)).trans hc0
    go_upto_region 20 with fail
    (refine wp_still_tail 26 (by kernel_rfl) (by kernel_rfl) ?_; simp only [List.take_succ_cons, List.take_zero, List.drop_succ_cons, List.drop_zero]; (repeat (first | (refine wpStill_skip (by rfl) ?_; simp only [Act.put, List.setIfInBounds_toArray, List.set_cons_succ, List.set_cons_zero]) | still_step | (refine wpStill_step (fun K hK => ?_); simp [go_sem, ↓IntWalk.iteOmega, *]; refine hK _ ?_; clear hK K))); refine wpStill_nil ?_)
    go_wp2_with (go_at_call 40; refine (need_true _ _ _).mono ?_; rintro e w' ⟨rfl, rfl⟩)
    have b1 := HB0.out.below (below_drewN (Below.refl _ _) 1)
    refine (expr_any l hwf f k0 _ lo rb S Z p hk0l hk0f b1.x hce).mono ?_
    rintro e w5 he
    have hA := HA0.out
    rcases hpp : exprS l f (k0 : Int) p.exprs with ⟨ev, es1⟩ | wr
    · have hes := exprS_len l f _ _ _ hpp
      rw [hpp] at he hA
      simp only at hA
      obtain ⟨rfl, S5, Z5, hX5, hSt5⟩ := he
      have b5 := b1.step hX5 hSt5
      have z0 := blk_cell b5.blk 0; have z3 := blk_cell b5.blk 3; have zf := blk_free b5.blk
      have HA := hid hA; have HES := hid hes; have HB5 := hid b5
      clear b1 b5 hX5 hSt5 hpp hA hes c0 d0 h0 hkx0 hkx1 hkx2
      go_upto_region 22 with fail
      have b6 := (HB5.out.set 0 (.int .u8 4) #[.int .u8 4, .string ⟨#[]⟩, .int .u8 0, .int .i64 (-1), .int .i64 (-1), .slice none 0 0, .slice none 0 0, .slice none 0 0] (by rfl)).set 3 (.int .i64 ev) #[.int .u8 4, .string ⟨#[]⟩, .int .u8 0, .int .i64 ev, .int .i64 (-1), .slice none 0 0, .slice none 0 0, .slice none 0 0] (by rfl)
      generalize (w5.setCell ⟨w2.heap.size, 0, none⟩ (.int .u8 4)).setCell ⟨w2.heap.size, 3, none⟩ (.int .i64 ev) = w6 at b6 ⊢
      clear z0 z3 zf
      obtain ⟨b, off, c, KA1, kcc1, h0, hl, hcc, hkl1, hkc1, _, hI1, _, _, _, c3, _⟩ := b6.x.rf.at_ hk1l
      have hkx := (World.cell?_of_block (a := ⟨kb, ko + 1, none⟩) ((b6.old H.out hkD).trans (hb2.block kb (Nat.lt_of_lt_of_le hkD hlow)).symm)).trans hc1
      rw [← HK1.out] at hkl1 hI1 c3
      have HI1 := hid hI1
      have BX1 := hid b6
      clear b6 hI1
      obtain ⟨m1, hm1⟩ : ∃ m, (fm l (k1 : Int)).kids.length = m := ⟨_, rfl⟩
      have HM1 := hid hm1
      rw [hm1] at hkl1 c3
      clear hm1
      (refine wp_still_tail 11 (by kernel_rfl) (by kernel_rfl) ?_; simp only [List.take_succ_cons, List.take_zero, List.drop_succ_cons, List.drop_zero]; (repeat (first | (refine wpStill_skip (by rfl) ?_; simp only [Act.put, List.setIfInBounds_toArray, List.set_cons_succ, List.set_cons_zero]) | still_step | (refine wpStill_step (fun K hK => ?_); simp [go_sem, ↓IntWalk.iteOmega, *]; refine hK _ ?_; clear hK K))); refine wpStill_nil ?_)
      go_wp2_with fail
      have hd1 := BX1.out.below (below_drewN (Below.refl _ _) 1)
      have hi1 := HI1.out.imp (D' := fun b => b < lo) fun b hD hlt => ⟨hD, (below_drewN (Below.refl _ _) 1).block b hlt⟩
      refine (stmts_any l f _ lo rb S5 Z5 { p with exprs := es1 } hd1.x (fm l (k1 : Int)).kids _ (by rw [← HM1.out]; exact hi1) HQ1.out (HKL.out _) IH.out HADD.out (by have := HES.out; have := HCE.out es1 HES.out; simp only; omega) (by have := HCS.out; simp only; omega)).mono ?_
      rintro e w7 he
      simp only at he
      have hA := HA.out
      rcases hps : seqS (stmtS l f) (fm l (k1 : Int)).kids (es1, p.stmts) with ⟨ts, s0⟩ | wr
      · have hq1 := seqS_stmts HADD.out HQ1.out hps
        rw [hps] at he hA
        simp only at hA hq1
        obtain ⟨v, S7, Z7, rfl, hJ1, hX7, hSt7⟩ := he
        obtain ⟨VA1, vc1, rfl, _, _⟩ := hJ1.slice
        have b7 := hd1.step hX7 hSt7
        have z6 := blk_cell b7.blk 6; have zf := blk_free b7.blk
        have HA := hid hA; have HQ := hid hq1; have HB7 := hid b7; have HJ1 := hid hJ1
        clear hd1 b7 hX7 hSt7 hps hA hq1 hJ1 hi1 h0 hkx c3
        go_upto_region 23 with fail
        have b8 := HB7.out.set 6 (.slice VA1 ts.length vc1) #[.int .u8 4, .string ⟨#[]⟩, .int .u8 0, .int .i64 ev, .int .i64 (-1), .slice none 0 0, .slice VA1 ts.length vc1, .slice none 0 0] (by rfl)
        have hJ8 := HB7.out.ints HJ1.out 6 (.slice VA1 ts.length vc1)
        generalize w7.setCell ⟨w2.heap.size, 6, none⟩ (.slice VA1 ts.length vc1) = w8 at b8 hJ8 ⊢
        have HJ8 := hid hJ8
        clear z6 zf hJ8
        obtain ⟨b, off, c, KA2, kcc2, h0, hl, hcc, hkl2, hkc2, _, hI2, _, _, _, c3, _⟩ := b8.x.rf.at_ hk2l
        have hkx := (World.cell?_of_block (a := ⟨kb, ko + 2, none⟩) ((b8.old H.out hkD).trans (hb2.block kb (Nat.lt_of_lt_of_le hkD hlow)).symm)).trans hc2
        rw [← HK2.out] at hkl2 hI2 c3
        have HI2 := hid hI2
        have BX2 := hid b8
        clear b8 hI2
        obtain ⟨m2, hm2⟩ : ∃ m, (fm l (k2 : Int)).kids.length = m := ⟨_, rfl⟩
        have HM2 := hid hm2
        rw [hm2] at hkl2 c3
        clear hm2
        (refine wp_still_tail 11 (by kernel_rfl) (by kernel_rfl) ?_; simp only [List.take_succ_cons, List.take_zero, List.drop_succ_cons, List.drop_zero]; (repeat (first | (refine wpStill_skip (by rfl) ?_; simp only [Act.put, List.setIfInBounds_toArray, List.set_cons_succ, List.set_cons_zero]) | still_step | (refine wpStill_step (fun K hK => ?_); simp [go_sem, ↓IntWalk.iteOmega, *]; refine hK _ ?_; clear hK K))); refine wpStill_nil ?_)
        go_wp2_with fail
        have hd2 := BX2.out.below (below_drewN (Below.refl _ _) 1)
        have hi2 := HI2.out.imp (D' := fun b => b < lo) fun b hD hlt => ⟨hD, (below_drewN (Below.refl _ _) 1).block b hlt⟩
        have hJ9 : Ints (w8.drewN 1) Z7 (.slice VA1 ts.length vc1) ts := HJ8.out.imp fun b hD hlt => ⟨hD, (below_drewN (Below.refl _ _) 1).block b hlt⟩
        refine (stmts_any l f _ lo rb S7 Z7 { p with exprs := s0.1, stmts := s0.2 } hd2.x (fm l (k2 : Int)).kids _ (by rw [← HM2.out]; exact hi2) HQ2.out (HKL.out _) IH.out HADD.out (by have := HQ.out.1; have := HCE.out es1 HES.out; simp only; omega) (by have := HQ.out.2; have := HCS.out; simp only; omega)).mono ?_
        rintro e w10 he
        simp only at he
        have hA := HA.out
        rcases hpt : seqS (stmtS l f) (fm l (k2 : Int)).kids s0 with ⟨fs, s1⟩ | wr
        · have hq2 := seqS_stmts HADD.out HQ2.out hpt
          have he' : LP (w8.drewN 1) l lo rb S7 Z7 { p with exprs := s0.1, stmts := s0.2 } (seqS (stmtS l f) (fm l (k2 : Int)).kids s0) e w10 := he
          rw [hpt] at he' hA
          simp only [addS] at hA
          obtain ⟨v, S9, Z9, rfl, hJ2, hX9, hSt9⟩ := he'
          obtain ⟨VA2, vc2, rfl, _, _⟩ := hJ2.slice
          have hs1l : s1.2.length ≤ 99999 := by have := HQ.out.2; have := HCS.out; have := hq2.2; simp only at *; omega
          have b10 := hd2.step hX9 hSt9
          have hJ10 : Ints w10 Z9 (.slice VA1 ts.length vc1) ts := hJ9.imp fun b hz hlt => ⟨hSt9.z b hz, hSt9.grow.block b hlt (fun e => by
            rcases e with e | ⟨i, e⟩
            · exact (hd2.x.zlow b hz).2.2 e
            · exact (hd2.x.low i b e).2.2 hz)⟩
          have z7 := blk_cell b10.blk 7; have zf := blk_free b10.blk
          have HA := hid hA; have HB10 := hid b10; have HJ10 := hid hJ10; have HJ2 := hid hJ2
          clear hd2 b10 hX9 hSt9 hpt hA hq2 hJ2 hJ9 hJ10 hi2 h0 hkx c3 he
          go_upto_region 34 with fail
          have b9 := HB10.out.set 7 (.slice VA2 fs.length vc2) #[.int .u8 4, .string ⟨#[]⟩, .int .u8 0, .int .i64 ev, .int .i64 (-1), .slice none 0 0, .slice VA1 ts.length vc1, .slice VA2 fs.length vc2] (by rfl)
          have hI9 := HB10.out.ints HJ2.out 7 (.slice VA2 fs.length vc2)
          have hI8 := HB10.out.ints HJ10.out 7 (.slice VA2 fs.length vc2)
          generalize w10.setCell ⟨w2.heap.size, 7, none⟩ (.slice VA2 fs.length vc2) = w9 at b9 hI9 hI8 ⊢
          have hsl := b9.x.size.1
          obtain ⟨fv, hb, _⟩ := b9.x.blk
          have hV : StmtV w9 Z9 { stmt0 with kind := 4, e := ev, thn := ts, els := fs } (PStmt.cells { stmt0 with kind := 4, e := ev, thn := ts, els := fs } (.slice none 0 0) (.slice VA1 ts.length vc1) (.slice VA2 fs.length vc2)) := ⟨_, _, _, rfl, Row.nil _ _ _ _, hI8, hI9⟩
          refine wp_push2 pt_stmts (by kernel_rfl) 0 234 _ (by kernel_rfl) (by rfl) (by rfl) (by rfl) (by omega) (R := StmtV w9 Z9) rb 0 (S9 2) (.agg #[.int .u8 4, .string ⟨#[]⟩, .int .u8 0, .int .i64 ev, .int .i64 (-1), .slice none 0 0, .slice VA1 ts.length vc1, .slice VA2 fs.length vc2]) (PStmt.cells { stmt0 with kind := 4, e := ev, thn := ts, els := fs } (.slice none 0 0) (.slice VA1 ts.length vc1) (.slice VA2 fs.length vc2)) s1.2 { stmt0 with kind := 4, e := ev, thn := ts, els := fs } rfl (blk_cell hb 3) (blk_free hb 3) (fun e => (b9.x.low 2 rb e).2.1 rfl) b9.x.stmts ?el ?bs hV rfl (by simp [PStmt.cells, Value.oneCell']) (by omega) (by omega) ?q
          case el =>
            intro a w' o6 ho hFr hgr
            have hbb := (hgr.block w2.heap.size (blk_lt b9.blk) (fun e => b9.nr (.inr ⟨2, e.symm⟩))).trans b9.blk
            have hc := blk_cell hbb
            have ht : a.tmps.getD 7 undef = _ := hFr.get 7 (by rfl)
            simp only [Array.getD_eq_getD_getElem?] at ht
            simp [execOp, ho, go_sem, Act.eval, ht, hc, PStmt.cells]
          case bs => intro w'; simp [go_sem, PStmt.cells, stmt0]
          case q =>
            intro B g cap w1 hG
            obtain ⟨h2, h3⟩ := b9.x.pushS hG
            have h4 := b9.s.trans h3
            simp only [pushAct2, Nat.add_zero, Nat.zero_add, Nat.reduceAdd]
            generalize w1.setCell ⟨rb, 3, none⟩ (.slice (some ⟨g, 0, none⟩) (s1.2.length + 1) cap) = wz at h2 h4 ⊢
            obtain ⟨fv2, hb2, _⟩ := h2.blk
            simp only [up] at hb2
            have q := blk_cell hb2 3
            have hl2 : (s1.2.length : Int) + 1 ≤ 200000 := by omega
            have H2 := hid h2; have H4 := hid h4
            clear h2 h4 h3 hG b9 hV hb hb2
            go_wp2
            go_ret
            exact SP.ok HA.out H2.out H4.out
        · have he' : LP (w8.drewN 1) l lo rb S7 Z7 { p with exprs := s0.1, stmts := s0.2 } (seqS (stmtS l f) (fm l (k2 : Int)).kids s0) e w10 := he
          rw [hpt] at he' hA
          simp only at hA
          obtain ⟨rfl, hBp⟩ := he'
          exact ⟨rfl, SP.no hA ((RStep.below H.out hd2.s).trans hBp)⟩
      · rw [hps] at he hA
        simp only at hA
        obtain ⟨rfl, hBp⟩ := he
        exact ⟨rfl, SP.no hA ((RStep.below H.out hd1.s).trans hBp)⟩
    · rw [hpp] at he hA
      simp only at hA
      obtain ⟨rfl, hBp⟩ := he
      exact ⟨rfl, SP.no hA ((RStep.below H.out b1.s).trans hBp)⟩
  · rw [if_neg hkk] at hA
    have HA := hid hA
    clear hA
    obtain ⟨b, off, c, KA1, kcc1, h0, hl, hcc, _, _, _, _, c0, _, _, _, _⟩ := HB0.out.x.rf.at_ hk1l
    obtain ⟨b', off', c', KA2, kcc2, h0', _, _, _, _, _, _, d0, _, _, _, _⟩ := HB0.out.x.rf.at_ hk2l
    rw [h0] at h0'
    simp only [Option.some.injEq, Value.slice.injEq] at h0'
    obtain ⟨h01, _, rfl⟩ := h0'
    cases h01
    have hkx1 := (World.cell?_of_block (a := ⟨kb, ko + 1, none⟩) (Below.heap_alloc w2 (.cells #[.int .u8 0, .string ⟨#[]⟩, .int .u8 0, .int .i64 (-1), .int .i64 (-1), .slice none 0 0, .slice none 0 0, .slice none 0 0] 77 (0, 0)) kb hkb2)).trans hc1
    have hkx2 := (World.cell?_of_block (a := ⟨kb, ko + 2, none⟩) (Below.heap_alloc w2 (.cells #[.int .u8 0, .string ⟨#[]⟩, .int .u8 0, .int .i64 (-1), .int .i64 (-1), .slice none 0 0, .slice none 0 0, .slice none 0 0] 77 (0, 0)) kb hkb2)).trans hc2
    rw [HK1.out, HK2.out] at hkk
    obtain ⟨x1, hx1⟩ : ∃ x, (nth l k1).kind = x := ⟨_, rfl⟩
    obtain ⟨x2, hx2⟩ : ∃ x, (nth l k2).kind = x := ⟨_, rfl⟩
    rw [hx1] at c0 hkk
    rw [hx2] at d0 hkk
    clear hx1 hx2
    by_cases g1 : x1 = 1
    · subst g1
      have g2 : (x2 == 1) = false := by rw [beq_eq_false_iff_ne]; exact fun e => hkk ⟨rfl, e⟩
      clear hkk
      go_upto_region 20 with fail
      (refine wp_still_tail 26 (by kernel_rfl) (by kernel_rfl) ?_; simp only [List.take_succ_cons, List.take_zero, List.drop_succ_cons, List.drop_zero]; (repeat (first | (refine wpStill_skip (by rfl) ?_; simp only [Act.put, List.setIfInBounds_toArray, List.set_cons_succ, List.set_cons_zero]) | still_step | (refine wpStill_step (fun K hK => ?_); simp [go_sem, ↓IntWalk.iteOmega, *]; refine hK _ ?_; clear hK K))); refine wpStill_nil ?_)
      go_wp2_with (go_at_call 40; refine (need_false l rb _ _ (by exact (HB0.out.below (below_drewN (Below.refl _ _) 1)).x.rf) n hn).mono ?_; rintro e w' ⟨rfl, hww⟩; subst hww)
      exact ⟨rfl, SP.no HA.out (RStep.below H.out (HB0.out.below (below_drewN (Below.refl _ _) 1)).s)⟩
    · have g2 : (x1 == 1) = false := by rw [beq_eq_false_iff_ne]; exact g1
      clear hkk
      go_upto_region 20 with fail
      (refine wp_still_gtail 26 (by kernel_rfl) (by kernel_rfl) ?_; intro opsG HopsG; simp only [List.take_succ_cons, List.take_zero, List.drop_succ_cons, List.drop_zero]; (repeat (first | (refine wpStill_skip (by rw [HopsG.out]; rfl) ?_; simp only [Act.put, List.setIfInBounds_toArray, List.set_cons_succ, List.set_cons_zero]) | (refine wpStill_want (by rw [HopsG.out]; rfl) (fun K hK => ?_); go_simp; refine hK _ ?_; clear hK K))); refine wpStill_nil ?_; obtain rfl := HopsG.out; clear HopsG)
      go_wp2_with (go_at_call 40; refine (need_false l rb _ _ (by exact (HB0.out.below (below_drewN (Below.refl _ _) 1)).x.rf) n hn).mono ?_; rintro e w' ⟨rfl, hww⟩; subst hww)
      exact ⟨rfl, SP.no HA.out (RStep.below H.out (HB0.out.below (below_drewN (Below.refl _ _) 1)).s)⟩
end Go.Proofs.Ytgaginegcjpddaa
