/- The program's reader of forms: a line. -/
import Derived.Test.YtgaginegcjpddaaQt9
set_option linter.unusedVariables false
set_option linter.unusedSimpArgs false
namespace Go.Proofs.Ytgaginegcjpddaa
open Go.RowKit
/-- what a line comes to, in memory -/
def LineP (w : World) (l : List Form) (lo rb : Nat) (S : Nat → Value) (Z : Nat → Prop) (r : Prg ⊕ Wr) (e : Ending) (w' : World) : Prop :=
  match r with
  | .inl q => e = .returned (.tuple #[]) ∧ ∃ S' Z', RX w' l lo rb S' Z' q ∧ LStep w rb S Z w' S' Z'
  | .inr wr => e = .panicked (progWrong wr) ∧ Below lo w w'
theorem LineP.ok {w : World} {l : List Form} {lo rb : Nat} {S S' : Nat → Value} {Z Z' : Nat → Prop} {r : Prg ⊕ Wr} {w' : World} {q : Prg} (hr : r = .inl q) (hX : RX w' l lo rb S' Z' q) (hS : LStep w rb S Z w' S' Z') : LineP w l lo rb S Z r (.returned (.tuple #[])) w' := by
  subst hr; exact ⟨rfl, S', Z', hX, hS⟩
theorem LineP.no {w : World} {l : List Form} {lo rb : Nat} {S : Nat → Value} {Z : Nat → Prop} {r : Prg ⊕ Wr} {w' : World} {wr : Wr} (hr : r = .inr wr) (hB : Below lo w w') : LineP w l lo rb S Z r (.panicked (progWrong wr)) w' := by
  subst hr; exact ⟨rfl, hB⟩
set_option maxHeartbeats 800000 in
set_option maxRecDepth 100000 in
theorem line_nosplit (l : List Form) (hwf : WF l) (w : World) (lo rb : Nat) (S : Nat → Value) (Z : Nat → Prop) (p : Prg) (h : RX w l lo rb S Z p) (n : Nat) (hn : n < l.length)
    (hsp : splitOk l (n : Int) = false) (r : Prg ⊕ Wr) (hr : r = .inr (wrongS l (n : Int))) :
    Calls Try.prog 19 #[.pointer (some ⟨rb, 0, none⟩), .int .i64 (n : Int)] w (LineP w l lo rb S Z r) := by
  have hlow := h.size.2
  have H1 := hid h; have HSP := hid hsp; have HR := hid hr
  clear h hsp hr
  go_enter Try.func19, Try.ntmps19
  go_wp2_with (go_at_call 37; refine (split_no l hwf rb _ _ (by exact H1.out.rf) n hn HSP.out).mono ?_; rintro e w2 ⟨rfl, hb2⟩)
  exact ⟨rfl, LineP.no HR.out (hb2.mono hlow)⟩
set_option maxHeartbeats 4000000 in
set_option maxRecDepth 100000 in
theorem line_decl (l : List Form) (hwf : WF l) (w : World) (lo rb : Nat) (S : Nat → Value) (Z : Nat → Prop) (p : Prg) (h : RX w l lo rb S Z p) (n : Nat) (hn : n < l.length)
    (hsp : splitOk l (n : Int) = true) (hd : (declK (headW l (n : Int))).1 ≠ 0) (hd9 : p.decls.length ≤ 24) (r : Prg ⊕ Wr)
    (hr : r = if (tailK l n).length = 1 ∧ p.main.length = 0 then
      if 24 ≤ p.decls.length then .inr ((fm l n).pos, 4)
      else if nameOk l (nth (tailK l n) 0) then .inl { p with decls := p.decls ++ [{ name := (fm l (nth (tailK l n) 0)).text, side := (declK (headW l n)).1, kind := (declK (headW l n)).2 }] }
      else .inr (wrongS l (nth (tailK l n) 0))
    else .inr (wrongS l n)) :
    Calls Try.prog 19 #[.pointer (some ⟨rb, 0, none⟩), .int .i64 (n : Int)] w (LineP w l lo rb S Z r) := by
  have hlow := h.size.2
  obtain ⟨kids, hkd⟩ : ∃ kids, tailK l (n : Int) = kids := ⟨_, rfl⟩
  obtain ⟨hw, hhw⟩ : ∃ hw, headW l (n : Int) = hw := ⟨_, rfl⟩
  rw [hkd, hhw] at hr
  rw [hhw] at hd
  have hkin : ∀ i, i < kids.length → ∃ k : Nat, nth kids i = (k : Int) ∧ k < l.length := fun i hi => by
    subst hkd
    obtain ⟨k, h1, _, h3⟩ := hwf.kid (n := n) (i := i + 1) hn (by simp only [tailK, fm_nat, List.length_drop] at hi; omega)
    refine ⟨k, ?_, h3⟩
    simp only [tailK, fm_nat]
    rw [← h1]; simp [nth, Nat.add_comm]
  obtain ⟨dk, hdk⟩ : ∃ dk, declK hw = dk := ⟨_, rfl⟩
  have hlk := fun (w : World) (b : Nat) (h : DeclMap w b) => decl_look w b h hw
  rw [hdk] at hd hr
  simp only [hdk] at hlk
  have H := hid h; have HSP := hid hsp; have HW := hid hhw; have HKD := hid hkd; have HR := hid hr; have HKI := hid hkin; have HL := hid hlk
  clear h hsp hr hhw hkd hkin hlk
  rw [show (decide (dk.1 ≠ 0)) = true by simpa using hd] at HL
  obtain ⟨k1, k2⟩ := dk
  simp only [declV] at HL
  go_enter Try.func19, Try.ntmps19
  go_upto_region 4 with (first | (go_at_call 37; refine (split_yes l hwf rb _ _ (by exact H.out.rf) n hn HSP.out).mono ?_; rintro e w2 ⟨tv, rfl, htv, hb2⟩; rw [HW.out]; rw [HKD.out] at htv; have HTV := hid htv; clear htv) | (go_at_call 38; refine (declares_any _).mono ?_; rintro e w3 ⟨mb, rfl, hmb, hM, hb3⟩; have hlk := HL.out _ _ hM))
  have hB3 : Below w.heap.size w w3 := hb2.trans (hb3.mono hb2.size)
  have b0 := BX.new (H.out.below hB3) (RStep.of_below (rb := rb) (S := S) (Z := Z) hB3) #[.string ⟨#[]⟩, .int .u8 k1, .int .u8 k2] 66
  have ht4 := (HTV.out.imp (w' := w3) (D' := fun b => b < lo) fun b hD hb => ⟨hD, hb3.block b hb⟩).imp (w' := w3.alloc (.cells #[.string ⟨#[]⟩, .int .u8 k1, .int .u8 k2] 66)) (D' := fun b => b < lo) fun b hD hb => ⟨hD, Below.heap_alloc w3 _ b hb⟩
  have hs3 := hB3.size
  generalize w3.alloc (.cells #[.string ⟨#[]⟩, .int .u8 k1, .int .u8 k2] 66) = w4 at b0 ht4 ⊢
  obtain ⟨db, hdb⟩ : ∃ db, w3.heap.size = db := ⟨_, rfl⟩
  rw [hdb] at b0 hs3 ⊢
  obtain ⟨A, c, rfl, hle, hcap, _⟩ := ht4.out
  have hlow4 := RStep.below H.out b0.s
  obtain ⟨A0, c0, hD0, hl0, hc0⟩ := b0.x.decls.slice
  obtain ⟨A3, c3, hD3, hl3, hc3⟩ := b0.x.main.slice
  obtain ⟨fv, hb, hfv⟩ := b0.x.blk
  have hrf := b0.x.rf
  have hb' := hb
  rw [hD0, hD3] at hb'
  have q4 := blk_cell hb' 4; have q1 := blk_cell hb' 1
  have B0 := hid b0; have T4 := hid ht4; have HRF := hid hrf; have HLOW := hid hlow4
  clear hlk hM hmb hb3 hb2 hB3 HL hdb hb hb' HTV hfv b0 ht4 hrf hlow4
  by_cases g1 : kids.length = 1
  case neg =>
    have hg : ((kids.length : Int) == 1) = false := by rw [beq_eq_false_iff_ne]; omega
    have HR2 := hid (HR.out.trans (if_neg fun h => g1 h.1))
    go_wp2_with (go_at_call 40; refine (need_false l rb _ _ HRF.out n hn).mono ?_; rintro e w' ⟨rfl, rfl⟩)
    exact ⟨rfl, LineP.no HR2.out HLOW.out⟩
  have hg : ((kids.length : Int) == 1) = true := by rw [beq_iff_eq]; omega
  by_cases g2 : p.main.length = 0
  case neg =>
    have hg2 : ((p.main.length : Int) == 0) = false := by rw [beq_eq_false_iff_ne]; omega
    have HR2 := hid (HR.out.trans (if_neg fun h => g2 h.2))
    go_wp2_with (go_at_call 40; refine (need_false l rb _ _ HRF.out n hn).mono ?_; rintro e w' ⟨rfl, rfl⟩)
    exact ⟨rfl, LineP.no HR2.out HLOW.out⟩
  have hg2 : ((p.main.length : Int) == 0) = true := by rw [beq_iff_eq]; omega
  have HR2 := hid (HR.out.trans (if_pos ⟨g1, g2⟩))
  clear HR
  by_cases g3 : 24 ≤ p.decls.length
  · have hg3 : (24 : Int) ≤ (p.decls.length : Int) := by omega
    obtain ⟨b, off, c', KA, kc, h0, hl, hc', _, _, _, _, x0, x1, x2, x3, x4⟩ := HRF.out.at_ hn
    have hni : (n : Int) < (l.length : Int) := by omega
    have HR3 := hid (HR2.out.trans (if_pos g3))
    have HF := hid (fm_nat l n)
    clear x0 x1 x2 x3 HR2
    go_wp2_with (go_at_call 40; refine (need_true _ _ _).mono ?_; rintro e w' ⟨rfl, rfl⟩)
    refine ⟨rfl, LineP.no (wr := ((nth l n).pos, 4)) (by rw [HR3.out, HF.out]) HLOW.out⟩
  have hg3 : ¬ (24 : Int) ≤ (p.decls.length : Int) := by omega
  have HR3 := hid (HR2.out.trans (if_neg g3))
  clear HR2
  obtain ⟨kb, ko, kc, he, _, _, hkD, hkb, hk0⟩ := T4.out.at_ 0 (by omega)
  simp only [Value.slice.injEq] at he
  obtain ⟨rfl, _, rfl⟩ := he
  obtain ⟨k0, hk0e, hk0l⟩ := HKI.out 0 (by omega)
  rw [hk0e, Nat.add_zero] at hk0
  have hi0 : (0 : Int) < (kids.length : Int) := by omega
  have hR3 := HR3.out
  rw [hk0e] at hR3
  by_cases g4 : nameOk l (k0 : Int) = true
  case neg =>
    rw [if_neg g4] at hR3
    have HR4 := hid hR3; have HN := hid (show nameOk l (k0 : Int) = false by simpa using g4)
    clear HR3 hR3 g4 hk0e
    go_wp2_with (first | (go_at_call 40; refine (need_true _ _ _).mono ?_; rintro e w' ⟨rfl, rfl⟩) | (go_at_call 41; refine (name_no l rb _ _ HRF.out k0 hk0l HN.out).mono ?_; rintro e w5 ⟨rfl, hb5⟩))
    exact ⟨rfl, LineP.no HR4.out (HLOW.out.trans (hb5.mono (Nat.le_trans hlow HLOW.out.size)))⟩
  rw [if_pos g4] at hR3
  obtain ⟨nm, hnm⟩ : ∃ nm, (fm l (k0 : Int)).text = nm := ⟨_, rfl⟩
  rw [hnm] at hR3
  have HR4 := hid hR3; have HN := hid g4; have HNM := hid hnm
  have z0 := blk_cell B0.out.blk 0; have zf := blk_free B0.out.blk
  clear HR3 hR3 g4 hk0e hnm
  go_upto_region 8 with (first | (go_at_call 40; refine (need_true _ _ _).mono ?_; rintro e w' ⟨rfl, rfl⟩) | (go_at_call 41; refine (name_yes l rb _ _ HRF.out k0 hk0l HN.out).mono ?_; rintro e w5 ⟨rfl, hb5⟩; rw [HNM.out]; have b5 := B0.out.below hb5; clear z0 zf q4 q1; have z0 := blk_cell b5.blk 0; have zf := blk_free b5.blk; have B5 := hid b5; clear b5 hb5))
  have b9 := B5.out.set 0 (.string nm) #[.string nm, .int .u8 k1, .int .u8 k2] (by rfl)
  obtain ⟨fv, hb, _⟩ := b9.x.blk
  have hsl := b9.x.size.1
  generalize w5.setCell ⟨db, 0, none⟩ (.string nm) = w9 at b9 hb ⊢
  refine wp_push2 pt_decls (by kernel_rfl) 0 74 _ (by kernel_rfl) (by rfl) (by rfl) (by rfl) (by omega) (R := DeclV) rb 0 (S 0) (.agg #[.string nm, .int .u8 k1, .int .u8 k2]) (PDecl.cells ⟨nm, k1, k2⟩) p.decls ⟨nm, k1, k2⟩ rfl (blk_cell hb 1) (blk_free hb 1) (fun e => (b9.x.low 0 rb e).2.1 rfl) b9.x.decls ?el ?bs rfl rfl (by simp [PDecl.cells, Value.oneCell']) (by omega) (by omega) ?q
  case el =>
    intro a w' o6 ho hFr hgr
    have hbb := (hgr.block db (blk_lt b9.blk) (fun e => b9.nr (.inr ⟨0, e.symm⟩))).trans b9.blk
    have hc := blk_cell hbb
    have ht : a.tmps.getD 6 undef = _ := hFr.get 6 (by rfl)
    simp only [Array.getD_eq_getD_getElem?] at ht
    simp [execOp, ho, go_sem, Act.eval, ht, hc, PDecl.cells]
  case bs => intro w'; simp [go_sem, PDecl.cells]
  case q =>
    intro B g cap w1 hG
    obtain ⟨h2, h3⟩ := b9.x.pushD hG
    have h4 := (b9.s.l).trans h3
    simp only [pushAct2, Nat.add_zero, Nat.zero_add, Nat.reduceAdd]
    go_wp2
    go_end0
    exact LineP.ok HR4.out h2 h4
/-- the state behind a statement that is read and put behind main's, but for the reader's own -/
structure PXM (w w' : World) (l : List Form) (lo rb : Nat) (S : Nat → Value) (Z : Nat → Prop) (p : Prg) (m : Int) (v : Value) : Prop where
  out : ∃ (g cap : Nat) (S' : Nat → Value) (Z' : Nat → Prop) (wq : World), v = .slice (some ⟨g, 0, none⟩) (p.main.length + 1) cap ∧ RX wq l lo rb S' Z' p ∧ RStep w rb S Z wq S' Z' ∧ Grew wq w' (S' 3) 3 1 IntR p.main (p.main ++ [m]) g cap
def postL (w0 : World) (rb n : Nat) (av : Value) (V8 : Value → Prop) (V9 : Value → World → Prop) (V10 : Value → World → Prop) : Nat → Value → World → Prop
  | 0, v, _ => v = .pointer (some ⟨rb, 0, none⟩)
  | 1, v, _ => v = .pointer (some ⟨rb, 0, none⟩)
  | 2, v, _ => v = .pointer (some ⟨rb, 0, none⟩)
  | 3, v, _ => v = .pointer (some ⟨rb, 1, none⟩)
  | 4, v, _ => v = .pointer (some ⟨rb, 4, none⟩)
  | 5, v, _ => v = av
  | 6, v, _ => v = .pointer (some ⟨rb, 0, none⟩)
  | 7, v, _ => v = .int .i64 (n : Int)
  | 8, v, _ => V8 v
  | 9, v, w => V9 v w
  | 10, v, w => V10 v w
  | _, _, _ => True
theorem postL_pure {w0 : World} {rb n : Nat} {av : Value} {V8 : Value → Prop} {V9 V10 : Value → World → Prop} {i : Nat} {u : Value} {w w' : World} (h9 : i ≠ 9) (h10 : i ≠ 10) (h : postL w0 rb n av V8 V9 V10 i u w) : postL w0 rb n av V8 V9 V10 i u w' := by
  unfold postL at h ⊢
  split at h <;> first | exact h | exact absurd rfl h9 | exact absurd rfl h10
set_option maxHeartbeats 4000000 in
set_option maxRecDepth 100000 in
theorem line_stmt (l : List Form) (hwf : WF l) (hk9 : ∀ k, (fm l k).kids.length ≤ 90000) (f : Nat) (w : World) (lo rb : Nat) (S : Nat → Value) (Z : Nat → Prop) (p : Prg) (h : RX w l lo rb S Z p) (n : Nat) (hn : n < l.length) (hf : (l.length : Int) - n < f)
    (hc1 : p.exprs.length + cntE l f n ≤ 99999) (hc2 : p.stmts.length + cntE l f n ≤ 99999) (hm9 : p.main.length ≤ 99999)
    (hsp : splitOk l (n : Int) = true) (hd : (declK (headW l (n : Int))).1 = 0) (r : Prg ⊕ Wr)
    (hr : r = match stmtS l f n (p.exprs, p.stmts) with
      | .inr e => .inr e
      | .inl (m, s) => .inl { p with exprs := s.1, stmts := s.2, main := p.main ++ [m] }) :
    Calls Try.prog 19 #[.pointer (some ⟨rb, 0, none⟩), .int .i64 (n : Int)] w (LineP w l lo rb S Z r) := by
  have hlow := h.size.2
  obtain ⟨kids, hkd⟩ : ∃ kids, tailK l (n : Int) = kids := ⟨_, rfl⟩
  obtain ⟨hw, hhw⟩ : ∃ hw, headW l (n : Int) = hw := ⟨_, rfl⟩
  rw [hhw] at hd
  obtain ⟨dk, hdk⟩ : ∃ dk, declK hw = dk := ⟨_, rfl⟩
  have hlk := fun (w : World) (b : Nat) (h : DeclMap w b) => decl_look w b h hw
  rw [hdk] at hd
  simp only [hdk] at hlk
  have H := hid h; have HSP := hid hsp; have HW := hid hhw; have HKD := hid hkd; have HR := hid hr; have HL := hid hlk
  clear h hsp hr hhw hkd hlk
  rw [show (decide (dk.1 ≠ 0)) = false by simpa using hd] at HL
  obtain ⟨k1, k2⟩ := dk
  simp only at hd
  subst hd
  simp only [declV] at HL
  go_enter Try.func19, Try.ntmps19
  go_upto_region 3 with (first | (go_at_call 37; refine (split_yes l hwf rb _ _ (by exact H.out.rf) n hn HSP.out).mono ?_; rintro e w2 ⟨tv, rfl, htv, hb2⟩; rw [HW.out]; rw [HKD.out] at htv; have HTV := hid htv; clear htv) | (go_at_call 38; refine (declares_any _).mono ?_; rintro e w3 ⟨mb, rfl, hmb, hM, hb3⟩; have hlk := HL.out _ _ hM))
  have hB4 : Below w.heap.size w (w3.alloc (.cells #[.string ⟨#[]⟩, .int .u8 0, .int .u8 k2] 66)) := (hb2.trans (hb3.mono hb2.size)).alloc (Nat.le_trans hb2.size hb3.size) _
  generalize w3.alloc (.cells #[.string ⟨#[]⟩, .int .u8 0, .int .u8 k2] 66) = w4 at hB4 ⊢
  have hB4d : Below w.heap.size w w4.drew := hB4.trans ⟨rfl, rfl, rfl, Nat.le_refl _, fun _ _ => rfl⟩
  have X4 := H.out.below hB4d
  have S4 := RStep.of_below (rb := rb) (S := S) (Z := Z) hB4d
  clear hlk hM hmb hb3 hb2 HL HTV hB4
  rcases hss : stmtS l f (n : Int) (p.exprs, p.stmts) with ⟨m, s⟩ | er
  · have HR2 := hid (HR.out.trans (by rw [hss]))
    have HS := hid hss
    clear hss HR
    refine wp_region_rg2 11 (fun dn w' => dn 10 = false → ∃ S' Z', RX w' l lo rb S' Z' { p with exprs := if dn 8 then s.1 else p.exprs, stmts := if dn 8 then s.2 else p.stmts } ∧ RStep w rb S Z w' S' Z') (postL w4 rb n (S 3) (fun v => v = .int .i64 m) (fun v w' => ∃ B : Nat, v = .slice (some ⟨B, 0, none⟩) 1 1 ∧ w.heap.size ≤ B ∧ w'.heap[B]? = some (.cells #[.int .i64 m] 3 (0, 0))) (fun v w' => PXM w w' l lo rb S Z { p with exprs := s.1, stmts := s.2 } m v)) (by kernel_rfl) (by kernel_rfl) (by rfl) (fun _ => ⟨S, Z, X4, S4⟩) ?rgO ?rgE
    case rgO =>
      refine ⟨?_, ?_, ?_, ?_, ?_, ?_, ?_, ?_, ?_, ?_, ?_, trivial⟩
      · refine RgOk2.val rfl (fun dn w h => by simpa [dn1] using h) fun a wq dn hI hD hF => ⟨?_, ?_, ?_⟩
        rotate_left 2
        · exact rfl
        · have s0 : a.tmps.getD 0 undef = _ := hF.get 0 rfl; simp [execOp, go_sem, Act.eval, s0]
      · refine RgOk2.val rfl (fun dn w h => by simpa [dn1] using h) fun a wq dn hI hD hF => ⟨?_, ?_, ?_⟩
        rotate_left 2
        · exact rfl
        · have s0 : a.tmps.getD 0 undef = _ := hF.get 0 rfl; simp [execOp, go_sem, Act.eval, s0]
      · refine RgOk2.val rfl (fun dn w h => by simpa [dn1] using h) fun a wq dn hI hD hF => ⟨?_, ?_, ?_⟩
        rotate_left 2
        · exact rfl
        · have d1 : a.tmps.getD 23 undef = _ := hD.get 1 rfl rfl rfl; simp [execOp, go_sem, Act.eval, d1]
      · refine RgOk2.val rfl (fun dn w h => by simpa [dn1] using h) fun a wq dn hI hD hF => ⟨?_, ?_, ?_⟩
        rotate_left 2
        · exact rfl
        · have d2 : a.tmps.getD 24 undef = _ := hD.get 2 rfl rfl rfl; simp [execOp, go_sem, Act.eval, d2]
      · refine RgOk2.val rfl (fun dn w h => by simpa [dn1] using h) fun a wq dn hI hD hF => ⟨?_, ?_, ?_⟩
        rotate_left 2
        · exact rfl
        · have d3 : a.tmps.getD 25 undef = _ := hD.get 3 rfl rfl rfl; simp [execOp, go_sem, Act.eval, d3]
      · refine RgOk2.turn rfl fun a wq dn h0 hcl hI hD hF => ?_
        obtain ⟨S', Z', q1, q2⟩ := hI (hcl.no 10 5 rfl rfl h0)
        obtain ⟨fv, hb, _⟩ := q1.blk
        have hc := blk_cell hb 4
        rw [show S' 3 = S 3 from q2.kept.2] at hc
        have d4 : a.tmps.getD 26 undef = _ := hD.get 4 rfl rfl rfl
        refine ⟨S 3, wq, by simp [execOp, go_sem, Act.eval, d4, hc], by simpa [dn1] using hI, rfl, fun _ _ _ _ h => h⟩
      · refine RgOk2.val rfl (fun dn w h => by simpa [dn1] using h) fun a wq dn hI hD hF => ⟨?_, ?_, ?_⟩
        rotate_left 2
        · exact rfl
        · have s0 : a.tmps.getD 0 undef = _ := hF.get 0 rfl; simp [execOp, go_sem, Act.eval, s0]
      · refine RgOk2.val rfl (fun dn w h => by simpa [dn1] using h) fun a wq dn hI hD hF => ⟨?_, ?_, ?_⟩
        rotate_left 2
        · exact rfl
        · have s1 : a.tmps.getD 1 undef = _ := hF.get 1 rfl; simp [execOp, go_sem, Act.eval, s1]
      · refine RgOk2.call rfl 39 fun a wq dn h0 hcl hI hD hF => ⟨#[.pointer (some ⟨rb, 0, none⟩), .int .i64 (n : Int)], ?_, ?_⟩
        rotate_left 1
        have h9 := hcl.no 9 8 rfl rfl h0
        have h10 := hcl.no 10 8 rfl rfl h0
        obtain ⟨S', Z', q1, q2⟩ := hI h10
        simp only [h0, if_false, Bool.false_eq_true] at q1
        refine (stmt_any l hwf hk9 f n wq lo rb S' Z' _ hn hf q1 hc1 hc2).mono ?_
        rintro e w5 he
        simp only at he
        rw [HS.out] at he
        obtain ⟨rfl, S2, Z2, hX2, hSt2⟩ := he
        exact .inl ⟨_, rfl, fun _ => ⟨S2, Z2, by simpa [dn1] using hX2, q2.trans hSt2⟩, rfl, fun i u hi hd hp => postL_pure (fun e => by subst e; rw [h9] at hd; cases hd) (fun e => by subst e; rw [h10] at hd; cases hd) hp⟩
        have d6 : a.tmps.getD 28 undef = _ := hD.get 6 rfl rfl rfl; have d7 : a.tmps.getD 29 undef = _ := hD.get 7 rfl rfl rfl
        simp only [Array.getD_eq_getD_getElem?] at d6 d7
        simp [execOp, go_sem, Act.eval, d6, d7]
      · refine RgOk2.turn rfl fun a wq dn h0 hcl hI hD hF => ?_
        have h10 := hcl.no 10 9 rfl rfl h0
        obtain ⟨S', Z', q1, q2⟩ := hI h10
        have d8 : a.tmps.getD 30 undef = _ := hD.get 8 rfl rfl rfl
        simp only [Array.getD_eq_getD_getElem?] at d8
        have hbq := (Below.refl wq.heap.size wq).alloc (Nat.le_refl _) (.cells #[.int .i64 m] 3)
        refine ⟨_, wq.alloc (.cells #[.int .i64 m] 3), ?_, fun _ => ⟨S', Z', by simpa [dn1] using q1.below hbq, q2.trans (RStep.of_below hbq)⟩, ⟨wq.heap.size, rfl, q2.grow.size, new_blk _ _⟩, fun i u hi hd hp => postL_pure hi (fun e => by subst e; rw [h10] at hd; cases hd) hp⟩
        simp [execOp, go_sem, Act.eval, d8]
      · refine RgOk2.append (R := fun _ => IntR) rfl ty_int (.tmp 27) (.tmp 31) rfl p.main m [.int .i64 m] rfl (by simp [Value.oneCell']) (by omega) (by omega) fun a wq dn h0 hcl hI hD hF => ?_
        obtain ⟨S', Z', q1, q2⟩ := hI h0
        have d5 : a.tmps.getD 27 undef = S 3 := hD.get 5 rfl rfl rfl
        obtain ⟨B, d9, hB1, hB2⟩ := hD.get 9 rfl rfl rfl
        have hn8 : dn 8 = true := hcl.yes 8 rfl
        rw [hn8, if_pos rfl, if_pos rfl] at q1
        refine ⟨B, S 3, d5, d9, hB2, by have := q1.main; rw [q2.kept.2] at this; exact this, rfl, fun g cap w' hG => ?_⟩
        refine ⟨fun h => by simp [dn1] at h, ⟨g, cap, S', Z', wq, rfl, q1, q2, by rw [q2.kept.2]; exact hG⟩, fun i u hi hd hp => ?_⟩
        by_cases h9 : i = 9
        subst h9
        obtain ⟨B', e1, e2, e3⟩ := hp
        exact ⟨B', e1, e2, hG.keep e3 (fun e => by have := H.out.lt 3 _ e; omega)⟩
        exact postL_pure h9 hi hp
    case rgE =>
      intro vs w5 hI hP
      obtain ⟨g, cap, S', Z', wq, e10, q1, q2, hG⟩ := hP 10 _ _ (by omega) rfl rfl
      have e0 : vs 0 = _ := hP 0 _ _ (by omega) rfl rfl
      simp only [rgPut, List.take, List.drop, Nat.zero_add, Nat.reduceAdd, e0, e10]
      clear hI hP e0 e10
      obtain ⟨h2, h3⟩ := q1.pushM hG
      have h4 := q2.l.trans h3
      obtain ⟨fv, hb, _⟩ := q1.blk
      have hb5 := hG.keep hb (fun e => (q1.low 3 _ e).2.1 rfl)
      have z4 := blk_cell hb5 4; have zf := blk_free hb5
      have H2 := hid h2; have H4 := hid h4
      clear hb hb5 h2 h4 h3 hG q1 q2 X4 S4 hB4d
      go_wp2
      go_end0
      exact LineP.ok (HR2.out) H2.out H4.out
  · have HR2 := hid (HR.out.trans (by rw [hss]))
    have HS := hid hss
    clear hss HR
    refine wp_region_rg2 11 (fun dn w' => RX w' l lo rb S Z p ∧ RStep w rb S Z w' S Z) (postL w4 rb n (S 3) (fun v => False) (fun v w' => False) (fun v w' => False)) (by kernel_rfl) (by kernel_rfl) (by rfl) ⟨X4, S4⟩ ?rgO ?rgE
    case rgO =>
      refine ⟨?_, ?_, ?_, ?_, ?_, ?_, ?_, ?_, ?_, ?_, ?_, trivial⟩
      · refine RgOk2.val rfl (fun dn w h => h) fun a wq dn hI hD hF => ⟨?_, ?_, ?_⟩
        rotate_left 2
        · exact rfl
        · have s0 : a.tmps.getD 0 undef = _ := hF.get 0 rfl; simp [execOp, go_sem, Act.eval, s0]
      · refine RgOk2.val rfl (fun dn w h => h) fun a wq dn hI hD hF => ⟨?_, ?_, ?_⟩
        rotate_left 2
        · exact rfl
        · have s0 : a.tmps.getD 0 undef = _ := hF.get 0 rfl; simp [execOp, go_sem, Act.eval, s0]
      · refine RgOk2.val rfl (fun dn w h => h) fun a wq dn hI hD hF => ⟨?_, ?_, ?_⟩
        rotate_left 2
        · exact rfl
        · have d1 : a.tmps.getD 23 undef = _ := hD.get 1 rfl rfl rfl; simp [execOp, go_sem, Act.eval, d1]
      · refine RgOk2.val rfl (fun dn w h => h) fun a wq dn hI hD hF => ⟨?_, ?_, ?_⟩
        rotate_left 2
        · exact rfl
        · have d2 : a.tmps.getD 24 undef = _ := hD.get 2 rfl rfl rfl; simp [execOp, go_sem, Act.eval, d2]
      · refine RgOk2.val rfl (fun dn w h => h) fun a wq dn hI hD hF => ⟨?_, ?_, ?_⟩
        rotate_left 2
        · exact rfl
        · have d3 : a.tmps.getD 25 undef = _ := hD.get 3 rfl rfl rfl; simp [execOp, go_sem, Act.eval, d3]
      · refine RgOk2.turn rfl fun a wq dn h0 hcl hI hD hF => ?_
        obtain ⟨q1, q2⟩ := hI
        obtain ⟨fv, hb, _⟩ := q1.blk
        have hc := blk_cell hb 4
        have d4 : a.tmps.getD 26 undef = _ := hD.get 4 rfl rfl rfl
        refine ⟨S 3, wq, by simp [execOp, go_sem, Act.eval, d4, hc], ⟨q1, q2⟩, rfl, fun _ _ _ _ h => h⟩
      · refine RgOk2.val rfl (fun dn w h => h) fun a wq dn hI hD hF => ⟨?_, ?_, ?_⟩
        rotate_left 2
        · exact rfl
        · have s0 : a.tmps.getD 0 undef = _ := hF.get 0 rfl; simp [execOp, go_sem, Act.eval, s0]
      · refine RgOk2.val rfl (fun dn w h => h) fun a wq dn hI hD hF => ⟨?_, ?_, ?_⟩
        rotate_left 2
        · exact rfl
        · have s1 : a.tmps.getD 1 undef = _ := hF.get 1 rfl; simp [execOp, go_sem, Act.eval, s1]
      · refine RgOk2.call rfl 39 fun a wq dn h0 hcl hI hD hF => ⟨#[.pointer (some ⟨rb, 0, none⟩), .int .i64 (n : Int)], ?_, ?_⟩
        rotate_left 1
        refine (stmt_any l hwf hk9 f n wq lo rb S Z _ hn hf hI.1 hc1 hc2).mono ?_
        rintro e w5 he
        rw [HS.out] at he
        obtain ⟨rfl, hBp⟩ := he
        exact .inr ⟨_, rfl, hF.1, LineP.no HR2.out ((RStep.below H.out hI.2).trans hBp)⟩
        have d6 : a.tmps.getD 28 undef = _ := hD.get 6 rfl rfl rfl; have d7 : a.tmps.getD 29 undef = _ := hD.get 7 rfl rfl rfl
        simp only [Array.getD_eq_getD_getElem?] at d6 d7
        simp [execOp, go_sem, Act.eval, d6, d7]
      · exact RgOk2.absurd fun a w hD => hD.get 8 rfl rfl rfl
      · exact RgOk2.absurd fun a w hD => hD.get 9 rfl rfl rfl
    case rgE =>
      intro vs w5 hI hP
      exact (hP 8 _ _ (by omega) rfl rfl).elim
/-- a line, whatever it is -/
theorem line_any (l : List Form) (hwf : WF l) (hk9 : ∀ k, (fm l k).kids.length ≤ 90000) (f : Nat) (w : World) (lo rb : Nat) (S : Nat → Value) (Z : Nat → Prop) (p : Prg) (h : RX w l lo rb S Z p) (n : Nat) (hn : n < l.length) (hf : (l.length : Int) - n < f)
    (hc1 : p.exprs.length + cntE l f n ≤ 99999) (hc2 : p.stmts.length + cntE l f n ≤ 99999) (hm9 : p.main.length ≤ 99999) (hd9 : p.decls.length ≤ 24) :
    Calls Try.prog 19 #[.pointer (some ⟨rb, 0, none⟩), .int .i64 (n : Int)] w (LineP w l lo rb S Z (lineS l f n p)) := by
  by_cases hsp : splitOk l (n : Int) = true
  case neg => exact line_nosplit l hwf w lo rb S Z p h n hn (by simpa using hsp) _ (by unfold lineS; rw [if_neg hsp])
  by_cases hd : (declK (headW l (n : Int))).1 = 0
  · exact line_stmt l hwf hk9 f w lo rb S Z p h n hn hf hc1 hc2 hm9 hsp hd _ (by unfold lineS; rw [if_pos hsp, if_pos hd]; rcases stmtS l f (n : Int) (p.exprs, p.stmts) with ⟨m, s⟩ | e <;> rfl)
  · exact line_decl l hwf w lo rb S Z p h n hn hsp hd hd9 _ (by unfold lineS; rw [if_pos hsp, if_neg hd])
/-- what a line adds -/
theorem lineS_len {l : List Form} (hwf : WF l) {f : Nat} {n : Int} (hn : Kin l f n) {p q : Prg} (h : lineS l f n p = .inl q) (hd : p.decls.length ≤ 24) :
    q.exprs.length ≤ p.exprs.length + cntE l f n ∧ q.stmts.length ≤ p.stmts.length + cntE l f n ∧ q.decls.length ≤ 24 ∧ q.main.length ≤ p.main.length + 1 := by
  unfold lineS at h
  split at h
  · split at h
    · split at h
      · cases h
      · rename_i m s hs
        have := stmtS_len hwf f n hn _ _ hs
        cases h
        simpa using ⟨this.1, this.2, hd⟩
    · split at h
      · split at h
        · cases h
        · split at h
          · cases h
            simp
            omega
          · cases h
      · cases h
  · cases h
end Go.Proofs.Ytgaginegcjpddaa
/- Forms that are right: each one behind the one it lies in, none met twice. -/
namespace Go.Proofs.Ytgaginegcjpddaa
open Go.RowKit
structure WkF (l : List Form) (ps : List Int) (next nx : Int) : Prop where
  le : next ≤ nx
  tops : ∀ p ∈ ps, next ≤ p ∧ p < nx
  top : nx ≤ l.length ∨ nx = next
  kids : ∀ k, next ≤ k → k < nx → ∀ j ∈ (nth l k.toNat).kids, k < j ∧ j < nx
  many : ∀ k, next ≤ k → k < nx → ((nth l k.toNat).kids.length : Int) ≤ nx - next
  len : (ps.length : Int) ≤ nx - next
  cnt : ∀ g, (cntL l g ps : Int) ≤ nx - next
theorem walk_facts (l : List Form) : ∀ (f : Nat) (ps : List Int) (next nx : Int), 0 ≤ next → walkS l f ps next = (nx, true) → WkF l ps next nx
  | 0, ps, next, nx, h0, h => by simp [walkS] at h
  | f + 1, [], next, nx, h0, h => by
    simp only [walkS, Prod.mk.injEq, and_true] at h
    subst h
    exact ⟨Int.le_refl _, by simp, .inr rfl, fun k h1 h2 => by omega, fun k h1 h2 => by omega, by simp, fun g => by simp [cntL]⟩
  | f + 1, n :: r, next, nx, h0, h => by
    simp only [walkS] at h
    split at h
    · cases h
    · rename_i hn
      split at h
      · rename_i nx1 he
        have h1 := walk_facts l f _ (n + 1) nx1 (by omega) he
        have hle1 := h1.le
        have h2 := walk_facts l f r nx1 nx (by omega) h
        have hle2 := h2.le
        have hnn : n = next := by omega
        subst hnn
        refine ⟨by omega, ?_, ?_, ?_, ?_, ?_, ?_⟩
        · intro p hp
          rcases List.mem_cons.1 hp with rfl | hp
          · omega
          · have := h2.tops p hp; omega
        · rcases h2.top with h3 | h3
          · exact .inl h3
          · rcases h1.top with h4 | h4
            · left; omega
            · left; omega
        · intro k hk1 hk2 j hj
          by_cases e : k = n
          · subst e
            have := h1.tops j hj; omega
          · by_cases e2 : k < nx1
            · have := h1.kids k (by omega) e2 j hj; omega
            · have := h2.kids k (by omega) hk2 j hj; omega
        · intro k hk1 hk2
          by_cases e : k = n
          · subst e
            have := h1.len; omega
          · by_cases e2 : k < nx1
            · have := h1.many k (by omega) e2; omega
            · have := h2.many k (by omega) hk2; omega
        · have := h2.len
          simp only [List.length_cons]
          omega
        · intro g
          rw [cntL_cons]
          have q2 := h2.cnt g
          cases g with
          | zero => simp only [cntE]; omega
          | succ g =>
            have q1 := h1.cnt g
            have e : cntE l (g + 1) n = 1 + cntL l g (nth l n.toNat).kids := rfl
            rw [e]
            omega
      · cases h
theorem nth_out {α : Type} [Inhabited α] {l : List α} {n : Nat} (h : l.length ≤ n) : nth l n = default := by
  simp [nth, h]
structure RightF (l : List Form) (top : List Int) : Prop where
  wf : WF l
  len : l.length ≤ 400
  kids : ∀ k, (fm l k).kids.length ≤ 400
  topIn : ∀ k ∈ top, Kin l (l.length + 1) k
  tops : top.length ≤ 400
  cnt : ∀ g, cntL l g top ≤ 400
  alone : ∀ f ∈ l, aloneS f = true
theorem right_facts {l : List Form} {top : List Int} (h : rightS l top = true) : RightF l top := by
  unfold rightS walkedS at h
  simp only [Bool.and_eq_true, decide_eq_true_eq, List.all_eq_true] at h
  obtain ⟨⟨h4, ha⟩, ⟨hb, hx⟩, hd⟩ := h
  have hw := walk_facts l (l.length + 1) top 0 (l.length : Int) (Int.le_refl _) (by rw [← hx, ← hb])
  refine ⟨?_, h4, ?_, ?_, ?_, ?_, ha⟩
  · intro n hn k hk
    exact hw.kids (n : Int) (by omega) (by omega) k (by simpa using hk)
  · intro k
    by_cases hk : k.toNat < l.length
    · have := hw.many (k.toNat : Int) (by omega) (by omega)
      simp only [Int.toNat_natCast] at this
      unfold fm
      omega
    · unfold fm
      rw [nth_out (by omega)]
      show ([] : List Int).length ≤ 400
      simp
  · intro k hk
    have := hw.tops k hk
    exact ⟨k.toNat, by omega, by omega, by omega⟩
  · have := hw.len; omega
  · intro g; have := hw.cnt g; omega
end Go.Proofs.Ytgaginegcjpddaa
/- The program's writer: what it gives up with; places that are below. -/
namespace Go.Proofs.Ytgaginegcjpddaa
open Go.RowKit
/-- what the writer gives up with -/
def wStop : List PanicEntry := [{ v := .iface 81 (.agg #[]), recovered := false }]
theorem belowW (n m : Int) (w : World) : Calls Try.prog 31 #[.int .i64 n, .int .i64 m] w fun e w' => (if 0 ≤ n ∧ n < m then e = .returned (.tuple #[]) else e = .panicked wStop) ∧ w' = w := by
  refine (below_any n m w).mono ?_
  rintro e w' ⟨h, rfl⟩
  refine ⟨?_, rfl⟩
  by_cases hh : 0 ≤ n ∧ n < m
  · rw [if_pos hh]
    rwa [if_neg (by omega)] at h
  · rw [if_neg hh]
    rw [if_pos (by omega)] at h
    exact h
end Go.Proofs.Ytgaginegcjpddaa
/- The program's writer in memory. -/
namespace Go.Proofs.Ytgaginegcjpddaa
open Go.RowKit
/-- the writer in memory -/
structure WX (w : World) (lo : Nat) (ex : Nat → Prop) (pb : Nat) (D : Nat → Value) (S : Nat → Value) (l : List Form) (top : List Int) : Prop where
  blk : w.heap[pb]? = some (.cells #[D 0, D 1, D 2, D 3, S 0, S 1] 85 (0, 0))
  ft : FT w lo ex S l top []
  ex : ex pb
  lo : lo ≤ pb
theorem WX.alloc {w : World} {lo : Nat} {ex : Nat → Prop} {pb : Nat} {D : Nat → Value} {S : Nat → Value} {l : List Form} {top : List Int} (h : WX w lo ex pb D S l top) (o : Obj) : WX (w.alloc o) lo (fun b => ex b ∨ b = w.heap.size) pb D S l top :=
  ⟨old_blk h.blk o, h.ft.alloc o, .inl h.ex, h.lo⟩
theorem WX.below {w w' : World} {lo : Nat} {ex : Nat → Prop} {pb : Nat} {D : Nat → Value} {S : Nat → Value} {l : List Form} {top : List Int} (h : WX w lo ex pb D S l top) (hb : Below w.heap.size w w') : WX w' lo ex pb D S l top :=
  ⟨keep_blk hb h.blk, h.ft.below hb, h.ex, h.lo⟩
theorem WX.less {w : World} {lo : Nat} {ex ex' : Nat → Prop} {pb : Nat} {D : Nat → Value} {S : Nat → Value} {l : List Form} {top : List Int} (h : WX w lo ex pb D S l top) (he : ∀ b, ex' b → ex b) (hp : ex' pb) : WX w lo ex' pb D S l top :=
  ⟨h.blk, h.ft.less he, hp, h.lo⟩
theorem WX.no {w : World} {lo : Nat} {ex : Nat → Prop} {pb : Nat} {D : Nat → Value} {S : Nat → Value} {l : List Form} {top : List Int} (h : WX w lo ex pb D S l top) {b : Nat} (hb : ex b) (i : Nat) : (S i).ownBlock ≠ some b := fun e => (h.ft.low i b e).2 hb
/-- what an append at one of the slots leaves alone -/
theorem WX.lows {w w1 : World} {lo : Nat} {ex : Nat → Prop} {pb : Nat} {D : Nat → Value} {S : Nat → Value} {l : List Form} {top : List Int} (h : WX w lo ex pb D S l top) {α : Type} {k e size : Nat} {R : α → List Value → Prop} {l0 m : List α} {g cap : Nat} (hG : Grew w w1 (S k) e size R l0 m g cap) {p : Addr} (hp : lo ≤ p.block) (v : Value) : Below lo w (w1.setCell p v) :=
  ⟨hG.grown.os, hG.grown.tape, hG.grown.output, by simpa using hG.grown.size, fun i hi => (Below.heap_setCell _ _ _ _ (by omega)).trans (hG.grown.block i (by have := h.ft.lows.1; omega) (fun e => by have := (h.ft.low k i e.symm).1; omega))⟩
theorem WX.keeps {w w1 : World} {lo : Nat} {ex : Nat → Prop} {pb : Nat} {D : Nat → Value} {S : Nat → Value} {l : List Form} {top : List Int} (h : WX w lo ex pb D S l top) {α : Type} {k e size : Nat} {R : α → List Value → Prop} {l0 m : List α} {g cap : Nat} (hG : Grew w w1 (S k) e size R l0 m g cap) {b : Nat} {o : Obj} (hb : w.heap[b]? = some o) (hx : ex b) {p : Addr} (hp : b ≠ p.block) (v : Value) : (w1.setCell p v).heap[b]? = some o :=
  set_blk (hG.keep hb (h.no hx k)) p v hp
theorem WX.keepb {w w1 : World} {lo : Nat} {ex : Nat → Prop} {pb : Nat} {D : Nat → Value} {S : Nat → Value} {l : List Form} {top : List Int} (h : WX w lo ex pb D S l top) {α : Type} {k e size : Nat} {R : α → List Value → Prop} {l0 m : List α} {g cap : Nat} (hG : Grew w w1 (S k) e size R l0 m g cap) {b : Nat} (hx : ex b) {p : Addr} (hp : b ≠ p.block) (v : Value) : (w1.setCell p v).heap[b]? = w.heap[b]? := by
  have hlt := h.ft.lows.2 b hx
  have hb : w.heap[b]? = some w.heap[b] := Array.getElem?_eq_getElem hlt
  rw [hb]; exact h.keeps hG hb hx hp v
theorem WX.form {w w1 : World} {lo : Nat} {ex : Nat → Prop} {pb : Nat} {D : Nat → Value} {S : Nat → Value} {l : List Form} {top : List Int} (h : WX w lo ex pb D S l top) {f : Form} (hf : f.kids = []) {g cap : Nat} (hG : Grew w w1 (S 0) 93 5 (FormC S) l.zipIdx (l.zipIdx ++ [(f, l.length)]) g cap) :
    WX (w1.setCell ⟨pb, 4, none⟩ (.slice (some ⟨g, 0, none⟩) (l.length + 1) cap)) lo ex pb D (up S 0 (.slice (some ⟨g, 0, none⟩) (l.length + 1) cap)) (l ++ [f]) top :=
  ⟨by have := blk_set (j := 4) (hG.keep h.blk (h.no h.ex 0)) (.slice (some ⟨g, 0, none⟩) (l.length + 1) cap); simpa [up] using this, (h.ft.form hf hG).setEx h.ex 4 _, h.ex, h.lo⟩
theorem WX.top {w w1 : World} {lo : Nat} {ex : Nat → Prop} {pb : Nat} {D : Nat → Value} {S : Nat → Value} {l : List Form} {top : List Int} (h : WX w lo ex pb D S l top) {x : Int} {g cap : Nat} (hG : Grew w w1 (S 1) 3 1 IntR top (top ++ [x]) g cap) :
    WX (w1.setCell ⟨pb, 5, none⟩ (.slice (some ⟨g, 0, none⟩) (top.length + 1) cap)) lo ex pb D (up S 1 (.slice (some ⟨g, 0, none⟩) (top.length + 1) cap)) l (top ++ [x]) :=
  ⟨by have := blk_set (j := 5) (hG.keep h.blk (h.no h.ex 1)) (.slice (some ⟨g, 0, none⟩) (top.length + 1) cap); simpa [up] using this, by
    have := (h.ft.push 0 (by omega) hG).setEx h.ex 5 (.slice (some ⟨g, 0, none⟩) (top.length + 1) cap)
    simpa using this, h.ex, h.lo⟩
theorem WX.kid {w w1 : World} {lo : Nat} {ex : Nat → Prop} {pb : Nat} {D : Nat → Value} {S : Nat → Value} {l : List Form} {top : List Int} (h : WX w lo ex pb D S l top) {j : Nat} (hj : j < l.length) {x : Int} {b n c : Nat} (h0 : S 0 = .slice (some ⟨b, 0, none⟩) n c) {g cap : Nat} (hG : Grew w w1 (S (j + 3)) 3 1 IntR (nth l j).kids ((nth l j).kids ++ [x]) g cap) :
    WX (w1.setCell ⟨b, j * 5 + 3, none⟩ (.slice (some ⟨g, 0, none⟩) ((nth l j).kids.length + 1) cap)) lo ex pb D (up S (j + 3) (.slice (some ⟨g, 0, none⟩) ((nth l j).kids.length + 1) cap)) (l.set j { nth l j with kids := (nth l j).kids ++ [x] }) top := by
  have hG' : Grew w w1 (S (j + 2 + 1)) 3 1 IntR (ints l top [] (j + 2)) ((nth l j).kids ++ [x]) g cap := hG
  have hpb : b ≠ pb := fun e => h.no h.ex 0 (by rw [h0, e]; rfl)
  have hlen : ((nth l j).kids ++ [x]).length = (nth l j).kids.length + 1 := by simp
  refine ⟨?_, ?_, h.ex, h.lo⟩
  · have := set_blk (hG.keep h.blk (h.no h.ex (j + 3))) ⟨b, j * 5 + 3, none⟩ (.slice (some ⟨g, 0, none⟩) ((nth l j).kids.length + 1) cap) (Ne.symm hpb)
    simpa [up] using this
  · refine (h.ft.grewI hG').kid hj (m := (nth l j).kids ++ [x]) ?_ (grew_fresh h.ft hG) h0
    have := hG.own
    rw [hlen] at this
    exact this
/-- the cells of the form that stands at a place -/
theorem WX.formAt {w : World} {lo : Nat} {ex : Nat → Prop} {pb : Nat} {D : Nat → Value} {S : Nat → Value} {l : List Form} {top : List Int} (h : WX w lo ex pb D S l top) {j : Nat} (hj : j < l.length) : ∃ b c, S 0 = .slice (some ⟨b, 0, none⟩) l.length c ∧ l.length ≤ c ∧ c ≤ 9223372036854775807 ∧ b < w.heap.size ∧
    (∀ i v, ((nth l j).cells (S (j + 3)))[i]? = some v → w.cell? ⟨b, j * 5 + i, none⟩ = some v) ∧ ∀ i, w.frozen? ⟨b, i, none⟩ = false := by
  obtain ⟨xs, ho, hc⟩ := h.ft.forms.out
  rcases ho.2 with ⟨_, h2⟩ | ⟨g, cap, cur, h1, _, hg, h2, h3, _⟩
  · rw [List.length_zipIdx] at h2; omega
  · refine ⟨g, cap, by simpa using h1, by simpa using h2, by simpa [maxLen] using h3, blk_lt hg, fun i v hv => ?_, fun i => blk_free hg i⟩
    obtain ⟨cs, hr, hl, hcs⟩ := hc.at_ (fun _ _ h => h.len) j (by simpa using hj)
    rw [nth_zipIdx hj] at hr
    have hr' : cs = (nth l j).cells (S (j + 3)) := hr
    subst hr'
    have := ho.cells (g := g) (by rw [h1]; rfl) (j * 5 + i) v (hcs i v hv)
    rwa [add_plain'] at this
end Go.Proofs.Ytgaginegcjpddaa
/- The program's writer: a form more. -/
namespace Go.Proofs.Ytgaginegcjpddaa
open Go.RowKit
structure WWf (l : List Form) (top : List Int) : Prop where
  l400 : l.length ≤ 400
  t400 : top.length ≤ l.length
  kids : ∀ f ∈ l, f.kids.length ≤ l.length
theorem pt_writer1 : PushTy Try.prog 85 1 4 29 93 5 64 := ⟨ty_Form, by intros; simp [go_sem], by intro a v w h; simp [go_sem, h], by intro a p n c w u h1 h2; simp [go_sem, h1, h2]⟩
theorem pt_writer2 : PushTy Try.prog 85 2 5 25 3 1 8 := ⟨ty_int, by intros; simp [go_sem], by intro a v w h; simp [go_sem, h], by intro a p n c w u h1 h2; simp [go_sem, h1, h2]⟩
/-- the writer's forms, and the uppermost ones -/
abbrev WSt := List Form × List Int
/-- a form more, in a bracket (below 0: in none) -/
def formS (br : Int) (f : Form) (s : WSt) : Option (Int × WSt) :=
  if 400 ≤ s.1.length then none
  else if br < 0 then some ((s.1.length : Int), s.1 ++ [f], s.2 ++ [(s.1.length : Int)])
  else some ((s.1.length : Int), (s.1 ++ [f]).set br.toNat { nth (s.1 ++ [f]) br.toNat with kids := (nth (s.1 ++ [f]) br.toNat).kids ++ [(s.1.length : Int)] }, s.2)
/-- what a call of the writer's comes to, in memory -/
structure WP (w : World) (lo : Nat) (ex : Nat → Prop) (pb : Nat) (D : Nat → Value) (r : Option (Value × WSt)) (e : Ending) (w' : World) : Prop where
  out : match r with
    | none => e = .panicked wStop
    | some (v, s) => e = .returned v ∧ ∃ S', WX w' lo ex pb D S' s.1 s.2 ∧ WWf s.1 s.2
  low : Below lo w w'
  keep : ∀ b, ex b → b ≠ pb → w'.heap[b]? = w.heap[b]?
theorem WP.ok {w w' : World} {lo : Nat} {ex : Nat → Prop} {pb : Nat} {D S' : Nat → Value} {r : Option (Value × WSt)} {v : Value} {s : WSt} (hr : r = some (v, s)) (hX : WX w' lo ex pb D S' s.1 s.2) (hW : WWf s.1 s.2) (hB : Below lo w w') (hK : ∀ b, ex b → b ≠ pb → w'.heap[b]? = w.heap[b]?) : WP w lo ex pb D r (.returned v) w' := by
  subst hr; exact ⟨⟨rfl, S', hX, hW⟩, hB, hK⟩
theorem WP.no {w w' : World} {lo : Nat} {ex : Nat → Prop} {pb : Nat} {D : Nat → Value} {r : Option (Value × WSt)} (hr : r = none) (hB : Below lo w w') (hK : ∀ b, ex b → b ≠ pb → w'.heap[b]? = w.heap[b]?) : WP w lo ex pb D r (.panicked wStop) w' := by
  subst hr; exact ⟨rfl, hB, hK⟩
def intR (r : Option (Int × WSt)) : Option (Value × WSt) := r.map fun q => (.int .i64 q.1, q.2)
def unitR (r : Option WSt) : Option (Value × WSt) := r.map fun q => (.tuple #[], q)
set_option maxHeartbeats 1600000 in
set_option maxRecDepth 100000 in
theorem formW_top (f : Form) (br : Int) (w : World) (lo pb : Nat) (ex : Nat → Prop) (D S : Nat → Value) (l : List Form) (top : List Int) (h : WX w lo ex pb D S l top) (hwf : WWf l top) (hk : f.kids = []) (hbr : br < 0) :
    Calls Try.prog 75 #[.pointer (some ⟨pb, 0, none⟩), .int .i64 br, .agg (f.cells nilv).toArray] w (WP w lo ex pb D (intR (formS br f (l, top)))) := by
  have q0 := blk_cell h.blk; have qf := blk_free h.blk
  have hpl := blk_lt h.blk
  have hlo := h.lo; have hlw := h.ft.lows.1
  obtain ⟨A0, c0, e0, _⟩ := h.ft.forms.slice
  obtain ⟨A1, c1, e1, _⟩ := (h.ft.rows 0).slice
  rw [e0, e1] at q0
  clear e0 e1
  simp only [ints, List.length_zipIdx] at q0
  unfold nilv
  go_enter Try.func75, Try.ntmps75
  by_cases hl : 400 ≤ l.length
  · have hl' : (400 : Int) ≤ (l.length : Int) := by omega
    have hfs : formS br f (l, top) = none := by unfold formS; rw [if_pos hl]
    have HFS := hid hfs; have hexl := hid h.ft.lows.2
    clear hfs
    go_wp2
    exact ⟨rfl, WP.no (by rw [HFS.out]; rfl) ((Below.refl _ _).alloc hlw _) fun b hb _ => Below.heap_alloc _ _ _ (hexl.out b hb)⟩
  have hl' : ¬ (400 : Int) ≤ (l.length : Int) := by omega
  have HFS := hid (show formS br f (l, top) = some ((l.length : Int), l ++ [f], top ++ [(l.length : Int)]) by unfold formS; rw [if_neg hl, if_pos hbr])
  go_upto_region 4 with fail
  have hK1 : ∀ b, ex b → b ≠ pb → (w.alloc (Obj.cells (f.cells (Value.slice none 0 0)).toArray 93)).heap[b]? = w.heap[b]? := fun b hb _ => Below.heap_alloc _ _ _ (h.ft.lows.2 b hb)
  have h1 := h.alloc (Obj.cells (f.cells (Value.slice none 0 0)).toArray 93)
  have hn1 := new_blk w (Obj.cells (f.cells (Value.slice none 0 0)).toArray 93)
  have hB1 : Below lo w (w.alloc (Obj.cells (f.cells (Value.slice none 0 0)).toArray 93)) := (Below.refl _ _).alloc hlw _
  refine wp_push pt_writer1 (by kernel_rfl) 0 17 _ (by kernel_rfl) (by rfl) (by rfl) (by rfl) (by omega) (R := FormC S) pb 0 (S 0) (.agg (f.cells nilv).toArray) (f.cells nilv) l.zipIdx (f, l.length) rfl (blk_cell h1.blk 4) (blk_free h1.blk 4) (h1.no h1.ex 0) h1.ft.forms ?el ?bs
    (by simp [FormC, h.ft.out l.length (Nat.le_refl _)]) rfl (by simp [Form.cells, nilv, Value.oneCell']) (by simp; omega) (by simp; omega) ?q
  case el =>
    intro a w' o5 ho hFr hgr
    have hb := (hgr.block w.heap.size (by simp) (fun e => h1.no (.inr rfl) 0 e.symm)).trans hn1
    have hc := blk_cell hb
    have ht : a.tmps.getD 5 undef = _ := hFr.get 5 (by rfl)
    simp only [Array.getD_eq_getD_getElem?] at ht
    simp [execOp, ho, go_sem, Act.eval, ht, hc, Form.cells, nilv]
  case bs => intro w'; simp [go_sem, Form.cells, nilv]
  case q =>
    intro B g cap w1 hG
    have h2 := h1.form hk hG
    have hB2 := hB1.trans (h1.lows hG (p := ⟨pb, 4, none⟩) hlo (.slice (some ⟨g, 0, none⟩) (l.length + 1) cap))
    have hK2 : ∀ b, ex b → b ≠ pb → (w1.setCell ⟨pb, 4, none⟩ (.slice (some ⟨g, 0, none⟩) (l.length + 1) cap)).heap[b]? = w.heap[b]? := fun b hb hp => (h1.keepb hG (.inl hb) hp _).trans (hK1 b hb hp)
    simp only [pushAct, Nat.add_zero, Nat.zero_add, Nat.reduceAdd, List.length_zipIdx]
    generalize w1.setCell ⟨pb, 4, none⟩ (.slice (some ⟨g, 0, none⟩) (l.length + 1) cap) = w2 at h2 hB2 hK2 ⊢
    obtain ⟨S2, hS2⟩ : ∃ S2, up S 0 (.slice (some ⟨g, 0, none⟩) (l.length + 1) cap) = S2 := ⟨_, rfl⟩
    rw [hS2] at h2
    have HK2 := hid hK2
    clear hG hS2 hn1 q0 qf h1 hB1 hK1 hK2
    go_upto_region 6 with fail
    refine wp_push pt_writer2 (by kernel_rfl) 0 29 _ (by kernel_rfl) (by rfl) (by rfl) (by rfl) (by omega) (R := IntR) pb 0 (S2 1) (.int .i64 (l.length : Int)) [.int .i64 (l.length : Int)] top (l.length : Int) rfl (blk_cell h2.blk 5) (blk_free h2.blk 5) (h2.no h2.ex 1) (h2.ft.rows 0) ?el2 ?bs2 rfl rfl (by simp [Value.oneCell']) (by have := hwf.t400; omega) (by have := hwf.t400; omega) ?q2
    case el2 =>
      intro a w' o5 ho5 hFr hgr
      have ht : a.tmps.getD 7 undef = _ := hFr.get 7 (by rfl)
      simp only [Array.getD_eq_getD_getElem?] at ht
      simp [execOp, ho5, go_sem, Act.eval, ht]
    case bs2 => intro w'; simp [go_sem]
    case q2 =>
      intro B g cap w3 hG
      simp only [pushAct, Nat.reduceAdd, Nat.zero_add, Nat.add_zero]
      have h3 := h2.top hG
      have hB3 := hB2.trans (h2.lows hG (p := ⟨pb, 5, none⟩) hlo (.slice (some ⟨g, 0, none⟩) (top.length + 1) cap))
      have hK3 : ∀ b, ex b → b ≠ pb → (w3.setCell ⟨pb, 5, none⟩ (.slice (some ⟨g, 0, none⟩) (top.length + 1) cap)).heap[b]? = w.heap[b]? := fun b hb hp => (h2.keepb hG (.inl hb) hp _).trans (HK2.out b hb hp)
      generalize w3.setCell ⟨pb, 5, none⟩ (.slice (some ⟨g, 0, none⟩) (top.length + 1) cap) = w4 at h3 hB3 hK3 ⊢
      have HK3 := hid hK3
      clear hK3
      have H3 := hid h3; have HB3 := hid hB3
      clear h3 hB3 h2 hB2 hG
      go_wp2
      go_ret
      exact WP.ok (by rw [HFS.out]; rfl) (H3.out.less (fun b hb => .inl hb) h.ex) ⟨by simp; omega, by have := hwf.t400; simp; omega, fun x hx => by
        rcases List.mem_append.1 hx with hx | hx
        · have := hwf.kids x hx; simp; omega
        · simp only [List.mem_singleton] at hx; subst hx; rw [hk]; simp⟩ HB3.out HK3.out
end Go.Proofs.Ytgaginegcjpddaa
/- The program's writer: a form more, in a bracket. -/
namespace Go.Proofs.Ytgaginegcjpddaa
open Go.RowKit
theorem WX.kid' {w : World} {lo : Nat} {ex : Nat → Prop} {pb : Nat} {D : Nat → Value} {S : Nat → Value} {l : List Form} {top : List Int} (h : WX w lo ex pb D S l top) {j : Nat} (hj : j < l.length) {v : Value} {m : List Int} (ho : IRow w v m) (hv : ∀ b, v.ownBlock = some b → (S (j + 3)).ownBlock = some b ∨ Fresh lo ex S b) {b n c : Nat} (h0 : S 0 = .slice (some ⟨b, 0, none⟩) n c) :
    WX (w.setCell ⟨b, j * 5 + 3, none⟩ v) lo ex pb D (up S (j + 3) v) (l.set j { nth l j with kids := m }) top := by
  have hpb : b ≠ pb := fun e => h.no h.ex 0 (by rw [h0, e]; rfl)
  refine ⟨?_, h.ft.kid hj ho hv h0, h.ex, h.lo⟩
  have := set_blk h.blk ⟨b, j * 5 + 3, none⟩ v (Ne.symm hpb)
  simpa [up] using this
def post7 (wc : World) (pb b j n : Nat) (fv kv : Value) (kids : List Int) : Nat → Value → World → Prop
  | 0, v, _ => v = .pointer (some ⟨pb, 0, none⟩)
  | 1, v, _ => v = .pointer (some ⟨pb, 0, none⟩)
  | 2, v, _ => v = .pointer (some ⟨pb, 4, none⟩)
  | 3, v, _ => v = fv
  | 4, v, _ => v = .int .i64 (j : Int)
  | 5, v, _ => v = .pointer (some ⟨pb, 0, none⟩)
  | 6, v, _ => v = .pointer (some ⟨pb, 0, none⟩)
  | 7, v, _ => v = .pointer (some ⟨pb, 4, none⟩)
  | 8, v, _ => v = fv
  | 9, v, _ => v = .int .i64 (j : Int)
  | 10, v, _ => v = .pointer (some ⟨b, j * 5, none⟩)
  | 11, v, _ => v = .pointer (some ⟨b, j * 5 + 3, none⟩)
  | 12, v, _ => v = kv
  | 13, v, _ => v = .int .i64 (n : Int)
  | 14, v, w => ∃ B : Nat, v = .slice (some ⟨B, 0, none⟩) 1 1 ∧ wc.heap.size ≤ B ∧ w.heap[B]? = some (.cells #[.int .i64 (n : Int)] 3 (0, 0))
  | 15, v, w => ∃ g cap : Nat, v = .slice (some ⟨g, 0, none⟩) (kids.length + 1) cap ∧ Own w 3 1 IntR (.slice (some ⟨g, 0, none⟩) (kids ++ [(n : Int)]).length cap) (kids ++ [(n : Int)]) ∧ (kv.ownBlock = some g ∨ wc.heap.size ≤ g)
  | _, _, _ => True
theorem post7_alloc {wc : World} {pb b j n : Nat} {fv kv : Value} {kids : List Int} {w : World} {i : Nat} {u : Value} (h : post7 wc pb b j n fv kv kids i u w) (o : Obj) : post7 wc pb b j n fv kv kids i u (w.alloc o) := by
  unfold post7 at h ⊢
  split at h <;> first
    | exact h
    | (obtain ⟨B, h1, h2, h3⟩ := h; exact ⟨B, h1, h2, old_blk h3 o⟩)
    | (obtain ⟨g, cap, h1, h2, h3⟩ := h; exact ⟨g, cap, h1, h2.alloc o, h3⟩)
theorem post7_append {wc : World} {pb b j n : Nat} {fv kv : Value} {kids : List Int} {w w' : World} {e size g cap : Nat} {R : Int → List Value → Prop} {l m : List Int} (hG : Grew w w' kv e size R l m g cap) (hB : ∀ B, wc.heap.size ≤ B → kv.ownBlock ≠ some B) {i : Nat} {u : Value} (hi : i ≠ 15) (h : post7 wc pb b j n fv kv kids i u w) : post7 wc pb b j n fv kv kids i u w' := by
  unfold post7 at h ⊢
  split at h <;> first
    | exact h
    | (obtain ⟨B, h1, h2, h3⟩ := h; exact ⟨B, h1, h2, hG.keep h3 (hB B h2)⟩)
    | exact absurd rfl hi
set_option maxHeartbeats 1600000 in
set_option maxRecDepth 100000 in
theorem formW_kid (f : Form) (j : Nat) (w : World) (lo pb : Nat) (ex : Nat → Prop) (D S : Nat → Value) (l : List Form) (top : List Int) (h : WX w lo ex pb D S l top) (hwf : WWf l top) (hk : f.kids = []) (hj : j < l.length) :
    Calls Try.prog 75 #[.pointer (some ⟨pb, 0, none⟩), .int .i64 (j : Int), .agg (f.cells nilv).toArray] w (WP w lo ex pb D (intR (formS (j : Int) f (l, top)))) := by
  have q0 := blk_cell h.blk; have qf := blk_free h.blk
  have hpl := blk_lt h.blk
  have hlo := h.lo; have hlw := h.ft.lows.1
  obtain ⟨A0, c0, e0, _⟩ := h.ft.forms.slice
  obtain ⟨A1, c1, e1, _⟩ := (h.ft.rows 0).slice
  rw [e0, e1] at q0
  clear e0 e1
  simp only [ints, List.length_zipIdx] at q0
  unfold nilv
  go_enter Try.func75, Try.ntmps75
  by_cases hl : 400 ≤ l.length
  · have hl' : (400 : Int) ≤ (l.length : Int) := by omega
    have hfs : formS (j : Int) f (l, top) = none := by unfold formS; rw [if_pos hl]
    have HFS := hid hfs; have hexl := hid h.ft.lows.2
    clear hfs
    go_wp2
    exact ⟨rfl, WP.no (by rw [HFS.out]; rfl) ((Below.refl _ _).alloc hlw _) fun b hb _ => Below.heap_alloc _ _ _ (hexl.out b hb)⟩
  have hl' : ¬ (400 : Int) ≤ (l.length : Int) := by omega
  have HFS := hid (show formS (j : Int) f (l, top) = some ((l.length : Int), (l ++ [f]).set j { nth (l ++ [f]) j with kids := (nth (l ++ [f]) j).kids ++ [(l.length : Int)] }, top) by unfold formS; rw [if_neg hl, if_neg (by omega), Int.toNat_natCast])
  go_upto_region 4 with fail
  have hK1 : ∀ b, ex b → b ≠ pb → (w.alloc (Obj.cells (f.cells (Value.slice none 0 0)).toArray 93)).heap[b]? = w.heap[b]? := fun b hb _ => Below.heap_alloc _ _ _ (h.ft.lows.2 b hb)
  have h1 := h.alloc (Obj.cells (f.cells (Value.slice none 0 0)).toArray 93)
  have hn1 := new_blk w (Obj.cells (f.cells (Value.slice none 0 0)).toArray 93)
  have hB1 : Below lo w (w.alloc (Obj.cells (f.cells (Value.slice none 0 0)).toArray 93)) := (Below.refl _ _).alloc hlw _
  refine wp_push pt_writer1 (by kernel_rfl) 0 17 _ (by kernel_rfl) (by rfl) (by rfl) (by rfl) (by omega) (R := FormC S) pb 0 (S 0) (.agg (f.cells nilv).toArray) (f.cells nilv) l.zipIdx (f, l.length) rfl (blk_cell h1.blk 4) (blk_free h1.blk 4) (h1.no h1.ex 0) h1.ft.forms ?el ?bs
    (by simp [FormC, h.ft.out l.length (Nat.le_refl _)]) rfl (by simp [Form.cells, nilv, Value.oneCell']) (by simp; omega) (by simp; omega) ?q
  case el =>
    intro a w' o5 ho hFr hgr
    have hb := (hgr.block w.heap.size (by simp) (fun e => h1.no (.inr rfl) 0 e.symm)).trans hn1
    have hc := blk_cell hb
    have ht : a.tmps.getD 5 undef = _ := hFr.get 5 (by rfl)
    simp only [Array.getD_eq_getD_getElem?] at ht
    simp [execOp, ho, go_sem, Act.eval, ht, hc, Form.cells, nilv]
  case bs => intro w'; simp [go_sem, Form.cells, nilv]
  case q =>
    intro B g cap w1 hG
    have h2 := h1.form hk hG
    have hB2 := hB1.trans (h1.lows hG (p := ⟨pb, 4, none⟩) hlo (.slice (some ⟨g, 0, none⟩) (l.length + 1) cap))
    have hK2 : ∀ b, ex b → b ≠ pb → (w1.setCell ⟨pb, 4, none⟩ (.slice (some ⟨g, 0, none⟩) (l.length + 1) cap)).heap[b]? = w.heap[b]? := fun b hb hp => (h1.keepb hG (.inl hb) hp _).trans (hK1 b hb hp)
    simp only [pushAct, Nat.add_zero, Nat.zero_add, Nat.reduceAdd, List.length_zipIdx]
    generalize w1.setCell ⟨pb, 4, none⟩ (.slice (some ⟨g, 0, none⟩) (l.length + 1) cap) = w2 at h2 hB2 hK2 ⊢
    obtain ⟨S2, hS2⟩ : ∃ S2, up S 0 (.slice (some ⟨g, 0, none⟩) (l.length + 1) cap) = S2 := ⟨_, rfl⟩
    rw [hS2] at h2
    have HK2 := hid hK2
    clear hG hS2 hn1 q0 qf h1 hB1 hK1 hK2
    have hjl : j < (l ++ [f]).length := by simp; omega
    obtain ⟨b, c, es, hc1, hc2, hblt, hcells, hfrz⟩ := h2.formAt hjl
    have hl2 : (l ++ [f]).length = l.length + 1 := by simp
    have hkl : (nth (l ++ [f]) j).kids.length ≤ 400 := by
      rw [nth_append_left hj]; have := hwf.kids _ (nth_mem hj); omega
    obtain ⟨kids, hkids⟩ : ∃ kids, (nth (l ++ [f]) j).kids = kids := ⟨_, rfl⟩
    obtain ⟨KA, kc, ek, _⟩ := (h2.ft.rows (j + 2)).slice
    have hrow := h2.ft.rows (j + 2)
    have hik : ints (l ++ [f]) top [] (j + 2) = kids := hkids
    rw [hik] at ek hrow
    have ek : S2 (j + 3) = .slice KA kids.length kc := ek
    have k4 : w2.cell? ⟨pb, 4, none⟩ = some (.slice (some ⟨b, 0, none⟩) (l.length + 1) c) := by rw [blk_cell h2.blk 4]; show some (S2 0) = _; rw [es, hl2]
    have k3 : w2.cell? ⟨b, j * 5 + 3, none⟩ = some (.slice KA kids.length kc) := by rw [← ek]; exact hcells 3 _ rfl
    have hbr : ¬ (j : Int) < 0 := by omega
    go_upto_region 7 with fail
    have hj0 : (0 : Int) ≤ (j : Int) := by omega
    have hj1 : (j : Int) < ((l.length + 1 : Nat) : Int) := by omega
    have hj2 : (j : Int) < (l.length : Int) + 1 := by omega
    have hbk : (S2 (j + 3)).ownBlock ≠ some b := fun e => by have := h2.ft.apart (j + 3) 0 b e (by rw [es]; rfl); omega
    have hpk : (S2 (j + 3)).ownBlock ≠ some pb := h2.no h2.ex (j + 3)
    rw [ek] at hbk hpk
    have hklt : ∀ B, w2.heap.size ≤ B → (Value.slice KA kids.length kc).ownBlock ≠ some B := fun B hB e => by have := h2.ft.lt (j + 3) B (by rw [ek]; exact e); omega
    rw [hkids] at hkl
    have hb0 : Below lo w w2.drew := ⟨hB2.os, hB2.tape, hB2.output, hB2.size, hB2.block⟩
    refine wp_region_rg 16 (fun w' => Below lo w w' ∧ (WX w' lo (fun b => ex b ∨ b = w.heap.size) pb D S2 (l ++ [f]) top ∧ Hid (∀ b, ex b → b ≠ pb → w'.heap[b]? = w.heap[b]?)) ∧ w'.cell? ⟨pb, 4, none⟩ = some (.slice (some ⟨b, 0, none⟩) (l.length + 1) c) ∧ w'.cell? ⟨b, j * 5 + 3, none⟩ = some (.slice KA kids.length kc) ∧ w2.heap.size ≤ w'.heap.size) (post7 w2 pb b j l.length (.slice (some ⟨b, 0, none⟩) (l.length + 1) c) (.slice KA kids.length kc) kids) (by kernel_rfl) (by kernel_rfl) (by rfl) ⟨hb0, ⟨h2.below ⟨rfl, rfl, rfl, Nat.le_refl _, fun _ _ => rfl⟩, HK2⟩, k4, k3, Nat.le_refl _⟩ ?rgO ?rgE
    case rgO =>
      refine ⟨?_, ?_, ?_, ?_, ?_, ?_, ?_, ?_, ?_, ?_, ?_, ?_, ?_, ?_, ?_, ?_, trivial⟩
      · refine RgOk.val rfl fun a wq hI hD hF => ⟨?_, ?_, ?_⟩
        rotate_left 2
        · exact rfl
        · have s0 : a.tmps.getD 0 undef = _ := hF.get 0 rfl; simp [execOp, go_sem, Act.eval, s0]
      · refine RgOk.val rfl fun a wq hI hD hF => ⟨?_, ?_, ?_⟩
        rotate_left 2
        · exact rfl
        · have d0 : a.tmps.getD 39 undef = _ := hD.get 0 rfl rfl rfl; simp [execOp, go_sem, Act.eval, d0]
      · refine RgOk.val rfl fun a wq hI hD hF => ⟨?_, ?_, ?_⟩
        rotate_left 2
        · exact rfl
        · have d1 : a.tmps.getD 40 undef = _ := hD.get 1 rfl rfl rfl; simp [execOp, go_sem, Act.eval, d1]
      · refine RgOk.val rfl fun a wq hI hD hF => ⟨?_, ?_, ?_⟩
        rotate_left 2
        · exact rfl
        · have d2 : a.tmps.getD 41 undef = _ := hD.get 2 rfl rfl rfl; simp [execOp, go_sem, Act.eval, d2, hI.2.2.1]
      · refine RgOk.val rfl fun a wq hI hD hF => ⟨?_, ?_, ?_⟩
        rotate_left 2
        · exact rfl
        · have s1 : a.tmps.getD 1 undef = _ := hF.get 1 rfl; simp [execOp, go_sem, Act.eval, s1]
      · refine RgOk.val rfl fun a wq hI hD hF => ⟨?_, ?_, ?_⟩
        rotate_left 2
        · exact rfl
        · have s0 : a.tmps.getD 0 undef = _ := hF.get 0 rfl; simp [execOp, go_sem, Act.eval, s0]
      · refine RgOk.val rfl fun a wq hI hD hF => ⟨?_, ?_, ?_⟩
        rotate_left 2
        · exact rfl
        · have d5 : a.tmps.getD 44 undef = _ := hD.get 5 rfl rfl rfl; simp [execOp, go_sem, Act.eval, d5]
      · refine RgOk.val rfl fun a wq hI hD hF => ⟨?_, ?_, ?_⟩
        rotate_left 2
        · exact rfl
        · have d6 : a.tmps.getD 45 undef = _ := hD.get 6 rfl rfl rfl; simp [execOp, go_sem, Act.eval, d6]
      · refine RgOk.val rfl fun a wq hI hD hF => ⟨?_, ?_, ?_⟩
        rotate_left 2
        · exact rfl
        · have d7 : a.tmps.getD 46 undef = _ := hD.get 7 rfl rfl rfl; simp [execOp, go_sem, Act.eval, d7, hI.2.2.1]
      · refine RgOk.val rfl fun a wq hI hD hF => ⟨?_, ?_, ?_⟩
        rotate_left 2
        · exact rfl
        · have s1 : a.tmps.getD 1 undef = _ := hF.get 1 rfl; simp [execOp, go_sem, Act.eval, s1]
      · refine RgOk.val rfl fun a wq hI hD hF => ⟨?_, ?_, ?_⟩
        rotate_left 2
        · exact rfl
        · have d8 : a.tmps.getD 47 undef = _ := hD.get 8 rfl rfl rfl; have d9 : a.tmps.getD 48 undef = _ := hD.get 9 rfl rfl rfl; simp [execOp, go_sem, Act.eval, d8, d9, hj0, hj1, hj2]
      · refine RgOk.val rfl fun a wq hI hD hF => ⟨?_, ?_, ?_⟩
        rotate_left 2
        · exact rfl
        · have d10 : a.tmps.getD 49 undef = _ := hD.get 10 rfl rfl rfl; simp [execOp, go_sem, Act.eval, d10]
      · refine RgOk.val rfl fun a wq hI hD hF => ⟨?_, ?_, ?_⟩
        rotate_left 2
        · exact rfl
        · have d11 : a.tmps.getD 50 undef = _ := hD.get 11 rfl rfl rfl; simp [execOp, go_sem, Act.eval, d11, hI.2.2.2.1]
      · refine RgOk.val rfl fun a wq hI hD hF => ⟨?_, ?_, ?_⟩
        rotate_left 2
        · exact rfl
        · have s7 : a.tmps.getD 7 undef = _ := hF.get 7 rfl; simp [execOp, go_sem, Act.eval, s7]
      · refine RgOk.turn rfl fun a wq hI hD hF => ?_
        have d5 : a.tmps.getD 52 undef = .int .i64 (l.length : Int) := hD.get 13 rfl rfl rfl
        simp only [Array.getD_eq_getD_getElem?] at d5
        have hbq := (Below.refl wq.heap.size wq).alloc (Nat.le_refl _) (.cells #[.int .i64 (l.length : Int)] 3)
        refine ⟨_, _, by simp [execOp, go_sem, Act.eval, d5], ⟨hI.1.trans (hbq.mono hI.1.size |>.mono hlw), ⟨hI.2.1.1.below hbq, hid fun b hb hp => (hbq.block b (hI.2.1.1.ft.lows.2 b (.inl hb))).trans (hI.2.1.2.out b hb hp)⟩, (hbq.cell (World.block_lt_of_cell? wq _ hI.2.2.1)).trans hI.2.2.1, (hbq.cell (World.block_lt_of_cell? wq _ hI.2.2.2.1)).trans hI.2.2.2.1, Nat.le_trans hI.2.2.2.2 hbq.size⟩, ⟨_, rfl, hI.2.2.2.2, new_blk _ _⟩, fun i u hi h => post7_alloc h _⟩
      · refine RgOk.append (R := IntR) rfl ty_int (.tmp 51) (.tmp 53) rfl (.slice KA kids.length kc) kids (l.length : Int) [.int .i64 (l.length : Int)] rfl rfl (by simp [Value.oneCell']) (by omega) (by omega) fun a wq hI hD hF => ?_
        have d4 : a.tmps.getD 51 undef = _ := hD.get 12 rfl rfl rfl
        obtain ⟨B, d6, hB1, hB3⟩ := hD.get 14 rfl rfl rfl
        have hr := hI.2.1.1.ft.rows (j + 2)
        rw [hik] at hr
        have hr : IRow wq (S2 (j + 3)) kids := hr
        rw [ek] at hr
        refine ⟨B, d4, d6, hB3, hr, fun g cap w' hG => ⟨⟨?_, ⟨⟨hG.keep hI.2.1.1.blk hpk, ?_, hI.2.1.1.ex, hI.2.1.1.lo⟩, hid fun b hb hp => (hG.grown.block b (hI.2.1.1.ft.lows.2 b (.inl hb)) (fun e => hI.2.1.1.no (.inl hb) (j + 3) (by rw [ek]; exact e.symm))).trans (hI.2.1.2.out b hb hp)⟩, ?_, ?_, Nat.le_trans hI.2.2.2.2 hG.grown.size⟩, ⟨g, cap, rfl, hG.own, ?_⟩, fun i u hi h => post7_append hG hklt hi h⟩⟩
        · exact ⟨hG.grown.os.trans hI.1.os, hG.grown.tape.trans hI.1.tape, hG.grown.output.trans hI.1.output, Nat.le_trans hI.1.size hG.grown.size, fun i hi => (hG.grown.block i (by have := hI.1.size; omega) (fun e => by have := (hI.2.1.1.ft.low (j + 3) i (by rw [ek]; exact e.symm)).1; omega)).trans (hI.1.block i hi)⟩
        · exact (by have hG' := hG; rw [← ek, ← hik] at hG'; exact hI.2.1.1.ft.grewI (k := j + 2) hG')
        · exact (World.grownBy.cell hG.grown (a := ⟨pb, 4, none⟩) hI.2.2.1 (fun e => hpk e.symm))
        · exact (World.grownBy.cell hG.grown (a := ⟨b, j * 5 + 3, none⟩) hI.2.2.2.1 (fun e => hbk e.symm))
        · exact hG.lies.imp id (fun h => Nat.le_trans hI.2.2.2.2 h)
    case rgE =>
      intro vs w3 hI hP
      obtain ⟨g, cap, e15, hO2, hlies⟩ := hP 15 _ _ (by omega) rfl rfl
      have e3 : vs 3 = _ := hP 3 _ _ (by omega) rfl rfl
      have e4 : vs 4 = _ := hP 4 _ _ (by omega) rfl rfl
      simp only [rgPut, List.take, List.drop, Nat.zero_add, Nat.reduceAdd, e3, e4, e15]
      clear hP e3 e4 e15
      have hl3 : (kids ++ [(l.length : Int)]).length = kids.length + 1 := by simp
      rw [hl3] at hO2
      have H3 := hid (WX.kid' hI.2.1.1 hjl (v := .slice (some ⟨g, 0, none⟩) (kids.length + 1) cap) (m := kids ++ [(l.length : Int)]) hO2 (fun b' e => by
        cases e
        rcases hlies with h9 | h9
        · exact .inl (by rw [ek]; exact h9)
        · exact .inr (Fresh.of h2.ft h9)) es)
      have HB3 := hid (hI.1.setCell (p := ⟨b, j * 5 + 3, none⟩) (h2.ft.low 0 b (by rw [es]; rfl)).1 (.slice (some ⟨g, 0, none⟩) (kids.length + 1) cap))
      have HK3 := hid (show ∀ b', ex b' → b' ≠ pb → (w3.setCell ⟨b, j * 5 + 3, none⟩ (.slice (some ⟨g, 0, none⟩) (kids.length + 1) cap)).heap[b']? = w.heap[b']? from fun b' hb hp => (Below.heap_setCell _ _ _ _ (fun e => (h2.ft.low 0 b (by rw [es]; rfl)).2 (by have e' : b' = b := e; rw [← e']; exact .inl hb))).trans (hI.2.1.2.out b' hb hp))
      obtain ⟨b9, c9, es9, _, _, _, _, hfz9⟩ := hI.2.1.1.formAt hjl
      have hbb : b9 = b := by rw [es] at es9; simp only [Value.slice.injEq, Option.some.injEq, Addr.mk.injEq, and_true] at es9; exact es9.1.symm
      subst hbb
      have zc := hI.2.2.2.1; have zf := hfz9 (j * 5 + 3)
      have hkl' : kids.length ≤ l.length := by rw [← hkids, nth_append_left hj]; exact hwf.kids _ (nth_mem hj)
      have HW := hid (show WWf ((l ++ [f]).set j { nth (l ++ [f]) j with kids := kids ++ [(l.length : Int)] }) top from ⟨by simp; omega, by have := hwf.t400; simp; omega, fun x hx => by
        rcases List.mem_or_eq_of_mem_set hx with hx | hx
        · rcases List.mem_append.1 hx with hx | hx
          · have := hwf.kids x hx; simp; omega
          · simp only [List.mem_singleton] at hx; subst hx; rw [hk]; simp
        · subst hx; simp; omega⟩)
      clear hI hO2 hlies hfz9 es9
      go_wp2_with fail
      go_ret
      exact WP.ok (by rw [HFS.out, hkids]; rfl) (H3.out.less (fun b hb => .inl hb) h.ex) HW.out HB3.out HK3.out
end Go.Proofs.Ytgaginegcjpddaa
/- The program's writer: words. -/
namespace Go.Proofs.Ytgaginegcjpddaa
open Go.RowKit
/-- where a form may be added -/
def WAt (br : Int) (l : List Form) : Prop := br < 0 ∨ ∃ j : Nat, br = (j : Int) ∧ j < l.length
theorem WAt.more {br : Int} {l m : List Form} (h : WAt br l) (hl : l.length ≤ m.length) : WAt br m := by
  rcases h with h | ⟨j, h1, h2⟩
  · exact .inl h
  · exact .inr ⟨j, h1, by omega⟩
theorem formW_any (f : Form) (br : Int) (w : World) (lo pb : Nat) (ex : Nat → Prop) (D S : Nat → Value) (l : List Form) (top : List Int) (h : WX w lo ex pb D S l top) (hwf : WWf l top) (hk : f.kids = []) (hbr : WAt br l) :
    Calls Try.prog 75 #[.pointer (some ⟨pb, 0, none⟩), .int .i64 br, .agg (f.cells nilv).toArray] w (WP w lo ex pb D (intR (formS br f (l, top)))) := by
  rcases hbr with hb | ⟨j, rfl, hj⟩
  · exact formW_top f br w lo pb ex D S l top h hwf hk hb
  · exact formW_kid f j w lo pb ex D S l top h hwf hk hj
theorem formS_len {br : Int} {f : Form} {s : WSt} {r : Int × WSt} (h : formS br f s = some r) : r.1 = (s.1.length : Int) ∧ r.2.1.length = s.1.length + 1 := by
  unfold formS at h
  split at h
  · cases h
  · split at h <;> simp only [Option.some.injEq] at h <;> subst h <;> simp
/-- back from behind a box of one's own -/
theorem WP.unbox {w w0 w' : World} {lo : Nat} {ex : Nat → Prop} {pb : Nat} {D : Nat → Value} {r : Option (Value × WSt)} {e : Ending} (h0 : Below lo w0 w) (hk : ∀ b, ex b → w.heap[b]? = w0.heap[b]?) (hp : ex pb) (h : WP w lo (fun b => ex b ∨ b = w0.heap.size) pb D r e w') : WP w0 lo ex pb D r e w' := by
  refine ⟨?_, h0.trans h.low, fun b hb hne => (h.keep b (.inl hb) hne).trans (hk b hb)⟩
  have h1 := h.out
  cases r with
  | none => exact h1
  | some q =>
    obtain ⟨h2, S', hX, hW⟩ := h1
    exact ⟨h2, S', hX.less (fun b hb => .inl hb) hp, hW⟩
/-- one call behind the other -/
theorem WP.then {w w1 w' : World} {lo : Nat} {ex : Nat → Prop} {pb : Nat} {D : Nat → Value} {r : Option (Value × WSt)} {e : Ending} (h0 : Below lo w w1) (hk : ∀ b, ex b → b ≠ pb → w1.heap[b]? = w.heap[b]?) (h : WP w1 lo ex pb D r e w') : WP w lo ex pb D r e w' :=
  ⟨h.out, h0.trans h.low, fun b hb hne => (h.keep b hb hne).trans (hk b hb hne)⟩
def wordF (s : ByteArray) : Form := { kind := 3, text := s, num := 0, kids := [], pos := 0 }
def wordS (br : Int) (s : ByteArray) (st : WSt) : Option WSt := (formS br (wordF s) st).map (·.2)
set_option maxHeartbeats 1600000 in
set_option maxRecDepth 100000 in
theorem wordW_any (s : ByteArray) (br : Int) (w : World) (lo pb : Nat) (ex : Nat → Prop) (D S : Nat → Value) (l : List Form) (top : List Int) (h : WX w lo ex pb D S l top) (hwf : WWf l top) (hbr : WAt br l) :
    Calls Try.prog 76 #[.pointer (some ⟨pb, 0, none⟩), .int .i64 br, .string s] w (WP w lo ex pb D (unitR (wordS br s (l, top)))) := by
  have H := hid h; have HW := hid hwf; have HA := hid hbr
  clear h hwf hbr
  go_enter Try.func76, Try.ntmps76
  go_wp2_with fail
  refine (formW_any (wordF s) br w lo pb ex D S l top H.out HW.out rfl HA.out).mono ?_
  intro e w' h9
  have h8 := h9.out
  rcases hr : formS br (wordF s) (l, top) with _ | ⟨n, st⟩
  · rw [hr] at h8
    subst h8
    exact ⟨rfl, WP.no (by unfold wordS; rw [hr]; rfl) h9.low h9.keep⟩
  · rw [hr] at h8
    obtain ⟨rfl, S', hX, hW'⟩ := h8
    have HX := hid hX; have HB := hid h9.low; have HK := hid h9.keep; have HR := hid hr; have HW2 := hid hW'
    clear hX h9 hr hW'
    go_wp2
    go_end0
    exact WP.ok (by unfold wordS; rw [HR.out]; rfl) HX.out HW2.out HB.out HK.out
end Go.Proofs.Ytgaginegcjpddaa
/- The program's writer: literals. -/
namespace Go.Proofs.Ytgaginegcjpddaa
open Go.RowKit
def numF (n : Int) : Form := { kind := 4, text := ⟨#[]⟩, num := n, kids := [], pos := 0 }
def literalS (br : Int) (x : Expr) (st : WSt) : Option WSt :=
  if x.of_ = 1 then (formS br (numF x.num) st).map (·.2)
  else if x.num = 1 then wordS br wTrue st
  else wordS br wFalse st
set_option maxHeartbeats 1600000 in
set_option maxRecDepth 100000 in
theorem literalW_any (x : Expr) (KA : Option Addr) (kn kc : Nat) (br : Int) (w : World) (lo pb : Nat) (ex : Nat → Prop) (D S : Nat → Value) (l : List Form) (top : List Int) (h : WX w lo ex pb D S l top) (hwf : WWf l top) (hbr : WAt br l) :
    Calls Try.prog 77 #[.pointer (some ⟨pb, 0, none⟩), .int .i64 br, .agg #[.int .u8 x.kind, .int .u8 x.of_, .int .u8 x.op, .string x.name, .int .i64 x.num, .slice KA kn kc]] w (WP w lo ex pb D (unitR (literalS br x (l, top)))) := by
  obtain ⟨k, o, op, nm, num, kids⟩ := x
  have hB1 : Below lo w (w.alloc (.cells #[.int .u8 k, .int .u8 o, .int .u8 op, .string nm, .int .i64 num, .slice KA kn kc] 71)) := (Below.refl _ _).alloc h.ft.lows.1 _
  have hK1 : ∀ b, ex b → (w.alloc (.cells #[.int .u8 k, .int .u8 o, .int .u8 op, .string nm, .int .i64 num, .slice KA kn kc] 71)).heap[b]? = w.heap[b]? := fun b hb => Below.heap_alloc _ _ _ (h.ft.lows.2 b hb)
  have H := hid (h.alloc (.cells #[.int .u8 k, .int .u8 o, .int .u8 op, .string nm, .int .i64 num, .slice KA kn kc] 71)); have HW := hid hwf; have HA := hid hbr; have HB1 := hid hB1; have HEX := hid h.ex; have HK1 := hid hK1
  clear h hwf hbr hB1 hK1
  by_cases h1 : o = 1
  · subst h1
    have HL := hid (show ∀ st, literalS br { kind := k, of_ := 1, op := op, name := nm, num := num, kids := kids } st = (formS br (numF num) st).map (·.2) from fun st => by unfold literalS; rw [if_pos rfl])
    go_enter Try.func77, Try.ntmps77
    go_wp2_with fail
    refine (formW_any (numF num) br _ lo pb _ D S l top H.out HW.out rfl HA.out).mono ?_
    intro e w' h9
    have h9 := WP.unbox HB1.out HK1.out HEX.out h9
    have h8 := h9.out
    rcases hr : formS br (numF num) (l, top) with _ | ⟨n, st⟩
    · rw [hr] at h8
      subst h8
      exact ⟨rfl, WP.no (by rw [HL.out, hr]; rfl) h9.low h9.keep⟩
    · rw [hr] at h8
      obtain ⟨rfl, S', hX, hW'⟩ := h8
      have HX := hid hX; have HB := hid h9.low; have HK := hid h9.keep; have HR := hid hr; have HW2 := hid hW'
      clear hX h9 hr hW'
      go_wp2
      go_end0
      exact WP.ok (by rw [HL.out, HR.out]; rfl) HX.out HW2.out HB.out HK.out
  · by_cases h2 : num = 1
    · subst h2
      have HL := hid (show ∀ st, literalS br { kind := k, of_ := o, op := op, name := nm, num := 1, kids := kids } st = wordS br wTrue st from fun st => by unfold literalS; rw [if_neg h1, if_pos rfl])
      go_enter Try.func77, Try.ntmps77
      go_wp2_with fail
      refine (wordW_any wTrue br _ lo pb _ D S l top H.out HW.out HA.out).mono ?_
      intro e w' h9
      have h9 := WP.unbox HB1.out HK1.out HEX.out h9
      have h8 := h9.out
      rcases hr : wordS br wTrue (l, top) with _ | st
      · rw [hr] at h8
        subst h8
        exact ⟨rfl, WP.no (by rw [HL.out, hr]; rfl) h9.low h9.keep⟩
      · rw [hr] at h8
        obtain ⟨rfl, S', hX, hW'⟩ := h8
        have HX := hid hX; have HB := hid h9.low; have HK := hid h9.keep; have HR := hid hr; have HW2 := hid hW'
        clear hX h9 hr hW'
        go_wp2
        go_end0
        exact WP.ok (by rw [HL.out, HR.out]; rfl) HX.out HW2.out HB.out HK.out
    · have HL := hid (show ∀ st, literalS br { kind := k, of_ := o, op := op, name := nm, num := num, kids := kids } st = wordS br wFalse st from fun st => by unfold literalS; rw [if_neg h1, if_neg h2])
      go_enter Try.func77, Try.ntmps77
      go_wp2_with fail
      refine (wordW_any wFalse br _ lo pb _ D S l top H.out HW.out HA.out).mono ?_
      intro e w' h9
      have h9 := WP.unbox HB1.out HK1.out HEX.out h9
      have h8 := h9.out
      rcases hr : wordS br wFalse (l, top) with _ | st
      · rw [hr] at h8
        subst h8
        exact ⟨rfl, WP.no (by rw [HL.out, hr]; rfl) h9.low h9.keep⟩
      · rw [hr] at h8
        obtain ⟨rfl, S', hX, hW'⟩ := h8
        have HX := hid hX; have HB := hid h9.low; have HK := hid h9.keep; have HR := hid hr; have HW2 := hid hW'
        clear hX h9 hr hW'
        go_wp2
        go_end0
        exact WP.ok (by rw [HL.out, HR.out]; rfl) HX.out HW2.out HB.out HK.out
end Go.Proofs.Ytgaginegcjpddaa
/- The program's writer: a bracket that begins with words. -/
namespace Go.Proofs.Ytgaginegcjpddaa
open Go.RowKit
/-- the writer as it goes on: from w to w' -/
structure WG (w w' : World) (lo : Nat) (ex : Nat → Prop) (pb : Nat) (D : Nat → Value) (s : WSt) : Prop where
  out : ∃ S', WX w' lo ex pb D S' s.1 s.2
  wf : WWf s.1 s.2
  low : Below lo w w'
  keep : ∀ b, ex b → b ≠ pb → w'.heap[b]? = w.heap[b]?
section
variable {w w1 w' : World} {lo : Nat} {ex : Nat → Prop} {pb : Nat} {D : Nat → Value} {s : WSt}
theorem WG.refl {S : Nat → Value} (h : WX w lo ex pb D S s.1 s.2) (hw : WWf s.1 s.2) : WG w w lo ex pb D s := ⟨⟨S, h⟩, hw, Below.refl _ _, fun _ _ _ => rfl⟩
theorem WP.some {v : Value} {e : Ending} (h : WP w lo ex pb D (some (v, s)) e w') : e = .returned v ∧ WG w w' lo ex pb D s := by
  obtain ⟨h1, S', hX, hW⟩ := h.out
  exact ⟨h1, ⟨S', hX⟩, hW, h.low, h.keep⟩
theorem WG.ok (g : WG w w' lo ex pb D s) {r : Option (Value × WSt)} {v : Value} (hr : r = .some (v, s)) : WP w lo ex pb D r (.returned v) w' := by
  obtain ⟨S', hX⟩ := g.out
  exact WP.ok hr hX g.wf g.low g.keep
theorem WP.none {e : Ending} (h : WP w lo ex pb D .none e w') : e = .panicked wStop := h.out
theorem formG (f : Form) (br : Int) (g : WG w w1 lo ex pb D s) (hk : f.kids = []) (hbr : WAt br s.1) :
    Calls Try.prog 75 #[.pointer (.some ⟨pb, 0, .none⟩), .int .i64 br, .agg (f.cells nilv).toArray] w1 (WP w lo ex pb D (intR (formS br f s))) := by
  obtain ⟨S, hX⟩ := g.out
  exact (formW_any f br w1 lo pb ex D S s.1 s.2 hX g.wf hk hbr).mono fun e w' h => h.then g.low g.keep
theorem wordG (t : ByteArray) (br : Int) (g : WG w w1 lo ex pb D s) (hbr : WAt br s.1) :
    Calls Try.prog 76 #[.pointer (.some ⟨pb, 0, .none⟩), .int .i64 br, .string t] w1 (WP w lo ex pb D (unitR (wordS br t s))) := by
  obtain ⟨S, hX⟩ := g.out
  exact (wordW_any t br w1 lo pb ex D S s.1 s.2 hX g.wf hbr).mono fun e w' h => h.then g.low g.keep
theorem literalG (x : Expr) (KA : Option Addr) (kn kc : Nat) (br : Int) (g : WG w w1 lo ex pb D s) (hbr : WAt br s.1) :
    Calls Try.prog 77 #[.pointer (.some ⟨pb, 0, .none⟩), .int .i64 br, .agg #[.int .u8 x.kind, .int .u8 x.of_, .int .u8 x.op, .string x.name, .int .i64 x.num, .slice KA kn kc]] w1 (WP w lo ex pb D (unitR (literalS br x s))) := by
  obtain ⟨S, hX⟩ := g.out
  exact (literalW_any x KA kn kc br w1 lo pb ex D S s.1 s.2 hX g.wf hbr).mono fun e w' h => h.then g.low g.keep
end
theorem wordS_len {br : Int} {t : ByteArray} {s r : WSt} (h : wordS br t s = some r) : s.1.length ≤ r.1.length := by
  unfold wordS at h
  rcases hr : formS br (wordF t) s with _ | ⟨n, st⟩
  · rw [hr] at h; cases h
  · rw [hr] at h
    have := (formS_len hr).2
    simp only [Option.map_some, Option.some.injEq] at h
    subst h; simp only at this; omega
def wordsS (n : Int) : List ByteArray → WSt → Option WSt
  | [], s => some s
  | t :: r, s => match wordS n t s with
    | none => none
    | some s1 => wordsS n r s1
theorem wordsS_len {n : Int} : ∀ {ws : List ByteArray} {s r : WSt}, wordsS n ws s = some r → s.1.length ≤ r.1.length
  | [], s, r, h => by simp only [wordsS, Option.some.injEq] at h; subst h; exact Nat.le_refl _
  | t :: ws, s, r, h => by
    simp only [wordsS] at h
    split at h
    · cases h
    · rename_i s1 h1
      exact Nat.le_trans (wordS_len h1) (wordsS_len h)
def openF : Form := { kind := 1, text := ⟨#[]⟩, num := 0, kids := [], pos := 0 }
/-- a bracket that begins with words -/
def openS (br : Int) (ws : List ByteArray) (s : WSt) : Option (Int × WSt) :=
  match formS br openF s with
  | none => none
  | some (n, s1) => (wordsS n ws s1).map fun s2 => (n, s2)
theorem openS_len {br : Int} {ws : List ByteArray} {s : WSt} {r : Int × WSt} (h : openS br ws s = some r) : r.1 = (s.1.length : Int) ∧ s.1.length < r.2.1.length := by
  unfold openS at h
  split at h
  · cases h
  · rename_i n s1 h1
    have h2 := formS_len h1
    cases h3 : wordsS n ws s1 with
    | none => rw [h3] at h; cases h
    | some s2 =>
      rw [h3] at h
      have h4 := wordsS_len h3
      simp only [Option.map_some, Option.some.injEq] at h
      subst h
      simp only at h2 ⊢
      exact ⟨h2.1, by omega⟩
def StrV (s : ByteArray) (cs : List Value) : Prop := cs = [.string s]
def Strs (w : World) (Z : Nat → Prop) (v : Value) (l : List ByteArray) : Prop := Row w Z StrV 1 v l
theorem StrV.len {s : ByteArray} {cs : List Value} (h : StrV s cs) : cs.length = 1 := by subst h; rfl
set_option maxHeartbeats 1600000 in
set_option maxRecDepth 100000 in
theorem openW_any (ws : List ByteArray) (v : Value) (br : Int) (w : World) (lo pb : Nat) (ex : Nat → Prop) (D S : Nat → Value) (l : List Form) (top : List Int) (h : WX w lo ex pb D S l top) (hwf : WWf l top) (hbr : WAt br l) (hv : Strs w (fun b => ex b ∧ b ≠ pb) v ws) :
    Calls Try.prog 54 #[.pointer (some ⟨pb, 0, none⟩), .int .i64 br, v] w (WP w lo ex pb D (intR (openS br ws (l, top)))) := by
  obtain ⟨A, c, rfl, hle, hcap, hall⟩ := hv.out
  have G0 := hid (WG.refl (s := (l, top)) h hwf); have HA := hid hbr; have HALL := hid hall
  clear h hwf hbr hv hall
  generalize hgr : openS br ws (l, top) = R
  have HR := hid hgr
  clear hgr
  go_enter Try.func54, Try.ntmps54
  go_wp2_with fail
  refine (formG openF br G0.out rfl HA.out).mono ?_
  intro e w1 h9
  rcases hr : formS br openF (l, top) with _ | ⟨n, st⟩
  · rw [hr] at h9
    obtain rfl := h9.none
    exact ⟨rfl, WP.no (by rw [← HR.out]; unfold openS; rw [hr]; rfl) h9.low h9.keep⟩
  · rw [hr] at h9
    obtain ⟨rfl, g1⟩ := h9.some
    have hln := formS_len hr
    simp only at hln
    obtain ⟨rfl, hln⟩ := hln
    have HR2 := hid (show (wordsS (l.length : Int) ws st).map (fun s2 => ((l.length : Int), s2)) = R by rw [← HR.out]; unfold openS; rw [hr])
    have G1 := hid g1
    clear h9 g1 hr
    go_wp2_with fail
    go_loopw [9, 16] (fun s9 s16 wr => ∃ (k : Nat) (s1 : WSt), s16 = .int .i64 (k : Int) ∧ k ≤ ws.length ∧ Hid (WG w wr lo ex pb D s1) ∧ l.length < s1.1.length ∧ Hid ((wordsS (l.length : Int) (ws.drop k) s1).map (fun s2 => ((l.length : Int), s2)) = R)) (fun s9 s16 wr => ws.length - cnt s16)
    case atStart => exact ⟨0, st, rfl, Nat.zero_le _, G1, by omega, by simpa using HR2⟩
    case round =>
      obtain ⟨k, s1, rfl, hk, G, hlt1, HR3⟩ := hrel
      by_cases hlt : k < ws.length
      · obtain ⟨b, off, hA, hDb, hcs⟩ := HALL.out (by omega)
        obtain ⟨cs, hr, _, hc⟩ := hcs k hlt
        have hr' : cs = [.string (nth ws k)] := hr
        subst hr'; subst hA
        have hcell : wr.cell? ⟨b, off + k, none⟩ = some (.string (nth ws k)) := by
          have := hc 0 _ rfl
          simp only [Nat.mul_one, Nat.add_zero] at this
          exact (World.cell?_of_block (a := ⟨b, off + k, none⟩) (G.out.keep b hDb.1 hDb.2)).trans this
        obtain ⟨t, ht⟩ : ∃ t, nth ws k = t := ⟨_, rfl⟩
        have hdr : ws.drop k = t :: ws.drop (k + 1) := by rw [drop_nth hlt, ht]
        rw [ht] at hcell
        rw [hdr] at HR3
        have hR3 := HR3.out
        simp only [wordsS] at hR3
        have HR4 := hid hR3
        clear hc hr hcs hdr HR3 hR3 ht
        go_wp2_with fail
        refine (wordG t (l.length : Int) G.out (.inr ⟨l.length, rfl, hlt1⟩)).mono ?_
        intro e w2 h9
        rcases hr : wordS (l.length : Int) t s1 with _ | s2
        · rw [hr] at h9
          obtain rfl := h9.none
          exact ⟨rfl, WP.no (by rw [← HR4.out, hr]; rfl) h9.low h9.keep⟩
        · rw [hr] at h9
          obtain ⟨rfl, g2⟩ := h9.some
          have hl2 := wordS_len hr
          have G2 := hid g2
          have HR5 := hid (show (wordsS (l.length : Int) (ws.drop (k + 1)) s2).map (fun s2 => ((l.length : Int), s2)) = R by rw [← HR4.out, hr])
          clear h9 g2 hr HR4
          go_wp2_with fail
          go_roundw
          case rel => exact ⟨k + 1, s2, by simp, by omega, G2, by omega, HR5⟩
          case measure => simp only [cnt]; omega
      · have hk' : k = ws.length := by omega
        subst hk'
        have hR3 := HR3.out
        rw [List.drop_length] at hR3
        simp only [wordsS, Option.map_some] at hR3
        have HR4 := hid hR3
        clear HR3 hR3
        go_wp2
        go_ret
        exact G.out.ok (by rw [← HR4.out]; rfl)
theorem openG {w w1 : World} {lo : Nat} {ex : Nat → Prop} {pb : Nat} {D : Nat → Value} {s : WSt} (ws : List ByteArray) (v : Value) (br : Int) (g : WG w w1 lo ex pb D s) (hbr : WAt br s.1) (hv : Strs w1 (fun b => ex b ∧ b ≠ pb) v ws) :
    Calls Try.prog 54 #[.pointer (some ⟨pb, 0, none⟩), .int .i64 br, v] w1 (WP w lo ex pb D (intR (openS br ws s))) := by
  obtain ⟨S, hX⟩ := g.out
  exact (openW_any ws v br w1 lo pb ex D S s.1 s.2 hX g.wf hbr hv).mono fun e w' h => h.then g.low g.keep
end Go.Proofs.Ytgaginegcjpddaa
/- The program's writer: expressions; what they come to; the program that is read. -/
namespace Go.Proofs.Ytgaginegcjpddaa
open Go.RowKit
def minI (a b : Int) : Int := if b < a then b else a
theorem run_min2 (P : Program) (a b : Int) (W : World) (ts : Array TypeId) (ty : TypeId) : (Builtin.min_ ts ty #[.int .i64 a, .int .i64 b]).run P W = .ok (.int .i64 (minI a b)) W := by
  simp [Builtin.min_, Builtin.min2, minI]
/-- one behind the other, nothing told -/
def kidsWS (g : Int → WSt → Option WSt) : List Int → WSt → Option WSt
  | [], s => some s
  | k :: r, s => match g k s with
    | none => none
    | some s1 => kidsWS g r s1
def sndS (r : Option (Int × WSt)) : Option WSt := r.map (·.2)
/-- an expression, given what its kids come to -/
def exprKW (x : Expr) (br : Int) (g : Int → Int → WSt → Option WSt) (s : WSt) : Option WSt :=
  if x.kind = 1 then literalS br x s
  else if x.kind = 2 then wordS br x.name s
  else if x.kind = 3 then sndS (openS br [wOwn, x.name] s)
  else if x.kind = 4 then sndS (openS br [wFar, x.name] s)
  else if x.kind = 5 then sndS (openS br [wVia, x.name] s)
  else if x.kind = 6 then sndS (openS br [wId] s)
  else if x.kind = 7 then sndS (openS br [wFarid] s)
  else if x.kind = 9 then sndS (openS br [wCount] s)
  else if x.kind = 8 then sndS (openS br [wDeg, sideS (x.num == 1)] s)
  else if x.kind = 10 then match openS br [opWordS x.op] s with
    | none => none
    | some (b, s1) => kidsWS (g b) x.kids s1
  else none
/-- an expression, that stands below a place -/
def exprWS (es : List Expr) : Nat → Int → Int → Int → WSt → Option WSt
  | 0, _, _, _, _ => none
  | f + 1, br, e, lim, s =>
    if 0 ≤ e ∧ e < minI lim es.length then exprKW (nth es e.toNat) br (fun b k s2 => exprWS es f b k e s2) s
    else none
/-- the expressions that the writer reads -/
def ExprsP (w : World) (lo : Nat) (v : Value) (es : List Expr) : Prop := Row w (fun b => b < lo) (ExprV w (fun b => b < lo)) 6 v es
theorem ExprsP.below {w w' : World} {lo : Nat} {v : Value} {es : List Expr} (h : ExprsP w lo v es) (hb : Below lo w w') : ExprsP w' lo v es :=
  Row.imp h (fun a cs _ hr => hr.imp fun b hD _ => ⟨hD, hb.block b hD⟩) (fun b hD _ => ⟨hD, hb.block b hD⟩) (by omega) (fun _ _ h => h.len)
theorem ExprsP.at_ {w : World} {lo : Nat} {v : Value} {es : List Expr} (h : ExprsP w lo v es) {n : Nat} (hn : n < es.length) : ∃ b off c kv, v = .slice (some ⟨b, off, none⟩) es.length c ∧ b < lo ∧ (∀ j u, ((nth es n).cells kv)[j]? = some u → w.cell? ⟨b, off + n * 6 + j, none⟩ = some u) ∧ Ints w (fun b => b < lo) kv (nth es n).kids := by
  obtain ⟨A, c, rfl, _, _, hall⟩ := h.out
  obtain ⟨b, off, rfl, hD, hcs⟩ := hall (by omega)
  obtain ⟨cs, ⟨kv, rfl, hk⟩, _, hc⟩ := hcs n hn
  exact ⟨b, off, c, kv, rfl, hD, hc, hk⟩
theorem WP.unalloc {w w' : World} {lo : Nat} {ex : Nat → Prop} {pb : Nat} {D S : Nat → Value} {l : List Form} {top : List Int} {r : Option (Value × WSt)} {e : Ending} {o : Obj} (h : WX w lo ex pb D S l top) (h9 : WP (w.alloc o) lo (fun b => ex b ∨ b = w.heap.size) pb D r e w') : WP w lo ex pb D r e w' :=
  WP.unbox ((Below.refl _ _).alloc h.ft.lows.1 _) (fun b hb => Below.heap_alloc _ _ _ (h.ft.lows.2 b hb)) h.ex h9
theorem Strs.one {w : World} {Z : Nat → Prop} {b : Nat} {s : ByteArray} (h : w.heap[b]? = some (.cells #[.string s] 9 (0, 0))) (hz : Z b) : Strs w Z (.slice (some ⟨b, 0, none⟩) 1 1) [s] := by
  refine ⟨some ⟨b, 0, none⟩, 1, rfl, Nat.le_refl _, by omega, fun _ => ⟨b, 0, rfl, hz, fun i hi => ?_⟩⟩
  obtain rfl : i = 0 := by simp at hi; omega
  refine ⟨[.string s], rfl, rfl, fun j u hj => ?_⟩
  have := blk_cell h (0 + 0 * 1 + j)
  rw [this]
  match j with
  | 0 => simpa using hj
  | j + 1 => simp at hj
theorem Strs.two {w : World} {Z : Nat → Prop} {b : Nat} {s t : ByteArray} (h : w.heap[b]? = some (.cells #[.string s, .string t] 9 (0, 0))) (hz : Z b) : Strs w Z (.slice (some ⟨b, 0, none⟩) 2 2) [s, t] := by
  refine ⟨some ⟨b, 0, none⟩, 2, rfl, Nat.le_refl _, by omega, fun _ => ⟨b, 0, rfl, hz, fun i hi => ?_⟩⟩
  have hi' : i < 2 := hi
  match i, hi' with
  | 0, _ =>
    refine ⟨[.string s], rfl, rfl, fun j u hj => ?_⟩
    rw [blk_cell h]
    match j with
    | 0 => simpa using hj
    | j + 1 => simp at hj
  | 1, _ =>
    refine ⟨[.string t], rfl, rfl, fun j u hj => ?_⟩
    rw [blk_cell h]
    match j with
    | 0 => simpa using hj
    | j + 1 => simp at hj
theorem Strs.three {w : World} {Z : Nat → Prop} {b : Nat} {s t u : ByteArray} (h : w.heap[b]? = some (.cells #[.string s, .string t, .string u] 9 (0, 0))) (hz : Z b) : Strs w Z (.slice (some ⟨b, 0, none⟩) 3 3) [s, t, u] := by
  refine ⟨some ⟨b, 0, none⟩, 3, rfl, Nat.le_refl _, by omega, fun _ => ⟨b, 0, rfl, hz, fun i hi => ?_⟩⟩
  have hi' : i < 3 := hi
  match i, hi' with
  | 0, _ => refine ⟨[.string s], rfl, rfl, fun j u hj => ?_⟩; rw [blk_cell h]; match j with | 0 => simpa using hj | j + 1 => simp at hj
  | 1, _ => refine ⟨[.string t], rfl, rfl, fun j u hj => ?_⟩; rw [blk_cell h]; match j with | 0 => simpa using hj | j + 1 => simp at hj
  | 2, _ => refine ⟨[.string u], rfl, rfl, fun j u hj => ?_⟩; rw [blk_cell h]; match j with | 0 => simpa using hj | j + 1 => simp at hj
theorem Strs.four {w : World} {Z : Nat → Prop} {b : Nat} {s t u v : ByteArray} (h : w.heap[b]? = some (.cells #[.string s, .string t, .string u, .string v] 9 (0, 0))) (hz : Z b) : Strs w Z (.slice (some ⟨b, 0, none⟩) 4 4) [s, t, u, v] := by
  refine ⟨some ⟨b, 0, none⟩, 4, rfl, Nat.le_refl _, by omega, fun _ => ⟨b, 0, rfl, hz, fun i hi => ?_⟩⟩
  have hi' : i < 4 := hi
  match i, hi' with
  | 0, _ => refine ⟨[.string s], rfl, rfl, fun j u hj => ?_⟩; rw [blk_cell h]; match j with | 0 => simpa using hj | j + 1 => simp at hj
  | 1, _ => refine ⟨[.string t], rfl, rfl, fun j u hj => ?_⟩; rw [blk_cell h]; match j with | 0 => simpa using hj | j + 1 => simp at hj
  | 2, _ => refine ⟨[.string u], rfl, rfl, fun j u hj => ?_⟩; rw [blk_cell h]; match j with | 0 => simpa using hj | j + 1 => simp at hj
  | 3, _ => refine ⟨[.string v], rfl, rfl, fun j u hj => ?_⟩; rw [blk_cell h]; match j with | 0 => simpa using hj | j + 1 => simp at hj
end Go.Proofs.Ytgaginegcjpddaa
