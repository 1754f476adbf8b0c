/- The program's writer: statements; what they come to; a list of them; what is in one. -/
import Derived.Test.YtgaginegcjpddaaQt11
set_option linter.unusedVariables false
set_option linter.unusedSimpArgs false
namespace Go.Proofs.Ytgaginegcjpddaa
open Go.RowKit
/-- statements that stand below a place -/
def subWS (g : Int → WSt → Option WSt) (lim : Int) (ks : List Int) (s : WSt) : Option WSt := kidsWS (fun n s => if 0 ≤ n ∧ n < lim then g n s else none) ks s
def actsWS (es : List Expr) (b : Int) : List PAct → WSt → Option WSt
  | [], s => some s
  | a :: r, s => match actWS es b a s with
    | none => none
    | some s1 => actsWS es b r s1
def bodyWS (es : List Expr) (b e : Int) (g : Int → WSt → Option WSt) (lim : Int) (ks : List Int) (s : WSt) : Option WSt :=
  match exprW1 es b e s with
  | none => none
  | some s1 => subWS g lim ks s1
def andB (r : Option (Int × WSt)) (k : Int → WSt → Option WSt) : Option WSt :=
  match r with
  | none => none
  | some (b, s) => k b s
def andS (r : Option WSt) (k : WSt → Option WSt) : Option WSt :=
  match r with
  | none => none
  | some s => k s
/-- a statement, given what those in it come to -/
def stmtKW (es : List Expr) (x : PStmt) (br lim : Int) (g : Int → Int → WSt → Option WSt) (s : WSt) : Option WSt :=
  if x.kind = 1 then andB (openS br [wSet, x.name] s) fun b s1 => exprW1 es b x.e s1
  else if x.kind = 2 then andB (openS br [wFold, x.name, opWordS x.op] s) fun b s1 => partsWS es b x.e x.cond s1
  else if x.kind = 3 then andB (openS br [wEach] s) fun b s1 => actsWS es b x.acts s1
  else if x.kind = 4 then andB (openS br [wIf] s) fun b s1 => andS (exprW1 es b x.e s1) fun s2 =>
    andB (openS b [] s2) fun b1 s3 => andS (subWS (g b1) lim x.thn s3) fun s4 => andB (openS b [] s4) fun b2 s5 => subWS (g b2) lim x.els s5
  else if x.kind = 5 then andB (openS br [wWhile] s) fun b s1 => bodyWS es b x.e (g b) lim x.thn s1
  else if x.kind = 6 then andB (openS br [wLoop] s) fun b s1 => bodyWS es b x.e (g b) lim x.thn s1
  else if x.kind = 7 then andB (openS br [wBfs, x.name] s) fun b s1 => bodyWS es b x.e (g b) lim x.thn s1
  else none
def stmtWS (es : List Expr) (ss : List PStmt) : Nat → Int → Int → WSt → Option WSt
  | 0, _, _, _ => none
  | f + 1, br, n, s => stmtKW es (nth ss n.toNat) br n (fun b k s2 => stmtWS es ss f b k s2) s
def StmtsP (w : World) (lo : Nat) (v : Value) (ss : List PStmt) : Prop := Row w (fun b => b < lo) (StmtV w (fun b => b < lo)) 8 v ss
/-- the program that the writer reads -/
structure WD (w : World) (lo : Nat) (D : Nat → Value) (es : List Expr) (ss : List PStmt) : Prop where
  exprs : ExprsP w lo (D 1) es
  stmts : StmtsP w lo (D 2) ss
theorem WD.below {w w' : World} {lo : Nat} {D : Nat → Value} {es : List Expr} {ss : List PStmt} (h : WD w lo D es ss) (hb : Below lo w w') : WD w' lo D es ss :=
  ⟨h.exprs.below hb, Row.imp h.stmts (fun a cs _ hr => hr.imp fun b hD _ => ⟨hD, hb.block b hD⟩) (fun b hD _ => ⟨hD, hb.block b hD⟩) (by omega) (fun _ _ h => h.len)⟩
theorem StmtsP.at_ {w : World} {lo : Nat} {v : Value} {ss : List PStmt} (h : StmtsP w lo v ss) {n : Nat} (hn : n < ss.length) : ∃ b off c av tv ev, v = .slice (some ⟨b, off, none⟩) ss.length c ∧ b < lo ∧ (∀ j u, ((nth ss n).cells av tv ev)[j]? = some u → w.cell? ⟨b, off + n * 8 + j, none⟩ = some u) ∧ Acts w (fun b => b < lo) av (nth ss n).acts ∧ Ints w (fun b => b < lo) tv (nth ss n).thn ∧ Ints w (fun b => b < lo) ev (nth ss n).els := by
  obtain ⟨A, c, rfl, _, _, hall⟩ := h.out
  obtain ⟨b, off, rfl, hD, hcs⟩ := hall (by omega)
  obtain ⟨cs, ⟨av, tv, ev, rfl, h1, h2, h3⟩, _, hc⟩ := hcs n hn
  exact ⟨b, off, c, av, tv, ev, rfl, hD, hc, h1, h2, h3⟩
structure OpsOk (es : List Expr) (ss : List PStmt) : Prop where
  e : ∀ x ∈ es, 0 ≤ x.op
  s : ∀ x ∈ ss, 0 ≤ x.op ∧ ∀ a ∈ x.acts, 0 ≤ a.op
/-- the writer of one statement, at a fuel -/
def StmtWC (es : List Expr) (ss : List PStmt) (f : Nat) : Prop := ∀ (br : Int) (n : Nat) (w w1 : World) (lo pb : Nat) (ex : Nat → Prop) (D : Nat → Value) (s : WSt), n < f → n < ss.length → WG w w1 lo ex pb D s → WAt br s.1 → WD w1 lo D es ss →
  Calls Try.prog 32 #[.pointer (some ⟨pb, 0, none⟩), .int .i64 br, .int .i64 (n : Int)] w1 (WP w lo ex pb D (unitR (stmtWS es ss f br (n : Int) s)))
theorem subWS_len {g : Int → WSt → Option WSt} {lim : Int} (hg : ∀ k s r, g k s = some r → s.1.length ≤ r.1.length) {ks : List Int} {s r : WSt} (h : subWS g lim ks s = some r) : s.1.length ≤ r.1.length :=
  kidsWS_len (fun k s r h => by split at h; exact hg _ _ _ h; cases h) h
theorem partsWS_len {es : List Expr} {br e cond : Int} {s r : WSt} (h : partsWS es br e cond s = some r) : s.1.length ≤ r.1.length := by
  unfold partsWS at h
  split at h
  · cases h
  · rename_i s1 h1
    have h2 := exprWS_len es _ _ _ _ _ _ h1
    split at h
    · simp only [Option.some.injEq] at h; subst h; exact h2
    · exact Nat.le_trans h2 (exprWS_len es _ _ _ _ _ _ h)
theorem actWS_len {es : List Expr} {br : Int} {a : PAct} {s r : WSt} (h : actWS es br a s = some r) : s.1.length ≤ r.1.length := by
  unfold actWS at h
  split at h
  · cases h
  · rename_i b s1 h1
    have h2 := partsWS_len h
    have h3 : s.1.length ≤ s1.1.length := by
      unfold actOpen at h1
      split at h1
      · have := (openS_len h1).2; simp only at this; omega
      split at h1
      · have := (openS_len h1).2; simp only at this; omega
      split at h1
      · have := (openS_len h1).2; simp only at this; omega
      · cases h1
    omega
theorem actsWS_len {es : List Expr} {br : Int} : ∀ {l : List PAct} {s r : WSt}, actsWS es br l s = some r → s.1.length ≤ r.1.length
  | [], s, r, h => by simp only [actsWS, Option.some.injEq] at h; subst h; exact Nat.le_refl _
  | a :: l, s, r, h => by
    simp only [actsWS] at h
    split at h
    · cases h
    · rename_i s1 h1
      exact Nat.le_trans (actWS_len h1) (actsWS_len h)
theorem bodyWS_len {es : List Expr} {b e : Int} {g : Int → WSt → Option WSt} {lim : Int} (hg : ∀ k s r, g k s = some r → s.1.length ≤ r.1.length) {ks : List Int} {s r : WSt} (h : bodyWS es b e g lim ks s = some r) : s.1.length ≤ r.1.length := by
  unfold bodyWS at h
  split at h
  · cases h
  · rename_i s1 h1
    exact Nat.le_trans (exprWS_len es _ _ _ _ _ _ h1) (subWS_len hg h)
theorem andB_len {br : Int} {ws : List ByteArray} {s r : WSt} {k : Int → WSt → Option WSt} (hk : ∀ b s1, k b s1 = some r → s1.1.length ≤ r.1.length) (h : andB (openS br ws s) k = some r) : s.1.length ≤ r.1.length := by
  unfold andB at h
  split at h
  · cases h
  · rename_i b s1 h1
    have h2 := (openS_len h1).2
    have h3 := hk _ _ h
    simp only at h2; omega
theorem andS_len {t : Option WSt} {s r : WSt} {k : WSt → Option WSt} (ht : ∀ s1, t = some s1 → s.1.length ≤ s1.1.length) (hk : ∀ s1, k s1 = some r → s1.1.length ≤ r.1.length) (h : andS t k = some r) : s.1.length ≤ r.1.length := by
  unfold andS at h
  split at h
  · cases h
  · exact Nat.le_trans (ht _ rfl) (hk _ h)
theorem stmtKW_len {es : List Expr} {x : PStmt} {br lim : Int} {g : Int → Int → WSt → Option WSt} (hg : ∀ b k s r, g b k s = some r → s.1.length ≤ r.1.length) {s r : WSt} (h : stmtKW es x br lim g s = some r) : s.1.length ≤ r.1.length := by
  unfold stmtKW at h
  split at h
  · exact andB_len (fun b s1 h => exprWS_len es _ _ _ _ _ _ h) h
  split at h
  · exact andB_len (fun b s1 h => partsWS_len h) h
  split at h
  · exact andB_len (fun b s1 h => actsWS_len h) h
  split at h
  · exact andB_len (fun b s1 h => andS_len (fun s2 h2 => exprWS_len es _ _ _ _ _ _ h2) (fun s2 h => andB_len (fun b1 s3 h => andS_len (fun s4 h4 => subWS_len (hg b1) h4) (fun s4 h => andB_len (fun b2 s5 h => subWS_len (hg b2) h) h) h) h) h) h
  split at h
  · exact andB_len (fun b s1 h => bodyWS_len (hg b) h) h
  split at h
  · exact andB_len (fun b s1 h => bodyWS_len (hg b) h) h
  split at h
  · exact andB_len (fun b s1 h => bodyWS_len (hg b) h) h
  · cases h
theorem stmtWS_len (es : List Expr) (ss : List PStmt) : ∀ (f : Nat) (br n : Int) (s r : WSt), stmtWS es ss f br n s = some r → s.1.length ≤ r.1.length
  | 0, br, n, s, r, h => by cases h
  | f + 1, br, n, s, r, h => stmtKW_len (fun b k s r h => stmtWS_len es ss f b k s r h) h
set_option maxHeartbeats 1600000 in
set_option maxRecDepth 100000 in
theorem stmtsG (es : List Expr) (ss : List PStmt) (f : Nat) (ih : StmtWC es ss f) (br lim : Int) (ks : List Int) (v : Value) {w w1 : World} {lo : Nat} {ex : Nat → Prop} {pb : Nat} {D : Nat → Value} {s : WSt} (g : WG w w1 lo ex pb D s) (hbr : WAt br s.1) (hP : WD w1 lo D es ss) (hk : Ints w1 (fun b => b < lo) v ks) (hlim : lim ≤ f ∧ lim ≤ ss.length) :
    Calls Try.prog 58 #[.pointer (some ⟨pb, 0, none⟩), .int .i64 br, v, .int .i64 lim] w1 (WP w lo ex pb D (unitR (subWS (fun n s => stmtWS es ss f br n s) lim ks s))) := by
  obtain ⟨A, c, rfl, _, _⟩ := hk.slice
  generalize hgr : subWS (fun n s => stmtWS es ss f br n s) lim ks s = R
  have HR := hid hgr; have G0 := hid g; have HA := hid hbr; have HP := hid hP; have HK := hid hk; have IH := hid ih
  clear g hbr hP hk ih hgr
  go_enter Try.func58, Try.ntmps58
  go_wp2_with fail
  go_loopw [9, 12] (fun s9 s12 wr => ∃ (k : Nat) (s1 : WSt), s12 = .int .i64 (k : Int) ∧ k ≤ ks.length ∧ Hid (WG w wr lo ex pb D s1) ∧ Hid (WAt br s1.1) ∧ Hid (subWS (fun n s => stmtWS es ss f br n s) lim (ks.drop k) s1 = R)) (fun s9 s12 wr => ks.length - cnt s12)
  case atStart => exact ⟨0, s, rfl, Nat.zero_le _, G0, HA, by simpa using HR⟩
  case round =>
    obtain ⟨k, s1, rfl, hkl, G, HA1, HR1⟩ := hrel
    by_cases hlt : k < ks.length
    · have hBr : ∀ b, b < lo → wr.heap[b]? = w1.heap[b]? := fun b hb => (G.out.low.block b hb).trans (G0.out.low.block b hb).symm
      have hIr := HK.out.imp (w' := wr) (D' := fun b => b < lo) fun b hD _ => ⟨hD, hBr b hD⟩
      obtain ⟨eb, eo, ec, hev, _, _, _, _, hcell⟩ := hIr.at_ k hlt
      simp only [Value.slice.injEq] at hev
      obtain ⟨rfl, _, rfl⟩ := hev
      obtain ⟨kk, hkk⟩ : ∃ kk, nth ks k = kk := ⟨_, rfl⟩
      have hdr : ks.drop k = kk :: ks.drop (k + 1) := by rw [drop_nth hlt, hkk]
      rw [hkk] at hcell
      have hR1 := HR1.out
      rw [hdr] at hR1
      simp only [subWS, kidsWS] at hR1
      have hlow1 : w1.heap.size ≤ wr.heap.size ∨ True := .inr trivial
      have HPr := hid (show WD wr lo D es ss from ⟨Row.imp HP.out.exprs (fun a cs _ hr => hr.imp fun b hD _ => ⟨hD, hBr b hD⟩) (fun b hD _ => ⟨hD, hBr b hD⟩) (by omega) (fun _ _ h => h.len), Row.imp HP.out.stmts (fun a cs _ hr => hr.imp fun b hD _ => ⟨hD, hBr b hD⟩) (fun b hD _ => ⟨hD, hBr b hD⟩) (by omega) (fun _ _ h => h.len)⟩)
      have HR2 := hid hR1
      clear hdr HR1 hR1 hkk hBr hIr hlow1
      by_cases hin : 0 ≤ kk ∧ kk < lim
      · obtain ⟨kn, rfl⟩ : ∃ kn : Nat, kk = (kn : Int) := ⟨kk.toNat, by omega⟩
        have hR2 := HR2.out
        rw [if_pos hin] at hR2
        have HR3 := hid hR2; have HIN := hid hin
        clear HR2 hR2
        go_wp2_with (go_at_call 31; refine (belowW _ _ _).mono ?_; rintro e w' ⟨he, hw⟩; have hw := hw.symm; subst hw; rw [if_pos HIN.out] at he; subst he)
        refine (IH.out br kn w wr lo pb ex D s1 (by omega) (by omega) G.out HA1.out HPr.out).mono ?_
        intro e w5 h9
        rcases hr : stmtWS es ss f br (kn : Int) s1 with _ | s2
        · rw [hr] at h9
          obtain rfl := h9.none
          exact ⟨rfl, WP.no (by rw [← HR3.out, hr]; rfl) h9.low h9.keep⟩
        · rw [hr] at h9
          obtain ⟨rfl, g5⟩ := h9.some
          have hl5 := stmtWS_len es ss _ _ _ _ _ hr
          have G5 := hid g5; have HA5 := hid (HA1.out.more hl5)
          have HR5 := hid (show subWS (fun n s => stmtWS es ss f br n s) lim (ks.drop (k + 1)) s2 = R by rw [← HR3.out, hr]; rfl)
          clear h9 g5 hr HR3 hl5
          go_wp2_with fail
          go_roundw
          case rel => exact ⟨k + 1, s2, by simp, by omega, G5, HA5, HR5⟩
          case measure => simp only [cnt]; omega
      · have hR2 := HR2.out
        rw [if_neg hin] at hR2
        have HR3 := hid hR2; have HIN := hid hin
        clear HR2 hR2 hin
        go_wp2_with (go_at_call 31; refine (belowW _ _ _).mono ?_; rintro e w' ⟨he, hw⟩; have hw := hw.symm; subst hw; rw [if_neg HIN.out] at he; subst he)
        exact ⟨rfl, WP.no (by rw [← HR3.out]; rfl) G.out.low G.out.keep⟩
    · have hk' : k = ks.length := by omega
      subst hk'
      have hR1 := HR1.out
      rw [List.drop_length] at hR1
      simp only [subWS, kidsWS] at hR1
      have HR2 := hid hR1
      clear HR1 hR1
      go_wp2
      go_end0
      exact G.out.ok (by rw [← HR2.out]; rfl)
end Go.Proofs.Ytgaginegcjpddaa
/- The program's writer: a statement's expression, and what is in it. -/
namespace Go.Proofs.Ytgaginegcjpddaa
open Go.RowKit
set_option maxHeartbeats 1600000 in
set_option maxRecDepth 100000 in
theorem bodyW (es : List Expr) (ss : List PStmt) (hops : OpsOk es ss) (f : Nat) (ih : StmtWC es ss f) (br k op e cond : Int) (nm : ByteArray) (AA TA EA : Option Addr) (an ac tc en ec : Nat) (thn : List Int) (n : Nat) (w : World) (lo pb : Nat) (ex : Nat → Prop) (D S : Nat → Value) (l : List Form) (top : List Int) (h : WX w lo ex pb D S l top) (hwf : WWf l top) (hbr : WAt br l) (hP : WD w lo D es ss) (htv : Ints w (fun b => b < lo) (.slice TA thn.length tc) thn) (hnf : n ≤ f ∧ n ≤ ss.length) :
    Calls Try.prog 59 #[.pointer (some ⟨pb, 0, none⟩), .int .i64 br, .agg #[.int .u8 k, .string nm, .int .u8 op, .int .i64 e, .int .i64 cond, .slice AA an ac, .slice TA thn.length tc, .slice EA en ec], .int .i64 (n : Int)] w (WP w lo ex pb D (unitR (bodyWS es br e (fun k s => stmtWS es ss f br k s) (n : Int) thn (l, top)))) := by
  obtain ⟨w1, hw1⟩ : ∃ w1, w.alloc (.cells #[.int .u8 k, .string nm, .int .u8 op, .int .i64 e, .int .i64 cond, .slice AA an ac, .slice TA thn.length tc, .slice EA en ec] 77) = w1 := ⟨_, rfl⟩
  have h1 := h.alloc (.cells #[.int .u8 k, .string nm, .int .u8 op, .int .i64 e, .int .i64 cond, .slice AA an ac, .slice TA thn.length tc, .slice EA en ec] 77)
  have hx1 := new_blk w (.cells #[.int .u8 k, .string nm, .int .u8 op, .int .i64 e, .int .i64 cond, .slice AA an ac, .slice TA thn.length tc, .slice EA en ec] 77)
  rw [hw1] at h1 hx1
  have hB1 : Below lo w w1 := by rw [← hw1]; exact (Below.refl _ _).alloc h.ft.lows.1 _
  have hun : ∀ r e w', WP w1 lo (fun b => ex b ∨ b = w.heap.size) pb D r e w' → WP w lo ex pb D r e w' := fun r e w' h9 => WP.unalloc h (by rw [hw1]; exact h9)
  have hpn : w.heap.size ≠ pb := fun e => by have := blk_lt h.blk; omega
  obtain ⟨XA, xc, hD1, _, _⟩ := hP.exprs.slice
  have hB := h1.blk
  rw [hD1] at hB
  have q1 := blk_cell hB 1
  have y3 := blk_cell hx1 3
  have H1 := hid h1; have HW := hid hwf; have HA := hid hbr; have HP := hid (hP.below hB1); have HX1 := hid hx1; have HUN := hid hun; have HO := hid hops; have HW1 := hid hw1; have IH := hid ih
  have HT := hid (htv.imp (w' := w1) (D' := fun b => b < lo) fun b hD _ => ⟨hD, hB1.block b hD⟩)
  generalize hgr : bodyWS es br e (fun k s => stmtWS es ss f br k s) (n : Int) thn (l, top) = R
  have HR := hid hgr
  clear h hwf hbr hP hx1 hun hops h1 hw1 hgr hB1 hB ih htv
  go_enter Try.func59, Try.ntmps59
  go_upto_region 1 with fail
  rw [HW1.out]
  refine wp_region_rg 10 (fun w' => w' = w1.drew) (fun j v w' => match j with
    | 0 => v = .pointer (some ⟨pb, 0, none⟩)
    | 1 => v = .int .i64 br
    | 2 => v = .pointer (some ⟨w.heap.size, 3, none⟩)
    | 3 => v = .int .i64 e
    | 4 => v = .pointer (some ⟨pb, 0, none⟩)
    | 5 => v = .pointer (some ⟨pb, 0, none⟩)
    | 6 => v = .pointer (some ⟨pb, 0, none⟩)
    | 7 => v = .pointer (some ⟨pb, 1, none⟩)
    | 8 => v = .slice XA es.length xc
    | 9 => v = .int .i64 (es.length : Int)
    | _ => True) (by kernel_rfl) (by kernel_rfl) (by rfl) rfl ?rgO ?rgE
  case rgO =>
    refine ⟨?_, ?_, ?_, ?_, ?_, ?_, ?_, ?_, ?_, ?_, trivial⟩
    · refine RgOk.val rfl fun a wq hI hD hF => ⟨?_, ?_, ?_⟩
      rotate_left 2
      · exact rfl
      · have s0 : a.tmps.getD 0 undef = _ := hF.get 0 rfl; simp [execOp, go_sem, Act.eval, s0]
    · refine RgOk.val rfl fun a wq hI hD hF => ⟨?_, ?_, ?_⟩
      rotate_left 2
      · exact rfl
      · have s1 : a.tmps.getD 1 undef = _ := hF.get 1 rfl; simp [execOp, go_sem, Act.eval, s1]
    · refine RgOk.val rfl fun a wq hI hD hF => ⟨?_, ?_, ?_⟩
      rotate_left 2
      · exact rfl
      · have s6 : a.tmps.getD 6 undef = _ := hF.get 6 rfl; simp [execOp, go_sem, Act.eval, s6]
    · refine RgOk.val rfl fun a wq hI hD hF => ⟨?_, ?_, ?_⟩
      rotate_left 2
      · exact rfl
      · have d2 : a.tmps.getD 10 undef = _ := hD.get 2 rfl rfl rfl; simp [execOp, go_sem, Act.eval, d2, (show wq.cell? ⟨w.heap.size, 3, none⟩ = some (.int .i64 e) by subst hI; exact y3)]
    · refine RgOk.val rfl fun a wq hI hD hF => ⟨?_, ?_, ?_⟩
      rotate_left 2
      · exact rfl
      · have s0 : a.tmps.getD 0 undef = _ := hF.get 0 rfl; simp [execOp, go_sem, Act.eval, s0]
    · refine RgOk.val rfl fun a wq hI hD hF => ⟨?_, ?_, ?_⟩
      rotate_left 2
      · exact rfl
      · have d4 : a.tmps.getD 12 undef = _ := hD.get 4 rfl rfl rfl; simp [execOp, go_sem, Act.eval, d4]
    · refine RgOk.val rfl fun a wq hI hD hF => ⟨?_, ?_, ?_⟩
      rotate_left 2
      · exact rfl
      · have d5 : a.tmps.getD 13 undef = _ := hD.get 5 rfl rfl rfl; simp [execOp, go_sem, Act.eval, d5]
    · refine RgOk.val rfl fun a wq hI hD hF => ⟨?_, ?_, ?_⟩
      rotate_left 2
      · exact rfl
      · have d6 : a.tmps.getD 14 undef = _ := hD.get 6 rfl rfl rfl; simp [execOp, go_sem, Act.eval, d6]
    · refine RgOk.val rfl fun a wq hI hD hF => ⟨?_, ?_, ?_⟩
      rotate_left 2
      · exact rfl
      · have d7 : a.tmps.getD 15 undef = _ := hD.get 7 rfl rfl rfl; simp [execOp, go_sem, Act.eval, d7, (show wq.cell? ⟨pb, 1, none⟩ = some (.slice XA es.length xc) by subst hI; exact q1)]
    · refine RgOk.val rfl fun a wq hI hD hF => ⟨?_, ?_, ?_⟩
      rotate_left 2
      · exact rfl
      · have d8 : a.tmps.getD 16 undef = _ := hD.get 8 rfl rfl rfl; simp [execOp, go_sem, Act.eval, d8]
  case rgE =>
    intro vs w3 hI hP
    subst hI
    have e0 : vs 0 = _ := hP 0 _ _ (by omega) rfl rfl
    have e1 : vs 1 = _ := hP 1 _ _ (by omega) rfl rfl
    have e3 : vs 3 = _ := hP 3 _ _ (by omega) rfl rfl
    have e9 : vs 9 = _ := hP 9 _ _ (by omega) rfl rfl
    simp only [rgPut, List.take, List.drop, Nat.zero_add, Nat.reduceAdd, e0, e1, e3, e9]
    have bdr : Below w1.heap.size w1 w1.drew := ⟨rfl, rfl, rfl, Nat.le_refl _, fun _ _ => rfl⟩
    have g1 : WG w1 w1.drew lo (fun b => ex b ∨ b = w.heap.size) pb D (l, top) := ⟨⟨S, H1.out.below bdr⟩, HW.out, bdr.mono H1.out.ft.lows.1, fun _ _ _ => rfl⟩
    have G1 := hid g1; have HP1 := hid (HP.out.below (bdr.mono H1.out.ft.lows.1))
    clear hP e0 e1 e3 e9 g1 bdr y3 q1
    go_wp2_with fail
    refine (exprG es HO.out.e br es.length e G1.out HA.out HP1.out.exprs).mono ?_
    intro e5 w5 h9
    have hR := HR.out
    unfold bodyWS exprW1 at hR
    rcases hr : exprWS es es.length br e es.length (l, top) with _ | s1
    · rw [hr] at h9 hR
      obtain rfl := h9.none
      have h9 := HUN.out _ _ _ h9
      exact ⟨rfl, WP.no (by rw [← hR]; rfl) h9.low h9.keep⟩
    · rw [hr] at h9 hR
      obtain ⟨rfl, g5⟩ := h9.some
      have hl5 := exprWS_len es _ _ _ _ _ _ hr
      have y6 := blk_cell ((g5.keep w.heap.size (.inr rfl) hpn).trans HX1.out) 6
      have G5 := hid g5; have HA5 := hid (HA.out.more hl5); have HP5 := hid (HP.out.below g5.low)
      have HT5 := hid (HT.out.imp (w' := w5) (D' := fun b => b < lo) fun b hD _ => ⟨hD, g5.low.block b hD⟩)
      have HR5 := hid hR
      clear h9 g5 hr hR hl5
      go_wp2_with fail
      refine (stmtsG es ss f IH.out br (n : Int) thn _ G5.out HA5.out HP5.out HT5.out (by omega)).mono ?_
      intro e6 w6 h9
      have h9 := HUN.out _ _ _ h9
      have hR6 := HR5.out
      rw [hR6] at h9
      rcases R with _ | s6
      · obtain rfl := h9.none
        exact ⟨rfl, h9⟩
      · obtain ⟨rfl, g6⟩ := h9.some
        have H9 := hid h9
        clear h9 g6 hR6
        go_wp2
        go_end0
        exact H9.out
theorem bodyG (es : List Expr) (ss : List PStmt) (hops : OpsOk es ss) (f : Nat) (ih : StmtWC es ss f) (br : Int) (x : PStmt) (av tv ev : Value) (n : Nat) {w w1 : World} {lo : Nat} {ex : Nat → Prop} {pb : Nat} {D : Nat → Value} {s : WSt} (g : WG w w1 lo ex pb D s) (hbr : WAt br s.1) (hP : WD w1 lo D es ss) (hav : Acts w1 (fun b => b < lo) av x.acts) (htv : Ints w1 (fun b => b < lo) tv x.thn) (hev : Ints w1 (fun b => b < lo) ev x.els) (hnf : n ≤ f ∧ n ≤ ss.length) :
    Calls Try.prog 59 #[.pointer (some ⟨pb, 0, none⟩), .int .i64 br, .agg (x.cells av tv ev).toArray, .int .i64 (n : Int)] w1 (WP w lo ex pb D (unitR (bodyWS es br x.e (fun k s => stmtWS es ss f br k s) (n : Int) x.thn s))) := by
  obtain ⟨S, hX⟩ := g.out
  obtain ⟨AA, ac, rfl, _, _⟩ := hav.slice
  obtain ⟨TA, tc, rfl, _, _⟩ := htv.slice
  obtain ⟨EA, ec, rfl, _, _⟩ := hev.slice
  exact (bodyW es ss hops f ih br x.kind x.op x.e x.cond x.name AA TA EA x.acts.length ac tc x.els.length ec x.thn n w1 lo pb ex D S s.1 s.2 hX g.wf hbr hP htv hnf).mono fun e w' h => h.then g.low g.keep
end Go.Proofs.Ytgaginegcjpddaa
/- The program's writer: a statement, kind by kind. (printed by gen_wstmt.py) -/
namespace Go.Proofs.Ytgaginegcjpddaa
open Go.RowKit
theorem WG.below {w w1 w2 : World} {lo : Nat} {ex : Nat → Prop} {pb : Nat} {D : Nat → Value} {s : WSt} (g : WG w w1 lo ex pb D s) (hb : Below w1.heap.size w1 w2) : WG w w2 lo ex pb D s := by
  obtain ⟨S, hX⟩ := g.out
  exact ⟨⟨S, hX.below hb⟩, g.wf, g.low.trans (hb.mono hX.ft.lows.1), fun b hb' hp => (hb.block b (hX.ft.lows.2 b hb')).trans (g.keep b hb' hp)⟩
theorem WG.trans {w w1 w2 : World} {lo : Nat} {ex : Nat → Prop} {pb : Nat} {D : Nat → Value} {s s2 : WSt} (g : WG w w1 lo ex pb D s) (k : WG w1 w2 lo ex pb D s2) : WG w w2 lo ex pb D s2 :=
  ⟨k.out, k.wf, g.low.trans k.low, fun b hb hp => (k.keep b hb hp).trans (g.keep b hb hp)⟩
set_option maxHeartbeats 3200000 in
set_option maxRecDepth 100000 in
theorem stmtW_set (es : List Expr) (ss : List PStmt) (hops : OpsOk es ss) (f : Nat) (ih : StmtWC es ss f) (br : Int) (n : Nat) (op e cond : Int) (nm : ByteArray) (acts : List PAct) (thn els : List Int) (w : World) (lo pb : Nat) (ex : Nat → Prop) (D S : Nat → Value) (l : List Form) (top : List Int) (h : WX w lo ex pb D S l top) (hwf : WWf l top) (hbr : WAt br l) (hP : WD w lo D es ss) (hn : n < ss.length) (hnf : n ≤ f) (hx : nth ss n = { kind := 1, name := nm, op := op, e := e, cond := cond, acts := acts, thn := thn, els := els }) :
    Calls Try.prog 32 #[.pointer (some ⟨pb, 0, none⟩), .int .i64 br, .int .i64 (n : Int)] w (WP w lo ex pb D (unitR (stmtKW es { kind := 1, name := nm, op := op, e := e, cond := cond, acts := acts, thn := thn, els := els } br (n : Int) (fun b k s => stmtWS es ss f b k s) (l, top)))) := by
  obtain ⟨xb, xo, xc, av, tv, ev, hD2, hxb, hcells, hacts, hthn, hels⟩ := hP.stmts.at_ hn
  have hopx := hops.s _ (nth_mem hn)
  rw [hx] at hcells hacts hthn hels hopx
  obtain ⟨AA, ac, rfl, _, _⟩ := hacts.slice
  obtain ⟨TA, tc, rfl, _, _⟩ := hthn.slice
  obtain ⟨EA, ec, rfl, _, _⟩ := hels.slice
  have c0 := hcells 0 _ rfl; have c1 := hcells 1 _ rfl; have c2 := hcells 2 _ rfl; have c3 := hcells 3 _ rfl; have c4 := hcells 4 _ rfl; have c5 := hcells 5 _ rfl; have c6 := hcells 6 _ rfl; have c7 := hcells 7 _ rfl
  simp only [Nat.add_zero] at c0
  obtain ⟨XA, xec, hD1, _, _⟩ := hP.exprs.slice
  have hB := h.blk
  rw [hD1, hD2] at hB
  have q2 := blk_cell hB 2
  have hn0 : (0 : Int) ≤ (n : Int) := by omega
  have hn1 : (n : Int) < (ss.length : Int) := by omega
  obtain ⟨w1, hw1⟩ : ∃ w1, w.alloc (.cells #[.int .u8 1, .string nm, .int .u8 op, .int .i64 e, .int .i64 cond, .slice AA acts.length ac, .slice TA thn.length tc, .slice EA els.length ec] 77) = w1 := ⟨_, rfl⟩
  have h1 := h.alloc (.cells #[.int .u8 1, .string nm, .int .u8 op, .int .i64 e, .int .i64 cond, .slice AA acts.length ac, .slice TA thn.length tc, .slice EA els.length ec] 77)
  have hx1 := new_blk w (.cells #[.int .u8 1, .string nm, .int .u8 op, .int .i64 e, .int .i64 cond, .slice AA acts.length ac, .slice TA thn.length tc, .slice EA els.length ec] 77)
  rw [hw1] at h1 hx1
  have hB1 : Below lo w w1 := by rw [← hw1]; exact (Below.refl _ _).alloc h.ft.lows.1 _
  have hun : ∀ r e w', WP w1 lo (fun b => ex b ∨ b = w.heap.size) pb D r e w' → WP w lo ex pb D r e w' := fun r e w' h9 => WP.unalloc h (by rw [hw1]; exact h9)
  have hpn : w.heap.size ≠ pb := fun e => by have := blk_lt h.blk; omega
  have hpl := blk_lt h1.blk
  have hS1 := h1.ft.lt
  have hB1' := h1.blk
  rw [hD1, hD2] at hB1'
  have q1 := blk_cell hB1' 1
  have z0 := blk_cell hx1 0
  have H1 := hid h1; have HW := hid hwf; have HA := hid hbr; have HP := hid (hP.below hB1); have HX1 := hid hx1; have HUN := hid hun; have HO := hid hops; have HW1 := hid hw1; have HS1 := hid hS1; have IH := hid ih; have HOPX := hid hopx
  have HAC := hid (hacts.imp (w' := w1) (D' := fun b => b < lo) fun b hD _ => ⟨hD, hB1.block b hD⟩)
  have HTH := hid (hthn.imp (w' := w1) (D' := fun b => b < lo) fun b hD _ => ⟨hD, hB1.block b hD⟩)
  have HEL := hid (hels.imp (w' := w1) (D' := fun b => b < lo) fun b hD _ => ⟨hD, hB1.block b hD⟩)
  generalize hgr : stmtKW es { kind := 1, name := nm, op := op, e := e, cond := cond, acts := acts, thn := thn, els := els } br (n : Int) (fun b k s => stmtWS es ss f b k s) (l, top) = R
  have HR := hid hgr
  have hcell : ∀ W lo' S' s' br' ws o w', w1.heap.size ≤ W.heap.size → W.heap[w.heap.size]? = w1.heap[w.heap.size]? → OI W lo' (fun b => ex b ∨ b = w.heap.size) pb D S' s' br' ws o w' → ∀ j, w'.cell? ⟨w.heap.size, j, none⟩ = (#[.int .u8 1, .string nm, .int .u8 op, .int .i64 e, .int .i64 cond, .slice AA acts.length ac, .slice TA thn.length tc, .slice EA els.length ec] : Array Value)[j]? := fun W lo' S' s' br' ws o w' _ hW hI j => hI.cell (hW.trans hx1) (.inr rfl) hpn j
  have HCELL := hid hcell
  clear h hwf hbr hP hx1 hun hops h1 hw1 hgr hB1 hS1 hB hcells hacts hthn hels hx ih hB1' hopx hcell
  go_enter Try.func32, Try.ntmps32
  go_upto_region 1 with fail
  rw [HW1.out]
  clear c0 c1 c2 c3 c4 c5 c6 c7 q2
  go_upto_region 5 with fail
  have HRk := HR.out
  unfold stmtKW at HRk
  simp only [if_true, if_false, Int.reduceEq] at HRk
  have HRK := hid HRk
  clear HRk
  have HC : ∀ o w', OI w1 lo (fun b => ex b ∨ b = w.heap.size) pb D S (l, top) br [wSet, nm] o w' → _ := fun o w' hI => HCELL.out _ _ _ _ _ _ o w' (Nat.le_refl _) rfl hI
  refine wp_region_rg2 10 (fun dn w' => OI w1 lo (fun b => ex b ∨ b = w.heap.size) pb D S (l, top) br [wSet, nm] (dn 6) w') (fun j v w' => match j with
      | 0 => v = .pointer (some ⟨pb, 0, none⟩)
      | 1 => v = .pointer (some ⟨pb, 0, none⟩)
      | 2 => v = .int .i64 br
      | 3 => v = .pointer (some ⟨w.heap.size, 1, none⟩)
      | 4 => v = .string nm
      | 5 => ∃ B : Nat, v = .slice (some ⟨B, 0, none⟩) 2 2 ∧ w1.heap.size ≤ B ∧ w'.heap[B]? = some (.cells #[.string ⟨#[115, 101, 116]⟩, .string nm] 9 (0, 0))
      | 6 => v = .int .i64 ((l, top).1.length : Int)
      | 7 => v = .pointer (some ⟨w.heap.size, 3, none⟩)
      | 8 => v = .int .i64 e
      | 9 => v = .int .i64 (es.length : Int)
      | _ => True) (by kernel_rfl) (by kernel_rfl) (by rfl) (OI.start (s := (l, top)) H1.out) ?rgO ?rgE
  case rgO =>
    refine ⟨?_, ?_, ?_, ?_, ?_, ?_, ?_, ?_, ?_, ?_, trivial⟩
    · refine RgOk2.val rfl (fun dn w h => by simpa [dn1] using h) fun a wq dn hI hD hF => ⟨?_, ?_, ?_⟩
      rotate_left 2
      · exact rfl
      · have s0 : a.tmps.getD 0 undef = _ := hF.get 0 rfl; simp [execOp, go_sem, Act.eval, s0]
    · refine RgOk2.val rfl (fun dn w h => by simpa [dn1] using h) fun a wq dn hI hD hF => ⟨?_, ?_, ?_⟩
      rotate_left 2
      · exact rfl
      · have s0 : a.tmps.getD 0 undef = _ := hF.get 0 rfl; simp [execOp, go_sem, Act.eval, s0]
    · refine RgOk2.val rfl (fun dn w h => by simpa [dn1] using h) fun a wq dn hI hD hF => ⟨?_, ?_, ?_⟩
      rotate_left 2
      · exact rfl
      · have s1 : a.tmps.getD 1 undef = _ := hF.get 1 rfl; simp [execOp, go_sem, Act.eval, s1]
    · refine RgOk2.val rfl (fun dn w h => by simpa [dn1] using h) fun a wq dn hI hD hF => ⟨?_, ?_, ?_⟩
      rotate_left 2
      · exact rfl
      · have s6 : a.tmps.getD 6 undef = _ := hF.get 6 rfl; simp [execOp, go_sem, Act.eval, s6]
    · refine RgOk2.val rfl (fun dn w h => by simpa [dn1] using h) fun a wq dn hI hD hF => ⟨?_, ?_, ?_⟩
      rotate_left 2
      · exact rfl
      · have d3 : a.tmps.getD 35 undef = _ := hD.get 3 rfl rfl rfl; simp [execOp, go_sem, Act.eval, d3, HC _ _ hI 1]
    · refine RgOk2.turn rfl fun a wq dn h0 hcl hI hD hF => ?_
      have h11 := hcl.no 6 5 rfl rfl h0
      rw [h11] at hI
      have d4 : a.tmps.getD 36 undef = _ := hD.get 4 rfl rfl rfl
      simp only [Array.getD_eq_getD_getElem?] at d4
      have hbq := (Below.refl wq.heap.size wq).alloc (Nat.le_refl _) (.cells #[.string ⟨#[115, 101, 116]⟩, .string nm] 9)
      refine ⟨_, wq.alloc (.cells #[.string ⟨#[115, 101, 116]⟩, .string nm] 9), ?_, by simpa [dn1, h11] using hI.below hbq H1.out.ft.lows.1, ⟨wq.heap.size, rfl, (hI.a rfl).2.size, new_blk _ _⟩, fun i u hi hd hp => by (split at hp <;> first | exact hp | exact absurd rfl hi)⟩
      simp [execOp, go_sem, Act.eval, d4]
    · refine RgOk2.call rfl 54 fun a wq dn h0 hcl hI hD hF => ?_
      rw [h0] at hI
      have d1 : a.tmps.getD 33 undef = _ := hD.get 1 rfl rfl rfl
      have d2 : a.tmps.getD 34 undef = _ := hD.get 2 rfl rfl rfl
      simp only [Array.getD_eq_getD_getElem?] at d1 d2
      obtain ⟨B, dB, hB1, hB2⟩ := hD.get 5 rfl rfl rfl
      simp only [Array.getD_eq_getD_getElem?] at dB
      refine ⟨#[.pointer (some ⟨pb, 0, none⟩), .int .i64 br, .slice (some ⟨B, 0, none⟩) 2 2], by simp [execOp, go_sem, Act.eval, d1, d2, dB], ?_⟩
      refine (hI.open_ HW.out HA.out HS1.out hpl hB1 (blk_lt hB2) (Strs.two hB2 rfl)).mono ?_
      rintro e' w' ⟨⟨rfl, hO⟩ | ⟨rfl, hn, hl, hk⟩, hBk⟩
      exact .inl ⟨_, rfl, by simpa [dn1] using hO, rfl, fun i u hi hd hp => by (split at hp <;> first | exact hp | exact absurd rfl hi | (obtain ⟨B', u1, u2, u3⟩ := hp; exact ⟨B', u1, u2, (hBk B' u2 (blk_lt u3)).trans u3⟩))⟩
      have h9 := HUN.out none _ _ (id (WP.no (D := D) (pb := pb) rfl hl hk))
      exact .inr ⟨_, rfl, hF.1, WP.no (by rw [← HRK.out]; rw [show openS br [wSet, nm] (l, top) = none from hn]; rfl) h9.low h9.keep⟩
    · refine RgOk2.val rfl (fun dn w h => by simpa [dn1] using h) fun a wq dn hI hD hF => ⟨?_, ?_, ?_⟩
      rotate_left 2
      · exact rfl
      · have s6 : a.tmps.getD 6 undef = _ := hF.get 6 rfl; simp [execOp, go_sem, Act.eval, s6]
    · refine RgOk2.val rfl (fun dn w h => by simpa [dn1] using h) fun a wq dn hI hD hF => ⟨?_, ?_, ?_⟩
      rotate_left 2
      · exact rfl
      · have d7 : a.tmps.getD 39 undef = _ := hD.get 7 rfl rfl rfl; simp [execOp, go_sem, Act.eval, d7, HC _ _ hI 3]
    · refine RgOk2.val rfl (fun dn w h => by simpa [dn1] using h) fun a wq dn hI hD hF => ⟨?_, ?_, ?_⟩
      rotate_left 2
      · exact rfl
      · have s7 : a.tmps.getD 7 undef = _ := hF.get 7 rfl; simp [execOp, go_sem, Act.eval, s7]
  case rgE =>
    intro vs w4 hI hP4
    obtain ⟨s1, hr, g4⟩ := hI.b rfl
    have e0 : vs 0 = _ := hP4 0 _ _ (by omega) rfl rfl
    have e6 : vs 6 = _ := hP4 6 _ _ (by omega) rfl rfl
    have e8 : vs 8 = _ := hP4 8 _ _ (by omega) rfl rfl
    have e9 : vs 9 = _ := hP4 9 _ _ (by omega) rfl rfl
    simp only [rgPut, List.take, List.drop, Nat.zero_add, Nat.reduceAdd, e0, e6, e8, e9]
    have hR2 := HRK.out
    rw [hr] at hR2
    simp only [andB] at hR2
    have hol := (openS_len hr).2
    have G4 := hid g4; have HR2 := hid hR2; have HLT := hid hol
    clear hI hP4 g4 hR2 hr hol e0 e6 e8 e9
    have HP4 := hid (HP.out.below G4.out.low).exprs
    go_wp2_with fail
    refine (exprG es HO.out.e (l.length : Int) es.length e G4.out (.inr ⟨l.length, rfl, HLT.out⟩) HP4.out).mono ?_
    intro e5 w5 h9
    have h9 := HUN.out _ _ _ h9
    have hR5 := HR2.out
    rw [show exprWS es es.length (l.length : Int) e es.length s1 = R from hR5] at h9
    rcases R with _ | s5
    · obtain rfl := h9.none
      exact ⟨rfl, h9⟩
    · obtain ⟨rfl, g5⟩ := h9.some
      have H9 := hid h9
      clear h9 g5 hR5
      go_wp2
      go_end0
      exact H9.out
set_option maxHeartbeats 3200000 in
set_option maxRecDepth 100000 in
theorem stmtW_fold (es : List Expr) (ss : List PStmt) (hops : OpsOk es ss) (f : Nat) (ih : StmtWC es ss f) (br : Int) (n : Nat) (op e cond : Int) (nm : ByteArray) (acts : List PAct) (thn els : List Int) (w : World) (lo pb : Nat) (ex : Nat → Prop) (D S : Nat → Value) (l : List Form) (top : List Int) (h : WX w lo ex pb D S l top) (hwf : WWf l top) (hbr : WAt br l) (hP : WD w lo D es ss) (hn : n < ss.length) (hnf : n ≤ f) (hx : nth ss n = { kind := 2, name := nm, op := op, e := e, cond := cond, acts := acts, thn := thn, els := els }) :
    Calls Try.prog 32 #[.pointer (some ⟨pb, 0, none⟩), .int .i64 br, .int .i64 (n : Int)] w (WP w lo ex pb D (unitR (stmtKW es { kind := 2, name := nm, op := op, e := e, cond := cond, acts := acts, thn := thn, els := els } br (n : Int) (fun b k s => stmtWS es ss f b k s) (l, top)))) := by
  obtain ⟨xb, xo, xc, av, tv, ev, hD2, hxb, hcells, hacts, hthn, hels⟩ := hP.stmts.at_ hn
  have hopx := hops.s _ (nth_mem hn)
  rw [hx] at hcells hacts hthn hels hopx
  obtain ⟨AA, ac, rfl, _, _⟩ := hacts.slice
  obtain ⟨TA, tc, rfl, _, _⟩ := hthn.slice
  obtain ⟨EA, ec, rfl, _, _⟩ := hels.slice
  have c0 := hcells 0 _ rfl; have c1 := hcells 1 _ rfl; have c2 := hcells 2 _ rfl; have c3 := hcells 3 _ rfl; have c4 := hcells 4 _ rfl; have c5 := hcells 5 _ rfl; have c6 := hcells 6 _ rfl; have c7 := hcells 7 _ rfl
  simp only [Nat.add_zero] at c0
  obtain ⟨XA, xec, hD1, _, _⟩ := hP.exprs.slice
  have hB := h.blk
  rw [hD1, hD2] at hB
  have q2 := blk_cell hB 2
  have hn0 : (0 : Int) ≤ (n : Int) := by omega
  have hn1 : (n : Int) < (ss.length : Int) := by omega
  obtain ⟨w1, hw1⟩ : ∃ w1, w.alloc (.cells #[.int .u8 2, .string nm, .int .u8 op, .int .i64 e, .int .i64 cond, .slice AA acts.length ac, .slice TA thn.length tc, .slice EA els.length ec] 77) = w1 := ⟨_, rfl⟩
  have h1 := h.alloc (.cells #[.int .u8 2, .string nm, .int .u8 op, .int .i64 e, .int .i64 cond, .slice AA acts.length ac, .slice TA thn.length tc, .slice EA els.length ec] 77)
  have hx1 := new_blk w (.cells #[.int .u8 2, .string nm, .int .u8 op, .int .i64 e, .int .i64 cond, .slice AA acts.length ac, .slice TA thn.length tc, .slice EA els.length ec] 77)
  rw [hw1] at h1 hx1
  have hB1 : Below lo w w1 := by rw [← hw1]; exact (Below.refl _ _).alloc h.ft.lows.1 _
  have hun : ∀ r e w', WP w1 lo (fun b => ex b ∨ b = w.heap.size) pb D r e w' → WP w lo ex pb D r e w' := fun r e w' h9 => WP.unalloc h (by rw [hw1]; exact h9)
  have hpn : w.heap.size ≠ pb := fun e => by have := blk_lt h.blk; omega
  have hpl := blk_lt h1.blk
  have hS1 := h1.ft.lt
  have hB1' := h1.blk
  rw [hD1, hD2] at hB1'
  have q1 := blk_cell hB1' 1
  have z0 := blk_cell hx1 0
  have H1 := hid h1; have HW := hid hwf; have HA := hid hbr; have HP := hid (hP.below hB1); have HX1 := hid hx1; have HUN := hid hun; have HO := hid hops; have HW1 := hid hw1; have HS1 := hid hS1; have IH := hid ih; have HOPX := hid hopx
  have HAC := hid (hacts.imp (w' := w1) (D' := fun b => b < lo) fun b hD _ => ⟨hD, hB1.block b hD⟩)
  have HTH := hid (hthn.imp (w' := w1) (D' := fun b => b < lo) fun b hD _ => ⟨hD, hB1.block b hD⟩)
  have HEL := hid (hels.imp (w' := w1) (D' := fun b => b < lo) fun b hD _ => ⟨hD, hB1.block b hD⟩)
  generalize hgr : stmtKW es { kind := 2, name := nm, op := op, e := e, cond := cond, acts := acts, thn := thn, els := els } br (n : Int) (fun b k s => stmtWS es ss f b k s) (l, top) = R
  have HR := hid hgr
  have hcell : ∀ W lo' S' s' br' ws o w', w1.heap.size ≤ W.heap.size → W.heap[w.heap.size]? = w1.heap[w.heap.size]? → OI W lo' (fun b => ex b ∨ b = w.heap.size) pb D S' s' br' ws o w' → ∀ j, w'.cell? ⟨w.heap.size, j, none⟩ = (#[.int .u8 2, .string nm, .int .u8 op, .int .i64 e, .int .i64 cond, .slice AA acts.length ac, .slice TA thn.length tc, .slice EA els.length ec] : Array Value)[j]? := fun W lo' S' s' br' ws o w' _ hW hI j => hI.cell (hW.trans hx1) (.inr rfl) hpn j
  have HCELL := hid hcell
  clear h hwf hbr hP hx1 hun hops h1 hw1 hgr hB1 hS1 hB hcells hacts hthn hels hx ih hB1' hopx hcell
  go_enter Try.func32, Try.ntmps32
  go_upto_region 1 with fail
  rw [HW1.out]
  clear c0 c1 c2 c3 c4 c5 c6 c7 q2
  go_upto_region 7 with fail
  obtain ⟨ow, how⟩ : ∃ ow, opWordS op = ow := ⟨_, rfl⟩
  have HRk := HR.out
  unfold stmtKW at HRk
  simp only [if_true, if_false, Int.reduceEq] at HRk
  rw [how] at HRk
  have HRK := hid HRk
  clear HRk
  have HC : ∀ o w', OI w1 lo (fun b => ex b ∨ b = w.heap.size) pb D S (l, top) br [wFold, nm, ow] o w' → _ := fun o w' hI => HCELL.out _ _ _ _ _ _ o w' (Nat.le_refl _) rfl hI
  refine wp_region_rg2 14 (fun dn w' => OI w1 lo (fun b => ex b ∨ b = w.heap.size) pb D S (l, top) br [wFold, nm, ow] (dn 9) w') (fun j v w' => match j with
      | 0 => v = .pointer (some ⟨pb, 0, none⟩)
      | 1 => v = .pointer (some ⟨pb, 0, none⟩)
      | 2 => v = .int .i64 br
      | 3 => v = .pointer (some ⟨w.heap.size, 1, none⟩)
      | 4 => v = .string nm
      | 5 => v = .pointer (some ⟨w.heap.size, 2, none⟩)
      | 6 => v = .int .u8 op
      | 7 => v = .string ow
      | 8 => ∃ B : Nat, v = .slice (some ⟨B, 0, none⟩) 3 3 ∧ w1.heap.size ≤ B ∧ w'.heap[B]? = some (.cells #[.string ⟨#[102, 111, 108, 100]⟩, .string nm, .string ow] 9 (0, 0))
      | 9 => v = .int .i64 ((l, top).1.length : Int)
      | 10 => v = .pointer (some ⟨w.heap.size, 3, none⟩)
      | 11 => v = .int .i64 e
      | 12 => v = .pointer (some ⟨w.heap.size, 4, none⟩)
      | 13 => v = .int .i64 cond
      | _ => True) (by kernel_rfl) (by kernel_rfl) (by rfl) (OI.start (s := (l, top)) H1.out) ?rgO ?rgE
  case rgO =>
    refine ⟨?_, ?_, ?_, ?_, ?_, ?_, ?_, ?_, ?_, ?_, ?_, ?_, ?_, ?_, trivial⟩
    · refine RgOk2.val rfl (fun dn w h => by simpa [dn1] using h) fun a wq dn hI hD hF => ⟨?_, ?_, ?_⟩
      rotate_left 2
      · exact rfl
      · have s0 : a.tmps.getD 0 undef = _ := hF.get 0 rfl; simp [execOp, go_sem, Act.eval, s0]
    · refine RgOk2.val rfl (fun dn w h => by simpa [dn1] using h) fun a wq dn hI hD hF => ⟨?_, ?_, ?_⟩
      rotate_left 2
      · exact rfl
      · have s0 : a.tmps.getD 0 undef = _ := hF.get 0 rfl; simp [execOp, go_sem, Act.eval, s0]
    · refine RgOk2.val rfl (fun dn w h => by simpa [dn1] using h) fun a wq dn hI hD hF => ⟨?_, ?_, ?_⟩
      rotate_left 2
      · exact rfl
      · have s1 : a.tmps.getD 1 undef = _ := hF.get 1 rfl; simp [execOp, go_sem, Act.eval, s1]
    · refine RgOk2.val rfl (fun dn w h => by simpa [dn1] using h) fun a wq dn hI hD hF => ⟨?_, ?_, ?_⟩
      rotate_left 2
      · exact rfl
      · have s6 : a.tmps.getD 6 undef = _ := hF.get 6 rfl; simp [execOp, go_sem, Act.eval, s6]
    · refine RgOk2.val rfl (fun dn w h => by simpa [dn1] using h) fun a wq dn hI hD hF => ⟨?_, ?_, ?_⟩
      rotate_left 2
      · exact rfl
      · have d3 : a.tmps.getD 48 undef = _ := hD.get 3 rfl rfl rfl; simp [execOp, go_sem, Act.eval, d3, HC _ _ hI 1]
    · refine RgOk2.val rfl (fun dn w h => by simpa [dn1] using h) fun a wq dn hI hD hF => ⟨?_, ?_, ?_⟩
      rotate_left 2
      · exact rfl
      · have s6 : a.tmps.getD 6 undef = _ := hF.get 6 rfl; simp [execOp, go_sem, Act.eval, s6]
    · refine RgOk2.val rfl (fun dn w h => by simpa [dn1] using h) fun a wq dn hI hD hF => ⟨?_, ?_, ?_⟩
      rotate_left 2
      · exact rfl
      · have d5 : a.tmps.getD 50 undef = _ := hD.get 5 rfl rfl rfl; simp [execOp, go_sem, Act.eval, d5, HC _ _ hI 2]
    · refine RgOk2.call rfl 15 fun a wq dn h0 hcl hI hD hF => ⟨#[.int .u8 op], ?_, ?_⟩
      rotate_left 1
      have h10 := hcl.no 8 7 rfl rfl h0
      have h11 := hcl.no 9 8 rfl rfl h10
      rw [h11] at hI
      refine (opWord_any op wq HOPX.out.1).mono ?_
      rintro e' w' ⟨rfl, hb⟩
      rw [how]
      exact .inl ⟨_, rfl, by simpa [dn1, h11] using hI.below hb H1.out.ft.lows.1, rfl, fun i u hi hd hp => by (split at hp <;> first | exact hp | (rw [h10] at hd; cases hd))⟩
      have d6 : a.tmps.getD 51 undef = _ := hD.get 6 rfl rfl rfl
      simp only [Array.getD_eq_getD_getElem?] at d6
      simp [execOp, go_sem, Act.eval, d6]
    · refine RgOk2.turn rfl fun a wq dn h0 hcl hI hD hF => ?_
      have h11 := hcl.no 9 8 rfl rfl h0
      rw [h11] at hI
      have d4 : a.tmps.getD 49 undef = _ := hD.get 4 rfl rfl rfl
      simp only [Array.getD_eq_getD_getElem?] at d4
      have d7 : a.tmps.getD 52 undef = _ := hD.get 7 rfl rfl rfl
      simp only [Array.getD_eq_getD_getElem?] at d7
      have hbq := (Below.refl wq.heap.size wq).alloc (Nat.le_refl _) (.cells #[.string ⟨#[102, 111, 108, 100]⟩, .string nm, .string ow] 9)
      refine ⟨_, wq.alloc (.cells #[.string ⟨#[102, 111, 108, 100]⟩, .string nm, .string ow] 9), ?_, by simpa [dn1, h11] using hI.below hbq H1.out.ft.lows.1, ⟨wq.heap.size, rfl, (hI.a rfl).2.size, new_blk _ _⟩, fun i u hi hd hp => by (split at hp <;> first | exact hp | exact absurd rfl hi)⟩
      simp [execOp, go_sem, Act.eval, d4, d7]
    · refine RgOk2.call rfl 54 fun a wq dn h0 hcl hI hD hF => ?_
      rw [h0] at hI
      have d1 : a.tmps.getD 46 undef = _ := hD.get 1 rfl rfl rfl
      have d2 : a.tmps.getD 47 undef = _ := hD.get 2 rfl rfl rfl
      simp only [Array.getD_eq_getD_getElem?] at d1 d2
      obtain ⟨B, dB, hB1, hB2⟩ := hD.get 8 rfl rfl rfl
      simp only [Array.getD_eq_getD_getElem?] at dB
      refine ⟨#[.pointer (some ⟨pb, 0, none⟩), .int .i64 br, .slice (some ⟨B, 0, none⟩) 3 3], by simp [execOp, go_sem, Act.eval, d1, d2, dB], ?_⟩
      refine (hI.open_ HW.out HA.out HS1.out hpl hB1 (blk_lt hB2) (Strs.three hB2 rfl)).mono ?_
      rintro e' w' ⟨⟨rfl, hO⟩ | ⟨rfl, hn, hl, hk⟩, hBk⟩
      exact .inl ⟨_, rfl, by simpa [dn1] using hO, rfl, fun i u hi hd hp => by (split at hp <;> first | exact hp | exact absurd rfl hi | (obtain ⟨B', u1, u2, u3⟩ := hp; exact ⟨B', u1, u2, (hBk B' u2 (blk_lt u3)).trans u3⟩))⟩
      have h9 := HUN.out none _ _ (id (WP.no (D := D) (pb := pb) rfl hl hk))
      exact .inr ⟨_, rfl, hF.1, WP.no (by rw [← HRK.out]; rw [show openS br [wFold, nm, ow] (l, top) = none from hn]; rfl) h9.low h9.keep⟩
    · refine RgOk2.val rfl (fun dn w h => by simpa [dn1] using h) fun a wq dn hI hD hF => ⟨?_, ?_, ?_⟩
      rotate_left 2
      · exact rfl
      · have s6 : a.tmps.getD 6 undef = _ := hF.get 6 rfl; simp [execOp, go_sem, Act.eval, s6]
    · refine RgOk2.val rfl (fun dn w h => by simpa [dn1] using h) fun a wq dn hI hD hF => ⟨?_, ?_, ?_⟩
      rotate_left 2
      · exact rfl
      · have d10 : a.tmps.getD 55 undef = _ := hD.get 10 rfl rfl rfl; simp [execOp, go_sem, Act.eval, d10, HC _ _ hI 3]
    · refine RgOk2.val rfl (fun dn w h => by simpa [dn1] using h) fun a wq dn hI hD hF => ⟨?_, ?_, ?_⟩
      rotate_left 2
      · exact rfl
      · have s6 : a.tmps.getD 6 undef = _ := hF.get 6 rfl; simp [execOp, go_sem, Act.eval, s6]
    · refine RgOk2.val rfl (fun dn w h => by simpa [dn1] using h) fun a wq dn hI hD hF => ⟨?_, ?_, ?_⟩
      rotate_left 2
      · exact rfl
      · have d12 : a.tmps.getD 57 undef = _ := hD.get 12 rfl rfl rfl; simp [execOp, go_sem, Act.eval, d12, HC _ _ hI 4]
  case rgE =>
    intro vs w4 hI hP4
    obtain ⟨s1, hr, g4⟩ := hI.b rfl
    have e0 : vs 0 = _ := hP4 0 _ _ (by omega) rfl rfl
    have e9 : vs 9 = _ := hP4 9 _ _ (by omega) rfl rfl
    have e11 : vs 11 = _ := hP4 11 _ _ (by omega) rfl rfl
    have e13 : vs 13 = _ := hP4 13 _ _ (by omega) rfl rfl
    simp only [rgPut, List.take, List.drop, Nat.zero_add, Nat.reduceAdd, e0, e9, e11, e13]
    have hR2 := HRK.out
    rw [hr] at hR2
    simp only [andB] at hR2
    have hol := (openS_len hr).2
    have G4 := hid g4; have HR2 := hid hR2; have HLT := hid hol
    clear hI hP4 g4 hR2 hr hol e0 e9 e11 e13
    have HP4 := hid (HP.out.below G4.out.low).exprs
    go_wp2_with fail
    refine (partsG es HO.out.e (l.length : Int) e cond G4.out (.inr ⟨l.length, rfl, HLT.out⟩) HP4.out).mono ?_
    intro e5 w5 h9
    have h9 := HUN.out _ _ _ h9
    have hR5 := HR2.out
    rw [show partsWS es (l.length : Int) e cond s1 = R from hR5] at h9
    rcases R with _ | s5
    · obtain rfl := h9.none
      exact ⟨rfl, h9⟩
    · obtain ⟨rfl, g5⟩ := h9.some
      have H9 := hid h9
      clear h9 g5 hR5
      go_wp2
      go_end0
      exact H9.out
end Go.Proofs.Ytgaginegcjpddaa
/- The program's writer: a statement, kind by kind. (printed by gen_wstmt.py) -/
namespace Go.Proofs.Ytgaginegcjpddaa
open Go.RowKit
set_option maxHeartbeats 3200000 in
set_option maxRecDepth 100000 in
theorem stmtW_while (es : List Expr) (ss : List PStmt) (hops : OpsOk es ss) (f : Nat) (ih : StmtWC es ss f) (br : Int) (n : Nat) (op e cond : Int) (nm : ByteArray) (acts : List PAct) (thn els : List Int) (w : World) (lo pb : Nat) (ex : Nat → Prop) (D S : Nat → Value) (l : List Form) (top : List Int) (h : WX w lo ex pb D S l top) (hwf : WWf l top) (hbr : WAt br l) (hP : WD w lo D es ss) (hn : n < ss.length) (hnf : n ≤ f) (hx : nth ss n = { kind := 5, name := nm, op := op, e := e, cond := cond, acts := acts, thn := thn, els := els }) :
    Calls Try.prog 32 #[.pointer (some ⟨pb, 0, none⟩), .int .i64 br, .int .i64 (n : Int)] w (WP w lo ex pb D (unitR (stmtKW es { kind := 5, name := nm, op := op, e := e, cond := cond, acts := acts, thn := thn, els := els } br (n : Int) (fun b k s => stmtWS es ss f b k s) (l, top)))) := by
  obtain ⟨xb, xo, xc, av, tv, ev, hD2, hxb, hcells, hacts, hthn, hels⟩ := hP.stmts.at_ hn
  have hopx := hops.s _ (nth_mem hn)
  rw [hx] at hcells hacts hthn hels hopx
  obtain ⟨AA, ac, rfl, _, _⟩ := hacts.slice
  obtain ⟨TA, tc, rfl, _, _⟩ := hthn.slice
  obtain ⟨EA, ec, rfl, _, _⟩ := hels.slice
  have c0 := hcells 0 _ rfl; have c1 := hcells 1 _ rfl; have c2 := hcells 2 _ rfl; have c3 := hcells 3 _ rfl; have c4 := hcells 4 _ rfl; have c5 := hcells 5 _ rfl; have c6 := hcells 6 _ rfl; have c7 := hcells 7 _ rfl
  simp only [Nat.add_zero] at c0
  obtain ⟨XA, xec, hD1, _, _⟩ := hP.exprs.slice
  have hB := h.blk
  rw [hD1, hD2] at hB
  have q2 := blk_cell hB 2
  have hn0 : (0 : Int) ≤ (n : Int) := by omega
  have hn1 : (n : Int) < (ss.length : Int) := by omega
  obtain ⟨w1, hw1⟩ : ∃ w1, w.alloc (.cells #[.int .u8 5, .string nm, .int .u8 op, .int .i64 e, .int .i64 cond, .slice AA acts.length ac, .slice TA thn.length tc, .slice EA els.length ec] 77) = w1 := ⟨_, rfl⟩
  have h1 := h.alloc (.cells #[.int .u8 5, .string nm, .int .u8 op, .int .i64 e, .int .i64 cond, .slice AA acts.length ac, .slice TA thn.length tc, .slice EA els.length ec] 77)
  have hx1 := new_blk w (.cells #[.int .u8 5, .string nm, .int .u8 op, .int .i64 e, .int .i64 cond, .slice AA acts.length ac, .slice TA thn.length tc, .slice EA els.length ec] 77)
  rw [hw1] at h1 hx1
  have hB1 : Below lo w w1 := by rw [← hw1]; exact (Below.refl _ _).alloc h.ft.lows.1 _
  have hun : ∀ r e w', WP w1 lo (fun b => ex b ∨ b = w.heap.size) pb D r e w' → WP w lo ex pb D r e w' := fun r e w' h9 => WP.unalloc h (by rw [hw1]; exact h9)
  have hpn : w.heap.size ≠ pb := fun e => by have := blk_lt h.blk; omega
  have hpl := blk_lt h1.blk
  have hS1 := h1.ft.lt
  have hB1' := h1.blk
  rw [hD1, hD2] at hB1'
  have q1 := blk_cell hB1' 1
  have z0 := blk_cell hx1 0
  have H1 := hid h1; have HW := hid hwf; have HA := hid hbr; have HP := hid (hP.below hB1); have HX1 := hid hx1; have HUN := hid hun; have HO := hid hops; have HW1 := hid hw1; have HS1 := hid hS1; have IH := hid ih; have HOPX := hid hopx
  have HAC := hid (hacts.imp (w' := w1) (D' := fun b => b < lo) fun b hD _ => ⟨hD, hB1.block b hD⟩)
  have HTH := hid (hthn.imp (w' := w1) (D' := fun b => b < lo) fun b hD _ => ⟨hD, hB1.block b hD⟩)
  have HEL := hid (hels.imp (w' := w1) (D' := fun b => b < lo) fun b hD _ => ⟨hD, hB1.block b hD⟩)
  generalize hgr : stmtKW es { kind := 5, name := nm, op := op, e := e, cond := cond, acts := acts, thn := thn, els := els } br (n : Int) (fun b k s => stmtWS es ss f b k s) (l, top) = R
  have HR := hid hgr
  have hcell : ∀ W lo' S' s' br' ws o w', w1.heap.size ≤ W.heap.size → W.heap[w.heap.size]? = w1.heap[w.heap.size]? → OI W lo' (fun b => ex b ∨ b = w.heap.size) pb D S' s' br' ws o w' → ∀ j, w'.cell? ⟨w.heap.size, j, none⟩ = (#[.int .u8 5, .string nm, .int .u8 op, .int .i64 e, .int .i64 cond, .slice AA acts.length ac, .slice TA thn.length tc, .slice EA els.length ec] : Array Value)[j]? := fun W lo' S' s' br' ws o w' _ hW hI j => hI.cell (hW.trans hx1) (.inr rfl) hpn j
  have HCELL := hid hcell
  clear h hwf hbr hP hx1 hun hops h1 hw1 hgr hB1 hS1 hB hcells hacts hthn hels hx ih hB1' hopx hcell
  go_enter Try.func32, Try.ntmps32
  go_upto_region 1 with fail
  rw [HW1.out]
  clear c0 c1 c2 c3 c4 c5 c6 c7 q2
  go_upto_region 21 with fail
  have HRk := HR.out
  unfold stmtKW at HRk
  simp only [if_true, if_false, Int.reduceEq] at HRk
  have HRK := hid HRk
  clear HRk
  have HC : ∀ o w', OI w1 lo (fun b => ex b ∨ b = w.heap.size) pb D S (l, top) br [wWhile] o w' → _ := fun o w' hI => HCELL.out _ _ _ _ _ _ o w' (Nat.le_refl _) rfl hI
  refine wp_region_rg2 7 (fun dn w' => OI w1 lo (fun b => ex b ∨ b = w.heap.size) pb D S (l, top) br [wWhile] (dn 4) w') (fun j v w' => match j with
      | 0 => v = .pointer (some ⟨pb, 0, none⟩)
      | 1 => v = .pointer (some ⟨pb, 0, none⟩)
      | 2 => v = .int .i64 br
      | 3 => ∃ B : Nat, v = .slice (some ⟨B, 0, none⟩) 1 1 ∧ w1.heap.size ≤ B ∧ w'.heap[B]? = some (.cells #[.string ⟨#[119, 104, 105, 108, 101]⟩] 9 (0, 0))
      | 4 => v = .int .i64 ((l, top).1.length : Int)
      | 5 => v = .agg #[.int .u8 5, .string nm, .int .u8 op, .int .i64 e, .int .i64 cond, .slice AA acts.length ac, .slice TA thn.length tc, .slice EA els.length ec]
      | 6 => v = .int .i64 (n : Int)
      | _ => True) (by kernel_rfl) (by kernel_rfl) (by rfl) (OI.start (s := (l, top)) H1.out) ?rgO ?rgE
  case rgO =>
    refine ⟨?_, ?_, ?_, ?_, ?_, ?_, ?_, trivial⟩
    · refine RgOk2.val rfl (fun dn w h => by simpa [dn1] using h) fun a wq dn hI hD hF => ⟨?_, ?_, ?_⟩
      rotate_left 2
      · exact rfl
      · have s0 : a.tmps.getD 0 undef = _ := hF.get 0 rfl; simp [execOp, go_sem, Act.eval, s0]
    · refine RgOk2.val rfl (fun dn w h => by simpa [dn1] using h) fun a wq dn hI hD hF => ⟨?_, ?_, ?_⟩
      rotate_left 2
      · exact rfl
      · have s0 : a.tmps.getD 0 undef = _ := hF.get 0 rfl; simp [execOp, go_sem, Act.eval, s0]
    · refine RgOk2.val rfl (fun dn w h => by simpa [dn1] using h) fun a wq dn hI hD hF => ⟨?_, ?_, ?_⟩
      rotate_left 2
      · exact rfl
      · have s1 : a.tmps.getD 1 undef = _ := hF.get 1 rfl; simp [execOp, go_sem, Act.eval, s1]
    · refine RgOk2.turn rfl fun a wq dn h0 hcl hI hD hF => ?_
      have h11 := hcl.no 4 3 rfl rfl h0
      rw [h11] at hI
      have hbq := (Below.refl wq.heap.size wq).alloc (Nat.le_refl _) (.cells #[.string ⟨#[119, 104, 105, 108, 101]⟩] 9)
      refine ⟨_, wq.alloc (.cells #[.string ⟨#[119, 104, 105, 108, 101]⟩] 9), ?_, by simpa [dn1, h11] using hI.below hbq H1.out.ft.lows.1, ⟨wq.heap.size, rfl, (hI.a rfl).2.size, new_blk _ _⟩, fun i u hi hd hp => by (split at hp <;> first | exact hp | exact absurd rfl hi)⟩
      simp [execOp, go_sem, Act.eval]
    · refine RgOk2.call rfl 54 fun a wq dn h0 hcl hI hD hF => ?_
      rw [h0] at hI
      have d1 : a.tmps.getD 109 undef = _ := hD.get 1 rfl rfl rfl
      have d2 : a.tmps.getD 110 undef = _ := hD.get 2 rfl rfl rfl
      simp only [Array.getD_eq_getD_getElem?] at d1 d2
      obtain ⟨B, dB, hB1, hB2⟩ := hD.get 3 rfl rfl rfl
      simp only [Array.getD_eq_getD_getElem?] at dB
      refine ⟨#[.pointer (some ⟨pb, 0, none⟩), .int .i64 br, .slice (some ⟨B, 0, none⟩) 1 1], by simp [execOp, go_sem, Act.eval, d1, d2, dB], ?_⟩
      refine (hI.open_ HW.out HA.out HS1.out hpl hB1 (blk_lt hB2) (Strs.one hB2 rfl)).mono ?_
      rintro e' w' ⟨⟨rfl, hO⟩ | ⟨rfl, hn, hl, hk⟩, hBk⟩
      exact .inl ⟨_, rfl, by simpa [dn1] using hO, rfl, fun i u hi hd hp => by (split at hp <;> first | exact hp | exact absurd rfl hi | (obtain ⟨B', u1, u2, u3⟩ := hp; exact ⟨B', u1, u2, (hBk B' u2 (blk_lt u3)).trans u3⟩))⟩
      have h9 := HUN.out none _ _ (id (WP.no (D := D) (pb := pb) rfl hl hk))
      exact .inr ⟨_, rfl, hF.1, WP.no (by rw [← HRK.out]; rw [show openS br [wWhile] (l, top) = none from hn]; rfl) h9.low h9.keep⟩
    · refine RgOk2.val rfl (fun dn w h => by simpa [dn1] using h) fun a wq dn hI hD hF => ⟨?_, ?_, ?_⟩
      rotate_left 2
      · exact rfl
      · have s6 : a.tmps.getD 6 undef = _ := hF.get 6 rfl; simp [execOp, go_sem, Act.eval, s6, HC _ _ hI 0, HC _ _ hI 1, HC _ _ hI 2, HC _ _ hI 3, HC _ _ hI 4, HC _ _ hI 5, HC _ _ hI 6, HC _ _ hI 7]
    · refine RgOk2.val rfl (fun dn w h => by simpa [dn1] using h) fun a wq dn hI hD hF => ⟨?_, ?_, ?_⟩
      rotate_left 2
      · exact rfl
      · have s2 : a.tmps.getD 2 undef = _ := hF.get 2 rfl; simp [execOp, go_sem, Act.eval, s2]
  case rgE =>
    intro vs w4 hI hP4
    obtain ⟨s1, hr, g4⟩ := hI.b rfl
    have e0 : vs 0 = _ := hP4 0 _ _ (by omega) rfl rfl
    have e4 : vs 4 = _ := hP4 4 _ _ (by omega) rfl rfl
    have e5 : vs 5 = _ := hP4 5 _ _ (by omega) rfl rfl
    have e6 : vs 6 = _ := hP4 6 _ _ (by omega) rfl rfl
    simp only [rgPut, List.take, List.drop, Nat.zero_add, Nat.reduceAdd, e0, e4, e5, e6]
    have hR2 := HRK.out
    rw [hr] at hR2
    simp only [andB] at hR2
    have hol := (openS_len hr).2
    have G4 := hid g4; have HR2 := hid hR2; have HLT := hid hol
    clear hI hP4 g4 hR2 hr hol e0 e4 e5 e6
    have HP4 := hid (HP.out.below G4.out.low)
    have h4 : ∀ b, b < lo → w4.heap[b]? = w1.heap[b]? := fun b hb => G4.out.low.block b hb
    have HA4 := hid (HAC.out.imp (w' := w4) (D' := fun b => b < lo) fun b hD _ => ⟨hD, h4 b hD⟩)
    have HT4 := hid (HTH.out.imp (w' := w4) (D' := fun b => b < lo) fun b hD _ => ⟨hD, h4 b hD⟩)
    have HE4 := hid (HEL.out.imp (w' := w4) (D' := fun b => b < lo) fun b hD _ => ⟨hD, h4 b hD⟩)
    clear h4
    go_wp2_with fail
    refine (bodyG es ss HO.out f IH.out (l.length : Int) { kind := 5, name := nm, op := op, e := e, cond := cond, acts := acts, thn := thn, els := els } _ _ _ n G4.out (.inr ⟨l.length, rfl, HLT.out⟩) HP4.out HA4.out HT4.out HE4.out (by omega)).mono ?_
    intro e5 w5 h9
    have h9 := HUN.out _ _ _ h9
    have hR5 := HR2.out
    rw [show bodyWS es (l.length : Int) e (fun k s => stmtWS es ss f (l.length : Int) k s) (n : Int) thn s1 = R from hR5] at h9
    rcases R with _ | s5
    · obtain rfl := h9.none
      exact ⟨rfl, h9⟩
    · obtain ⟨rfl, g5⟩ := h9.some
      have H9 := hid h9
      clear h9 g5 hR5
      go_wp2
      go_end0
      exact H9.out
set_option maxHeartbeats 3200000 in
set_option maxRecDepth 100000 in
theorem stmtW_loop (es : List Expr) (ss : List PStmt) (hops : OpsOk es ss) (f : Nat) (ih : StmtWC es ss f) (br : Int) (n : Nat) (op e cond : Int) (nm : ByteArray) (acts : List PAct) (thn els : List Int) (w : World) (lo pb : Nat) (ex : Nat → Prop) (D S : Nat → Value) (l : List Form) (top : List Int) (h : WX w lo ex pb D S l top) (hwf : WWf l top) (hbr : WAt br l) (hP : WD w lo D es ss) (hn : n < ss.length) (hnf : n ≤ f) (hx : nth ss n = { kind := 6, name := nm, op := op, e := e, cond := cond, acts := acts, thn := thn, els := els }) :
    Calls Try.prog 32 #[.pointer (some ⟨pb, 0, none⟩), .int .i64 br, .int .i64 (n : Int)] w (WP w lo ex pb D (unitR (stmtKW es { kind := 6, name := nm, op := op, e := e, cond := cond, acts := acts, thn := thn, els := els } br (n : Int) (fun b k s => stmtWS es ss f b k s) (l, top)))) := by
  obtain ⟨xb, xo, xc, av, tv, ev, hD2, hxb, hcells, hacts, hthn, hels⟩ := hP.stmts.at_ hn
  have hopx := hops.s _ (nth_mem hn)
  rw [hx] at hcells hacts hthn hels hopx
  obtain ⟨AA, ac, rfl, _, _⟩ := hacts.slice
  obtain ⟨TA, tc, rfl, _, _⟩ := hthn.slice
  obtain ⟨EA, ec, rfl, _, _⟩ := hels.slice
  have c0 := hcells 0 _ rfl; have c1 := hcells 1 _ rfl; have c2 := hcells 2 _ rfl; have c3 := hcells 3 _ rfl; have c4 := hcells 4 _ rfl; have c5 := hcells 5 _ rfl; have c6 := hcells 6 _ rfl; have c7 := hcells 7 _ rfl
  simp only [Nat.add_zero] at c0
  obtain ⟨XA, xec, hD1, _, _⟩ := hP.exprs.slice
  have hB := h.blk
  rw [hD1, hD2] at hB
  have q2 := blk_cell hB 2
  have hn0 : (0 : Int) ≤ (n : Int) := by omega
  have hn1 : (n : Int) < (ss.length : Int) := by omega
  obtain ⟨w1, hw1⟩ : ∃ w1, w.alloc (.cells #[.int .u8 6, .string nm, .int .u8 op, .int .i64 e, .int .i64 cond, .slice AA acts.length ac, .slice TA thn.length tc, .slice EA els.length ec] 77) = w1 := ⟨_, rfl⟩
  have h1 := h.alloc (.cells #[.int .u8 6, .string nm, .int .u8 op, .int .i64 e, .int .i64 cond, .slice AA acts.length ac, .slice TA thn.length tc, .slice EA els.length ec] 77)
  have hx1 := new_blk w (.cells #[.int .u8 6, .string nm, .int .u8 op, .int .i64 e, .int .i64 cond, .slice AA acts.length ac, .slice TA thn.length tc, .slice EA els.length ec] 77)
  rw [hw1] at h1 hx1
  have hB1 : Below lo w w1 := by rw [← hw1]; exact (Below.refl _ _).alloc h.ft.lows.1 _
  have hun : ∀ r e w', WP w1 lo (fun b => ex b ∨ b = w.heap.size) pb D r e w' → WP w lo ex pb D r e w' := fun r e w' h9 => WP.unalloc h (by rw [hw1]; exact h9)
  have hpn : w.heap.size ≠ pb := fun e => by have := blk_lt h.blk; omega
  have hpl := blk_lt h1.blk
  have hS1 := h1.ft.lt
  have hB1' := h1.blk
  rw [hD1, hD2] at hB1'
  have q1 := blk_cell hB1' 1
  have z0 := blk_cell hx1 0
  have H1 := hid h1; have HW := hid hwf; have HA := hid hbr; have HP := hid (hP.below hB1); have HX1 := hid hx1; have HUN := hid hun; have HO := hid hops; have HW1 := hid hw1; have HS1 := hid hS1; have IH := hid ih; have HOPX := hid hopx
  have HAC := hid (hacts.imp (w' := w1) (D' := fun b => b < lo) fun b hD _ => ⟨hD, hB1.block b hD⟩)
  have HTH := hid (hthn.imp (w' := w1) (D' := fun b => b < lo) fun b hD _ => ⟨hD, hB1.block b hD⟩)
  have HEL := hid (hels.imp (w' := w1) (D' := fun b => b < lo) fun b hD _ => ⟨hD, hB1.block b hD⟩)
  generalize hgr : stmtKW es { kind := 6, name := nm, op := op, e := e, cond := cond, acts := acts, thn := thn, els := els } br (n : Int) (fun b k s => stmtWS es ss f b k s) (l, top) = R
  have HR := hid hgr
  have hcell : ∀ W lo' S' s' br' ws o w', w1.heap.size ≤ W.heap.size → W.heap[w.heap.size]? = w1.heap[w.heap.size]? → OI W lo' (fun b => ex b ∨ b = w.heap.size) pb D S' s' br' ws o w' → ∀ j, w'.cell? ⟨w.heap.size, j, none⟩ = (#[.int .u8 6, .string nm, .int .u8 op, .int .i64 e, .int .i64 cond, .slice AA acts.length ac, .slice TA thn.length tc, .slice EA els.length ec] : Array Value)[j]? := fun W lo' S' s' br' ws o w' _ hW hI j => hI.cell (hW.trans hx1) (.inr rfl) hpn j
  have HCELL := hid hcell
  clear h hwf hbr hP hx1 hun hops h1 hw1 hgr hB1 hS1 hB hcells hacts hthn hels hx ih hB1' hopx hcell
  go_enter Try.func32, Try.ntmps32
  go_upto_region 1 with fail
  rw [HW1.out]
  clear c0 c1 c2 c3 c4 c5 c6 c7 q2
  go_upto_region 23 with fail
  have HRk := HR.out
  unfold stmtKW at HRk
  simp only [if_true, if_false, Int.reduceEq] at HRk
  have HRK := hid HRk
  clear HRk
  have HC : ∀ o w', OI w1 lo (fun b => ex b ∨ b = w.heap.size) pb D S (l, top) br [wLoop] o w' → _ := fun o w' hI => HCELL.out _ _ _ _ _ _ o w' (Nat.le_refl _) rfl hI
  refine wp_region_rg2 7 (fun dn w' => OI w1 lo (fun b => ex b ∨ b = w.heap.size) pb D S (l, top) br [wLoop] (dn 4) w') (fun j v w' => match j with
      | 0 => v = .pointer (some ⟨pb, 0, none⟩)
      | 1 => v = .pointer (some ⟨pb, 0, none⟩)
      | 2 => v = .int .i64 br
      | 3 => ∃ B : Nat, v = .slice (some ⟨B, 0, none⟩) 1 1 ∧ w1.heap.size ≤ B ∧ w'.heap[B]? = some (.cells #[.string ⟨#[108, 111, 111, 112]⟩] 9 (0, 0))
      | 4 => v = .int .i64 ((l, top).1.length : Int)
      | 5 => v = .agg #[.int .u8 6, .string nm, .int .u8 op, .int .i64 e, .int .i64 cond, .slice AA acts.length ac, .slice TA thn.length tc, .slice EA els.length ec]
      | 6 => v = .int .i64 (n : Int)
      | _ => True) (by kernel_rfl) (by kernel_rfl) (by rfl) (OI.start (s := (l, top)) H1.out) ?rgO ?rgE
  case rgO =>
    refine ⟨?_, ?_, ?_, ?_, ?_, ?_, ?_, trivial⟩
    · refine RgOk2.val rfl (fun dn w h => by simpa [dn1] using h) fun a wq dn hI hD hF => ⟨?_, ?_, ?_⟩
      rotate_left 2
      · exact rfl
      · have s0 : a.tmps.getD 0 undef = _ := hF.get 0 rfl; simp [execOp, go_sem, Act.eval, s0]
    · refine RgOk2.val rfl (fun dn w h => by simpa [dn1] using h) fun a wq dn hI hD hF => ⟨?_, ?_, ?_⟩
      rotate_left 2
      · exact rfl
      · have s0 : a.tmps.getD 0 undef = _ := hF.get 0 rfl; simp [execOp, go_sem, Act.eval, s0]
    · refine RgOk2.val rfl (fun dn w h => by simpa [dn1] using h) fun a wq dn hI hD hF => ⟨?_, ?_, ?_⟩
      rotate_left 2
      · exact rfl
      · have s1 : a.tmps.getD 1 undef = _ := hF.get 1 rfl; simp [execOp, go_sem, Act.eval, s1]
    · refine RgOk2.turn rfl fun a wq dn h0 hcl hI hD hF => ?_
      have h11 := hcl.no 4 3 rfl rfl h0
      rw [h11] at hI
      have hbq := (Below.refl wq.heap.size wq).alloc (Nat.le_refl _) (.cells #[.string ⟨#[108, 111, 111, 112]⟩] 9)
      refine ⟨_, wq.alloc (.cells #[.string ⟨#[108, 111, 111, 112]⟩] 9), ?_, by simpa [dn1, h11] using hI.below hbq H1.out.ft.lows.1, ⟨wq.heap.size, rfl, (hI.a rfl).2.size, new_blk _ _⟩, fun i u hi hd hp => by (split at hp <;> first | exact hp | exact absurd rfl hi)⟩
      simp [execOp, go_sem, Act.eval]
    · refine RgOk2.call rfl 54 fun a wq dn h0 hcl hI hD hF => ?_
      rw [h0] at hI
      have d1 : a.tmps.getD 119 undef = _ := hD.get 1 rfl rfl rfl
      have d2 : a.tmps.getD 120 undef = _ := hD.get 2 rfl rfl rfl
      simp only [Array.getD_eq_getD_getElem?] at d1 d2
      obtain ⟨B, dB, hB1, hB2⟩ := hD.get 3 rfl rfl rfl
      simp only [Array.getD_eq_getD_getElem?] at dB
      refine ⟨#[.pointer (some ⟨pb, 0, none⟩), .int .i64 br, .slice (some ⟨B, 0, none⟩) 1 1], by simp [execOp, go_sem, Act.eval, d1, d2, dB], ?_⟩
      refine (hI.open_ HW.out HA.out HS1.out hpl hB1 (blk_lt hB2) (Strs.one hB2 rfl)).mono ?_
      rintro e' w' ⟨⟨rfl, hO⟩ | ⟨rfl, hn, hl, hk⟩, hBk⟩
      exact .inl ⟨_, rfl, by simpa [dn1] using hO, rfl, fun i u hi hd hp => by (split at hp <;> first | exact hp | exact absurd rfl hi | (obtain ⟨B', u1, u2, u3⟩ := hp; exact ⟨B', u1, u2, (hBk B' u2 (blk_lt u3)).trans u3⟩))⟩
      have h9 := HUN.out none _ _ (id (WP.no (D := D) (pb := pb) rfl hl hk))
      exact .inr ⟨_, rfl, hF.1, WP.no (by rw [← HRK.out]; rw [show openS br [wLoop] (l, top) = none from hn]; rfl) h9.low h9.keep⟩
    · refine RgOk2.val rfl (fun dn w h => by simpa [dn1] using h) fun a wq dn hI hD hF => ⟨?_, ?_, ?_⟩
      rotate_left 2
      · exact rfl
      · have s6 : a.tmps.getD 6 undef = _ := hF.get 6 rfl; simp [execOp, go_sem, Act.eval, s6, HC _ _ hI 0, HC _ _ hI 1, HC _ _ hI 2, HC _ _ hI 3, HC _ _ hI 4, HC _ _ hI 5, HC _ _ hI 6, HC _ _ hI 7]
    · refine RgOk2.val rfl (fun dn w h => by simpa [dn1] using h) fun a wq dn hI hD hF => ⟨?_, ?_, ?_⟩
      rotate_left 2
      · exact rfl
      · have s2 : a.tmps.getD 2 undef = _ := hF.get 2 rfl; simp [execOp, go_sem, Act.eval, s2]
  case rgE =>
    intro vs w4 hI hP4
    obtain ⟨s1, hr, g4⟩ := hI.b rfl
    have e0 : vs 0 = _ := hP4 0 _ _ (by omega) rfl rfl
    have e4 : vs 4 = _ := hP4 4 _ _ (by omega) rfl rfl
    have e5 : vs 5 = _ := hP4 5 _ _ (by omega) rfl rfl
    have e6 : vs 6 = _ := hP4 6 _ _ (by omega) rfl rfl
    simp only [rgPut, List.take, List.drop, Nat.zero_add, Nat.reduceAdd, e0, e4, e5, e6]
    have hR2 := HRK.out
    rw [hr] at hR2
    simp only [andB] at hR2
    have hol := (openS_len hr).2
    have G4 := hid g4; have HR2 := hid hR2; have HLT := hid hol
    clear hI hP4 g4 hR2 hr hol e0 e4 e5 e6
    have HP4 := hid (HP.out.below G4.out.low)
    have h4 : ∀ b, b < lo → w4.heap[b]? = w1.heap[b]? := fun b hb => G4.out.low.block b hb
    have HA4 := hid (HAC.out.imp (w' := w4) (D' := fun b => b < lo) fun b hD _ => ⟨hD, h4 b hD⟩)
    have HT4 := hid (HTH.out.imp (w' := w4) (D' := fun b => b < lo) fun b hD _ => ⟨hD, h4 b hD⟩)
    have HE4 := hid (HEL.out.imp (w' := w4) (D' := fun b => b < lo) fun b hD _ => ⟨hD, h4 b hD⟩)
    clear h4
    go_wp2_with fail
    refine (bodyG es ss HO.out f IH.out (l.length : Int) { kind := 6, name := nm, op := op, e := e, cond := cond, acts := acts, thn := thn, els := els } _ _ _ n G4.out (.inr ⟨l.length, rfl, HLT.out⟩) HP4.out HA4.out HT4.out HE4.out (by omega)).mono ?_
    intro e5 w5 h9
    have h9 := HUN.out _ _ _ h9
    have hR5 := HR2.out
    rw [show bodyWS es (l.length : Int) e (fun k s => stmtWS es ss f (l.length : Int) k s) (n : Int) thn s1 = R from hR5] at h9
    rcases R with _ | s5
    · obtain rfl := h9.none
      exact ⟨rfl, h9⟩
    · obtain ⟨rfl, g5⟩ := h9.some
      have H9 := hid h9
      clear h9 g5 hR5
      go_wp2
      go_end0
      exact H9.out
set_option maxHeartbeats 3200000 in
set_option maxRecDepth 100000 in
theorem stmtW_bfs (es : List Expr) (ss : List PStmt) (hops : OpsOk es ss) (f : Nat) (ih : StmtWC es ss f) (br : Int) (n : Nat) (op e cond : Int) (nm : ByteArray) (acts : List PAct) (thn els : List Int) (w : World) (lo pb : Nat) (ex : Nat → Prop) (D S : Nat → Value) (l : List Form) (top : List Int) (h : WX w lo ex pb D S l top) (hwf : WWf l top) (hbr : WAt br l) (hP : WD w lo D es ss) (hn : n < ss.length) (hnf : n ≤ f) (hx : nth ss n = { kind := 7, name := nm, op := op, e := e, cond := cond, acts := acts, thn := thn, els := els }) :
    Calls Try.prog 32 #[.pointer (some ⟨pb, 0, none⟩), .int .i64 br, .int .i64 (n : Int)] w (WP w lo ex pb D (unitR (stmtKW es { kind := 7, name := nm, op := op, e := e, cond := cond, acts := acts, thn := thn, els := els } br (n : Int) (fun b k s => stmtWS es ss f b k s) (l, top)))) := by
  obtain ⟨xb, xo, xc, av, tv, ev, hD2, hxb, hcells, hacts, hthn, hels⟩ := hP.stmts.at_ hn
  have hopx := hops.s _ (nth_mem hn)
  rw [hx] at hcells hacts hthn hels hopx
  obtain ⟨AA, ac, rfl, _, _⟩ := hacts.slice
  obtain ⟨TA, tc, rfl, _, _⟩ := hthn.slice
  obtain ⟨EA, ec, rfl, _, _⟩ := hels.slice
  have c0 := hcells 0 _ rfl; have c1 := hcells 1 _ rfl; have c2 := hcells 2 _ rfl; have c3 := hcells 3 _ rfl; have c4 := hcells 4 _ rfl; have c5 := hcells 5 _ rfl; have c6 := hcells 6 _ rfl; have c7 := hcells 7 _ rfl
  simp only [Nat.add_zero] at c0
  obtain ⟨XA, xec, hD1, _, _⟩ := hP.exprs.slice
  have hB := h.blk
  rw [hD1, hD2] at hB
  have q2 := blk_cell hB 2
  have hn0 : (0 : Int) ≤ (n : Int) := by omega
  have hn1 : (n : Int) < (ss.length : Int) := by omega
  obtain ⟨w1, hw1⟩ : ∃ w1, w.alloc (.cells #[.int .u8 7, .string nm, .int .u8 op, .int .i64 e, .int .i64 cond, .slice AA acts.length ac, .slice TA thn.length tc, .slice EA els.length ec] 77) = w1 := ⟨_, rfl⟩
  have h1 := h.alloc (.cells #[.int .u8 7, .string nm, .int .u8 op, .int .i64 e, .int .i64 cond, .slice AA acts.length ac, .slice TA thn.length tc, .slice EA els.length ec] 77)
  have hx1 := new_blk w (.cells #[.int .u8 7, .string nm, .int .u8 op, .int .i64 e, .int .i64 cond, .slice AA acts.length ac, .slice TA thn.length tc, .slice EA els.length ec] 77)
  rw [hw1] at h1 hx1
  have hB1 : Below lo w w1 := by rw [← hw1]; exact (Below.refl _ _).alloc h.ft.lows.1 _
  have hun : ∀ r e w', WP w1 lo (fun b => ex b ∨ b = w.heap.size) pb D r e w' → WP w lo ex pb D r e w' := fun r e w' h9 => WP.unalloc h (by rw [hw1]; exact h9)
  have hpn : w.heap.size ≠ pb := fun e => by have := blk_lt h.blk; omega
  have hpl := blk_lt h1.blk
  have hS1 := h1.ft.lt
  have hB1' := h1.blk
  rw [hD1, hD2] at hB1'
  have q1 := blk_cell hB1' 1
  have z0 := blk_cell hx1 0
  have H1 := hid h1; have HW := hid hwf; have HA := hid hbr; have HP := hid (hP.below hB1); have HX1 := hid hx1; have HUN := hid hun; have HO := hid hops; have HW1 := hid hw1; have HS1 := hid hS1; have IH := hid ih; have HOPX := hid hopx
  have HAC := hid (hacts.imp (w' := w1) (D' := fun b => b < lo) fun b hD _ => ⟨hD, hB1.block b hD⟩)
  have HTH := hid (hthn.imp (w' := w1) (D' := fun b => b < lo) fun b hD _ => ⟨hD, hB1.block b hD⟩)
  have HEL := hid (hels.imp (w' := w1) (D' := fun b => b < lo) fun b hD _ => ⟨hD, hB1.block b hD⟩)
  generalize hgr : stmtKW es { kind := 7, name := nm, op := op, e := e, cond := cond, acts := acts, thn := thn, els := els } br (n : Int) (fun b k s => stmtWS es ss f b k s) (l, top) = R
  have HR := hid hgr
  have hcell : ∀ W lo' S' s' br' ws o w', w1.heap.size ≤ W.heap.size → W.heap[w.heap.size]? = w1.heap[w.heap.size]? → OI W lo' (fun b => ex b ∨ b = w.heap.size) pb D S' s' br' ws o w' → ∀ j, w'.cell? ⟨w.heap.size, j, none⟩ = (#[.int .u8 7, .string nm, .int .u8 op, .int .i64 e, .int .i64 cond, .slice AA acts.length ac, .slice TA thn.length tc, .slice EA els.length ec] : Array Value)[j]? := fun W lo' S' s' br' ws o w' _ hW hI j => hI.cell (hW.trans hx1) (.inr rfl) hpn j
  have HCELL := hid hcell
  clear h hwf hbr hP hx1 hun hops h1 hw1 hgr hB1 hS1 hB hcells hacts hthn hels hx ih hB1' hopx hcell
  go_enter Try.func32, Try.ntmps32
  go_upto_region 1 with fail
  rw [HW1.out]
  clear c0 c1 c2 c3 c4 c5 c6 c7 q2
  go_upto_region 25 with fail
  have HRk := HR.out
  unfold stmtKW at HRk
  simp only [if_true, if_false, Int.reduceEq] at HRk
  have HRK := hid HRk
  clear HRk
  have HC : ∀ o w', OI w1 lo (fun b => ex b ∨ b = w.heap.size) pb D S (l, top) br [wBfs, nm] o w' → _ := fun o w' hI => HCELL.out _ _ _ _ _ _ o w' (Nat.le_refl _) rfl hI
  refine wp_region_rg2 9 (fun dn w' => OI w1 lo (fun b => ex b ∨ b = w.heap.size) pb D S (l, top) br [wBfs, nm] (dn 6) w') (fun j v w' => match j with
      | 0 => v = .pointer (some ⟨pb, 0, none⟩)
      | 1 => v = .pointer (some ⟨pb, 0, none⟩)
      | 2 => v = .int .i64 br
      | 3 => v = .pointer (some ⟨w.heap.size, 1, none⟩)
      | 4 => v = .string nm
      | 5 => ∃ B : Nat, v = .slice (some ⟨B, 0, none⟩) 2 2 ∧ w1.heap.size ≤ B ∧ w'.heap[B]? = some (.cells #[.string ⟨#[98, 102, 115]⟩, .string nm] 9 (0, 0))
      | 6 => v = .int .i64 ((l, top).1.length : Int)
      | 7 => v = .agg #[.int .u8 7, .string nm, .int .u8 op, .int .i64 e, .int .i64 cond, .slice AA acts.length ac, .slice TA thn.length tc, .slice EA els.length ec]
      | 8 => v = .int .i64 (n : Int)
      | _ => True) (by kernel_rfl) (by kernel_rfl) (by rfl) (OI.start (s := (l, top)) H1.out) ?rgO ?rgE
  case rgO =>
    refine ⟨?_, ?_, ?_, ?_, ?_, ?_, ?_, ?_, ?_, trivial⟩
    · refine RgOk2.val rfl (fun dn w h => by simpa [dn1] using h) fun a wq dn hI hD hF => ⟨?_, ?_, ?_⟩
      rotate_left 2
      · exact rfl
      · have s0 : a.tmps.getD 0 undef = _ := hF.get 0 rfl; simp [execOp, go_sem, Act.eval, s0]
    · refine RgOk2.val rfl (fun dn w h => by simpa [dn1] using h) fun a wq dn hI hD hF => ⟨?_, ?_, ?_⟩
      rotate_left 2
      · exact rfl
      · have s0 : a.tmps.getD 0 undef = _ := hF.get 0 rfl; simp [execOp, go_sem, Act.eval, s0]
    · refine RgOk2.val rfl (fun dn w h => by simpa [dn1] using h) fun a wq dn hI hD hF => ⟨?_, ?_, ?_⟩
      rotate_left 2
      · exact rfl
      · have s1 : a.tmps.getD 1 undef = _ := hF.get 1 rfl; simp [execOp, go_sem, Act.eval, s1]
    · refine RgOk2.val rfl (fun dn w h => by simpa [dn1] using h) fun a wq dn hI hD hF => ⟨?_, ?_, ?_⟩
      rotate_left 2
      · exact rfl
      · have s6 : a.tmps.getD 6 undef = _ := hF.get 6 rfl; simp [execOp, go_sem, Act.eval, s6]
    · refine RgOk2.val rfl (fun dn w h => by simpa [dn1] using h) fun a wq dn hI hD hF => ⟨?_, ?_, ?_⟩
      rotate_left 2
      · exact rfl
      · have d3 : a.tmps.getD 131 undef = _ := hD.get 3 rfl rfl rfl; simp [execOp, go_sem, Act.eval, d3, HC _ _ hI 1]
    · refine RgOk2.turn rfl fun a wq dn h0 hcl hI hD hF => ?_
      have h11 := hcl.no 6 5 rfl rfl h0
      rw [h11] at hI
      have d4 : a.tmps.getD 132 undef = _ := hD.get 4 rfl rfl rfl
      simp only [Array.getD_eq_getD_getElem?] at d4
      have hbq := (Below.refl wq.heap.size wq).alloc (Nat.le_refl _) (.cells #[.string ⟨#[98, 102, 115]⟩, .string nm] 9)
      refine ⟨_, wq.alloc (.cells #[.string ⟨#[98, 102, 115]⟩, .string nm] 9), ?_, by simpa [dn1, h11] using hI.below hbq H1.out.ft.lows.1, ⟨wq.heap.size, rfl, (hI.a rfl).2.size, new_blk _ _⟩, fun i u hi hd hp => by (split at hp <;> first | exact hp | exact absurd rfl hi)⟩
      simp [execOp, go_sem, Act.eval, d4]
    · refine RgOk2.call rfl 54 fun a wq dn h0 hcl hI hD hF => ?_
      rw [h0] at hI
      have d1 : a.tmps.getD 129 undef = _ := hD.get 1 rfl rfl rfl
      have d2 : a.tmps.getD 130 undef = _ := hD.get 2 rfl rfl rfl
      simp only [Array.getD_eq_getD_getElem?] at d1 d2
      obtain ⟨B, dB, hB1, hB2⟩ := hD.get 5 rfl rfl rfl
      simp only [Array.getD_eq_getD_getElem?] at dB
      refine ⟨#[.pointer (some ⟨pb, 0, none⟩), .int .i64 br, .slice (some ⟨B, 0, none⟩) 2 2], by simp [execOp, go_sem, Act.eval, d1, d2, dB], ?_⟩
      refine (hI.open_ HW.out HA.out HS1.out hpl hB1 (blk_lt hB2) (Strs.two hB2 rfl)).mono ?_
      rintro e' w' ⟨⟨rfl, hO⟩ | ⟨rfl, hn, hl, hk⟩, hBk⟩
      exact .inl ⟨_, rfl, by simpa [dn1] using hO, rfl, fun i u hi hd hp => by (split at hp <;> first | exact hp | exact absurd rfl hi | (obtain ⟨B', u1, u2, u3⟩ := hp; exact ⟨B', u1, u2, (hBk B' u2 (blk_lt u3)).trans u3⟩))⟩
      have h9 := HUN.out none _ _ (id (WP.no (D := D) (pb := pb) rfl hl hk))
      exact .inr ⟨_, rfl, hF.1, WP.no (by rw [← HRK.out]; rw [show openS br [wBfs, nm] (l, top) = none from hn]; rfl) h9.low h9.keep⟩
    · refine RgOk2.val rfl (fun dn w h => by simpa [dn1] using h) fun a wq dn hI hD hF => ⟨?_, ?_, ?_⟩
      rotate_left 2
      · exact rfl
      · have s6 : a.tmps.getD 6 undef = _ := hF.get 6 rfl; simp [execOp, go_sem, Act.eval, s6, HC _ _ hI 0, HC _ _ hI 1, HC _ _ hI 2, HC _ _ hI 3, HC _ _ hI 4, HC _ _ hI 5, HC _ _ hI 6, HC _ _ hI 7]
    · refine RgOk2.val rfl (fun dn w h => by simpa [dn1] using h) fun a wq dn hI hD hF => ⟨?_, ?_, ?_⟩
      rotate_left 2
      · exact rfl
      · have s2 : a.tmps.getD 2 undef = _ := hF.get 2 rfl; simp [execOp, go_sem, Act.eval, s2]
  case rgE =>
    intro vs w4 hI hP4
    obtain ⟨s1, hr, g4⟩ := hI.b rfl
    have e0 : vs 0 = _ := hP4 0 _ _ (by omega) rfl rfl
    have e6 : vs 6 = _ := hP4 6 _ _ (by omega) rfl rfl
    have e7 : vs 7 = _ := hP4 7 _ _ (by omega) rfl rfl
    have e8 : vs 8 = _ := hP4 8 _ _ (by omega) rfl rfl
    simp only [rgPut, List.take, List.drop, Nat.zero_add, Nat.reduceAdd, e0, e6, e7, e8]
    have hR2 := HRK.out
    rw [hr] at hR2
    simp only [andB] at hR2
    have hol := (openS_len hr).2
    have G4 := hid g4; have HR2 := hid hR2; have HLT := hid hol
    clear hI hP4 g4 hR2 hr hol e0 e6 e7 e8
    have HP4 := hid (HP.out.below G4.out.low)
    have h4 : ∀ b, b < lo → w4.heap[b]? = w1.heap[b]? := fun b hb => G4.out.low.block b hb
    have HA4 := hid (HAC.out.imp (w' := w4) (D' := fun b => b < lo) fun b hD _ => ⟨hD, h4 b hD⟩)
    have HT4 := hid (HTH.out.imp (w' := w4) (D' := fun b => b < lo) fun b hD _ => ⟨hD, h4 b hD⟩)
    have HE4 := hid (HEL.out.imp (w' := w4) (D' := fun b => b < lo) fun b hD _ => ⟨hD, h4 b hD⟩)
    clear h4
    go_wp2_with fail
    refine (bodyG es ss HO.out f IH.out (l.length : Int) { kind := 7, name := nm, op := op, e := e, cond := cond, acts := acts, thn := thn, els := els } _ _ _ n G4.out (.inr ⟨l.length, rfl, HLT.out⟩) HP4.out HA4.out HT4.out HE4.out (by omega)).mono ?_
    intro e5 w5 h9
    have h9 := HUN.out _ _ _ h9
    have hR5 := HR2.out
    rw [show bodyWS es (l.length : Int) e (fun k s => stmtWS es ss f (l.length : Int) k s) (n : Int) thn s1 = R from hR5] at h9
    rcases R with _ | s5
    · obtain rfl := h9.none
      exact ⟨rfl, h9⟩
    · obtain ⟨rfl, g5⟩ := h9.some
      have H9 := hid h9
      clear h9 g5 hR5
      go_wp2
      go_end0
      exact H9.out
set_option maxHeartbeats 3200000 in
set_option maxRecDepth 100000 in
theorem stmtW_bad (es : List Expr) (ss : List PStmt) (hops : OpsOk es ss) (f : Nat) (ih : StmtWC es ss f) (br : Int) (n : Nat) (k op e cond : Int) (nm : ByteArray) (acts : List PAct) (thn els : List Int) (w : World) (lo pb : Nat) (ex : Nat → Prop) (D S : Nat → Value) (l : List Form) (top : List Int) (h : WX w lo ex pb D S l top) (hwf : WWf l top) (hbr : WAt br l) (hP : WD w lo D es ss) (hn : n < ss.length) (hnf : n ≤ f) (hx : nth ss n = { kind := k, name := nm, op := op, e := e, cond := cond, acts := acts, thn := thn, els := els }) (hk : ¬ (k = 1 ∨ k = 2 ∨ k = 3 ∨ k = 4 ∨ k = 5 ∨ k = 6 ∨ k = 7))  :
    Calls Try.prog 32 #[.pointer (some ⟨pb, 0, none⟩), .int .i64 br, .int .i64 (n : Int)] w (WP w lo ex pb D (unitR (stmtKW es { kind := k, name := nm, op := op, e := e, cond := cond, acts := acts, thn := thn, els := els } br (n : Int) (fun b k s => stmtWS es ss f b k s) (l, top)))) := by
  obtain ⟨xb, xo, xc, av, tv, ev, hD2, hxb, hcells, hacts, hthn, hels⟩ := hP.stmts.at_ hn
  have hopx := hops.s _ (nth_mem hn)
  rw [hx] at hcells hacts hthn hels hopx
  obtain ⟨AA, ac, rfl, _, _⟩ := hacts.slice
  obtain ⟨TA, tc, rfl, _, _⟩ := hthn.slice
  obtain ⟨EA, ec, rfl, _, _⟩ := hels.slice
  have c0 := hcells 0 _ rfl; have c1 := hcells 1 _ rfl; have c2 := hcells 2 _ rfl; have c3 := hcells 3 _ rfl; have c4 := hcells 4 _ rfl; have c5 := hcells 5 _ rfl; have c6 := hcells 6 _ rfl; have c7 := hcells 7 _ rfl
  simp only [Nat.add_zero] at c0
  obtain ⟨XA, xec, hD1, _, _⟩ := hP.exprs.slice
  have hB := h.blk
  rw [hD1, hD2] at hB
  have q2 := blk_cell hB 2
  have hn0 : (0 : Int) ≤ (n : Int) := by omega
  have hn1 : (n : Int) < (ss.length : Int) := by omega
  obtain ⟨w1, hw1⟩ : ∃ w1, w.alloc (.cells #[.int .u8 k, .string nm, .int .u8 op, .int .i64 e, .int .i64 cond, .slice AA acts.length ac, .slice TA thn.length tc, .slice EA els.length ec] 77) = w1 := ⟨_, rfl⟩
  have h1 := h.alloc (.cells #[.int .u8 k, .string nm, .int .u8 op, .int .i64 e, .int .i64 cond, .slice AA acts.length ac, .slice TA thn.length tc, .slice EA els.length ec] 77)
  have hx1 := new_blk w (.cells #[.int .u8 k, .string nm, .int .u8 op, .int .i64 e, .int .i64 cond, .slice AA acts.length ac, .slice TA thn.length tc, .slice EA els.length ec] 77)
  rw [hw1] at h1 hx1
  have hB1 : Below lo w w1 := by rw [← hw1]; exact (Below.refl _ _).alloc h.ft.lows.1 _
  have hun : ∀ r e w', WP w1 lo (fun b => ex b ∨ b = w.heap.size) pb D r e w' → WP w lo ex pb D r e w' := fun r e w' h9 => WP.unalloc h (by rw [hw1]; exact h9)
  have hpn : w.heap.size ≠ pb := fun e => by have := blk_lt h.blk; omega
  have hpl := blk_lt h1.blk
  have hS1 := h1.ft.lt
  have hB1' := h1.blk
  rw [hD1, hD2] at hB1'
  have q1 := blk_cell hB1' 1
  have z0 := blk_cell hx1 0
  have H1 := hid h1; have HW := hid hwf; have HA := hid hbr; have HP := hid (hP.below hB1); have HX1 := hid hx1; have HUN := hid hun; have HO := hid hops; have HW1 := hid hw1; have HS1 := hid hS1; have IH := hid ih; have HOPX := hid hopx
  have HAC := hid (hacts.imp (w' := w1) (D' := fun b => b < lo) fun b hD _ => ⟨hD, hB1.block b hD⟩)
  have HTH := hid (hthn.imp (w' := w1) (D' := fun b => b < lo) fun b hD _ => ⟨hD, hB1.block b hD⟩)
  have HEL := hid (hels.imp (w' := w1) (D' := fun b => b < lo) fun b hD _ => ⟨hD, hB1.block b hD⟩)
  generalize hgr : stmtKW es { kind := k, name := nm, op := op, e := e, cond := cond, acts := acts, thn := thn, els := els } br (n : Int) (fun b k s => stmtWS es ss f b k s) (l, top) = R
  have HR := hid hgr
  have hcell : ∀ W lo' S' s' br' ws o w', w1.heap.size ≤ W.heap.size → W.heap[w.heap.size]? = w1.heap[w.heap.size]? → OI W lo' (fun b => ex b ∨ b = w.heap.size) pb D S' s' br' ws o w' → ∀ j, w'.cell? ⟨w.heap.size, j, none⟩ = (#[.int .u8 k, .string nm, .int .u8 op, .int .i64 e, .int .i64 cond, .slice AA acts.length ac, .slice TA thn.length tc, .slice EA els.length ec] : Array Value)[j]? := fun W lo' S' s' br' ws o w' _ hW hI j => hI.cell (hW.trans hx1) (.inr rfl) hpn j
  have HCELL := hid hcell
  clear h hwf hbr hP hx1 hun hops h1 hw1 hgr hB1 hS1 hB hcells hacts hthn hels hx ih hB1' hopx hcell
  have e1 : (k == 1) = false := by rw [beq_eq_false_iff_ne]; omega
  have e2 : (k == 2) = false := by rw [beq_eq_false_iff_ne]; omega
  have e3 : (k == 3) = false := by rw [beq_eq_false_iff_ne]; omega
  have e4 : (k == 4) = false := by rw [beq_eq_false_iff_ne]; omega
  have e5 : (k == 5) = false := by rw [beq_eq_false_iff_ne]; omega
  have e6 : (k == 6) = false := by rw [beq_eq_false_iff_ne]; omega
  have e7 : (k == 7) = false := by rw [beq_eq_false_iff_ne]; omega
  have HRN := hid (show R = none by rw [← HR.out]; unfold stmtKW; simp only; rw [if_neg (by omega), if_neg (by omega), if_neg (by omega), if_neg (by omega), if_neg (by omega), if_neg (by omega), if_neg (by omega)])
  clear hk
  go_enter Try.func32, Try.ntmps32
  go_upto_region 1 with fail
  rw [HW1.out]
  clear c0 c1 c2 c3 c4 c5 c6 c7 q2
  go_wp2_with fail
  have h9 := HUN.out none _ _ (WP.no (D := D) (pb := pb) rfl (Below.refl lo w1) (fun _ _ _ => rfl))
  exact ⟨rfl, WP.no (by rw [HRN.out]; rfl) h9.low h9.keep⟩
end Go.Proofs.Ytgaginegcjpddaa
