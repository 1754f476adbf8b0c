/- The program's reader of forms: expressions; the walk. -/
import Derived.Test.YtgaginegcjpddaaQt5
set_option linter.unusedVariables false
set_option linter.unusedSimpArgs false
namespace Go.Proofs.Ytgaginegcjpddaa
open Go.RowKit
set_option maxHeartbeats 4000000 in
set_option maxRecDepth 100000 in
theorem expr_any (l : List Form) (hwf : WF l) : ∀ (f : Nat) (n : Nat) (w : World) (lo rb : Nat) (S : Nat → Value) (Z : Nat → Prop) (p : Prg), n < l.length → (l.length : Int) - n < f → RX w l lo rb S Z p → p.exprs.length + cntE l f n ≤ 100000 →
    Calls Try.prog 62 #[.pointer (some ⟨rb, 0, none⟩), .int .i64 (n : Int)] w (EP w l lo rb S Z p (exprS l f n p.exprs)) := by
  intro f
  induction f with
  | zero => intro n w lo rb S Z p hn hf; omega
  | succ f ih =>
  intro n w lo rb S Z p hn hf h hcnt
  obtain ⟨b, off, c, KA, kc, h0, hl, hc, hkl, hkc, htx, hki, c0, c1, c2, c3, c4⟩ := h.rf.at_ hn
  have hni : (n : Int) < (l.length : Int) := by omega
  have hc1' : p.exprs.length ≤ 100000 := by omega
  have hrb : rb < w.heap.size := h.size.1
  have hbb : b < w.heap.size := World.block_lt_of_cell? w _ c0
  have hlow : lo ≤ w.heap.size := h.size.2
  have hw1 : Below w.heap.size w (w.alloc (Obj.cells #[.int .u8 (nth l n).kind, .string (nth l n).text, .int .i64 (nth l n).num, .slice KA (nth l n).kids.length kc, .int .i64 (nth l n).pos] 93 (0, 0))) := (Below.refl _ _).alloc (Nat.le_refl _) _
  have h1 := h.below hw1
  have hst1 := RStep.of_below (rb := rb) (S := S) (Z := Z) hw1
  have hE : exprS l (f + 1) n p.exprs = exprS l (f + 1) n p.exprs := rfl
  conv at hE => rhs; unfold exprS
  rw [fm_nat] at hE
  have IH := hid ih
  have HTX := hid htx
  obtain ⟨T, hT⟩ : ∃ T, nth l n = T := ⟨_, rfl⟩
  rw [hT] at c0 c1 c2 c3 c4 hE HTX hki hkl h1 hst1 hw1
  have HT := hid hT
  clear ih htx hT
  by_cases hk4 : T.kind = 4
  · rw [if_pos hk4] at hE
    have hk4b : (T.kind == 4) = true := by simpa using hk4
    have HE := hid hE; have H1 := hid h1; have HS1 := hid hst1
    clear hE hk4 h1 hst1 h hw1 hki
    go_enter Try.func62, Try.ntmps62
    go_wp2_with (go_at_call 81; refine (addE_any l lo rb S Z p _ H1.out { exprK 1 with of_ := 1, num := T.num } (.slice none 0 0) (Row.nil _ _ _ _) hc1').mono ?_; rintro e w' ⟨rfl, S', hX', hSt⟩)
    go_ret
    exact EP.ok HE.out hX' (HS1.out.trans hSt)
  · have hk4b : (T.kind == 4) = false := by simpa using hk4
    rw [if_neg hk4] at hE
    by_cases hk3 : T.kind = 3
    · rw [if_pos hk3] at hE
      have hk3b : (T.kind == 3) = true := by simpa using hk3
      obtain ⟨tx, tb, htr⟩ : ∃ tx tb, truthS T.text = (tx, tb) := ⟨_, _, rfl⟩
      rw [htr] at hE
      have htk : tx.kids = [] := by
        have : (truthS T.text).1.kids = [] := by unfold truthS; split <;> rfl
        rw [htr] at this; exact this
      have HTR := hid htr; have HTK := hid htk
      clear htr htk hk4
      cases tb with
      | true =>
        rw [if_pos rfl] at hE
        have HE := hid hE; have H1 := hid h1; have HS1 := hid hst1
        clear hE hk3 h1 hst1 h hw1 hki
        go_enter Try.func62, Try.ntmps62
        go_wp2_with (first | (go_at_call 82; refine (truth_any T.text _).mono ?_; rintro e w' ⟨rfl, hb⟩; rw [HTR.out]; unfold Expr.cells) | (go_at_call 81; refine (addE_any l lo rb S Z p _ (by exact (H1.out.below hb).below ((Below.refl _ _).alloc (Nat.le_refl _) _)) tx (.slice none 0 0) (by rw [HTK.out]; exact Row.nil _ _ _ _) hc1').mono ?_; rintro e w'' ⟨rfl, S', hX', hSt⟩))
        go_ret
        refine EP.ok HE.out hX' ((HS1.out.trans (RStep.of_below (hb.trans ?_))).trans hSt)
        exact (Below.refl _ _).alloc hb.size _
      | false =>
        rw [if_neg (by simp)] at hE
        by_cases hno : nameOk l (n : Int) = true
        · rw [if_pos hno] at hE
          have HE := hid hE; have H1 := hid h1; have HS1 := hid hst1; have HN := hid hno
          have htxt : (fm l (n : Int)).text = T.text := by rw [fm_nat, HT.out]
          have HTT := hid htxt
          clear hE hk3 h1 hst1 h hw1 hki hno htxt
          go_enter Try.func62, Try.ntmps62
          go_wp2_with (first | (go_at_call 82; refine (truth_any T.text _).mono ?_; rintro e w' ⟨rfl, hb⟩; rw [HTR.out]; unfold Expr.cells) | (go_at_call 41; refine (name_yes l rb _ _ (by exact ((H1.out.below hb).below ((Below.refl _ _).alloc (Nat.le_refl _) _)).rf) n hn HN.out).mono ?_; rintro e w2 ⟨rfl, hb2⟩; rw [HTT.out]) | (go_at_call 81; refine (addE_any l lo rb S Z p _ (by exact ((H1.out.below hb).below ((Below.refl _ _).alloc (Nat.le_refl _) _)).below hb2) { exprK 2 with name := T.text } (.slice none 0 0) (Row.nil _ _ _ _) hc1').mono ?_; rintro e w'' ⟨rfl, S', hX', hSt⟩))
          go_ret
          refine EP.ok HE.out hX' (((HS1.out.trans (RStep.of_below (hb.trans ?_))).trans (RStep.of_below hb2)).trans hSt)
          exact (Below.refl _ _).alloc hb.size _
        · rw [if_neg hno] at hE
          have hno' : nameOk l (n : Int) = false := by simpa using hno
          have HE := hid hE; have H1 := hid h1; have HS1 := hid hst1; have HN := hid hno'
          have hWl := hid (hw1.mono hlow)
          clear hE hk3 h1 hst1 h hw1 hki hno hno'
          go_enter Try.func62, Try.ntmps62
          go_wp2_with (first | (go_at_call 82; refine (truth_any T.text _).mono ?_; rintro e w' ⟨rfl, hb⟩; rw [HTR.out]; unfold Expr.cells) | (go_at_call 41; refine (name_no l rb _ _ (by exact ((H1.out.below hb).below ((Below.refl _ _).alloc (Nat.le_refl _) _)).rf) n hn HN.out).mono ?_; rintro e w2 ⟨rfl, hb2⟩))
          refine ⟨rfl, EP.no HE.out (hWl.out.trans ?_)⟩
          have hz := hb.size
          simp only [World.size_alloc] at hz
          exact (hb.mono (by simp; omega)).trans (((Below.refl _ _).alloc (by omega) _).trans (hb2.mono (by simp; omega)))
    · rw [if_neg hk3] at hE
      have hk3b : (T.kind == 3) = false := by simpa using hk3
      clear hk3 hk4
      by_cases hsp : splitOk l (n : Int) = true
      · rw [if_pos hsp] at hE
        have hhs := head_size h.rf (n : Int)
        have hti := tail_in hwf hn
        have htk : cntL l f (tailK l (n : Int)) + 1 ≤ cntE l (f + 1) n := by
          have h3 := cntL_drop l f (fm l (n : Int)).kids 1
          have h4 : cntE l (f + 1) n = 1 + cntL l f (fm l n).kids := rfl
          unfold tailK
          omega
        have H1 := hid h1; have HS1 := hid hst1; have HSP := hid hsp; have HHS := hid hhs; have HTI := hid hti
        have hWl := hid (hw1.mono hlow)
        have HXW := hid h
        clear h1 hst1 h hw1 hki hsp hhs hti
        obtain ⟨s, hs⟩ : ∃ s, headW l (n : Int) = s := ⟨_, rfl⟩
        obtain ⟨kids, hkd⟩ : ∃ kids, tailK l (n : Int) = kids := ⟨_, rfl⟩
        rw [hs] at hE HHS
        rw [hkd] at hE HTI htk
        have HS := hid hs; have HKD := hid hkd
        clear hs hkd
        have hkr : Hid (∀ k ∈ kids, 0 ≤ k ∧ k < l.length) := hid fun k hk => by have := HTI.out k hk; omega
        rcases hlf : leafS l s kids with (_ | x) | wr
        · by_cases hco : callOk s kids = true
          · exact expr_call l hwf f n w lo rb S Z p hn hf HXW.out hcnt IH.out (by rw [HT.out]; exact hk4b) (by rw [HT.out]; exact hk3b) HSP.out (by rw [HS.out, HKD.out]; exact hlf) (by rw [HS.out, HKD.out]; exact hco)
          · exact expr_badcall l hwf f n w lo rb S Z p hn hf HXW.out hcnt IH.out (by rw [HT.out]; exact hk4b) (by rw [HT.out]; exact hk3b) HSP.out (by rw [HS.out, HKD.out]; exact hlf) (by rw [HS.out, HKD.out]; exact hco)
        · rw [hlf] at hE
          simp only at hE
          have HE := hid hE; have HLF := hid hlf; have HXK := hid (leafS_kids hlf)
          clear hE hlf
          go_enter Try.func62, Try.ntmps62
          go_wp2_with (first | (go_at_call 37; refine (split_yes l hwf rb _ _ (by exact H1.out.rf) n hn HSP.out).mono ?_; rintro e w2 ⟨tv, rfl, htv, hb2⟩; rw [HS.out]; rw [HKD.out] at htv) | (go_at_call 83; refine (leaf_any l hwf rb _ _ (by exact (H1.out.below hb2).rf) s HHS.out kids _ htv hkr.out).mono ?_; rintro e w3 ⟨he, hb3⟩; rw [HLF.out] at he; have he' : e = _ := he; subst he'; unfold Expr.cells) | (go_at_call 81; refine (addE_any l lo rb S Z p _ (by exact ((H1.out.below hb2).below hb3).below ((Below.refl _ _).alloc (Nat.le_refl _) _)) x (.slice none 0 0) (by rw [HXK.out]; exact Row.nil _ _ _ _) hc1').mono ?_; rintro e w'' ⟨rfl, S', hX', hSt⟩))
          go_ret
          exact EP.ok HE.out hX' ((((HS1.out.trans (RStep.of_below hb2)).trans (RStep.of_below hb3)).trans (RStep.of_below ((Below.refl _ _).alloc (Nat.le_refl _) _))).trans hSt)
        · rw [hlf] at hE
          simp only at hE
          have HE := hid hE; have HLF := hid hlf
          clear hE hlf
          go_enter Try.func62, Try.ntmps62
          go_wp2_with (first | (go_at_call 37; refine (split_yes l hwf rb _ _ (by exact H1.out.rf) n hn HSP.out).mono ?_; rintro e w2 ⟨tv, rfl, htv, hb2⟩; rw [HS.out]; rw [HKD.out] at htv) | (go_at_call 83; refine (leaf_any l hwf rb _ _ (by exact (H1.out.below hb2).rf) s HHS.out kids _ htv hkr.out).mono ?_; rintro e w3 ⟨he, hb3⟩; rw [HLF.out] at he; have he' : e = _ := he; subst he'))
          have hz2 := hb2.size
          simp only [World.size_alloc] at hz2
          exact ⟨rfl, EP.no HE.out ((hWl.out.trans (hb2.mono (by simp; omega))).trans (hb3.mono (by omega)))⟩
      · rw [if_neg hsp] at hE
        have hsp' : splitOk l (n : Int) = false := by simpa using hsp
        have HE := hid hE; have H1 := hid h1; have HSP := hid hsp'
        have hWl := hid (hw1.mono hlow)
        clear hE h1 hst1 h hw1 hki hsp hsp'
        go_enter Try.func62, Try.ntmps62
        go_wp2_with (go_at_call 37; refine (split_no l hwf rb _ _ (by exact H1.out.rf) n hn HSP.out).mono ?_; rintro e w2 ⟨rfl, hb2⟩)
        exact ⟨rfl, EP.no HE.out (hWl.out.trans (hb2.mono (by simp; omega)))⟩
end Go.Proofs.Ytgaginegcjpddaa
/- The program's reader of forms: an expression and a condition. -/
namespace Go.Proofs.Ytgaginegcjpddaa
open Go.RowKit
/-- places of forms that the reader may go on to -/
def Kin (l : List Form) (f : Nat) (k : Int) : Prop := ∃ kn : Nat, k = (kn : Int) ∧ kn < l.length ∧ (l.length : Int) - kn < f
def PP (w : World) (l : List Form) (lo rb : Nat) (S : Nat → Value) (Z : Nat → Prop) (p : Prg) (r : ((Int × Int) × List Expr) ⊕ Wr) (e : Ending) (w' : World) : Prop :=
  match r with
  | .inl (k, es) => e = .returned (.tuple #[.int .i64 k.1, .int .i64 k.2]) ∧ ∃ S' Z', RX w' l lo rb S' Z' { p with exprs := es } ∧ RStep w rb S Z w' S' Z'
  | .inr wr => e = .panicked (progWrong wr) ∧ Below lo w w'
theorem PP.ok {w : World} {l : List Form} {lo rb : Nat} {S S' : Nat → Value} {Z Z' : Nat → Prop} {p : Prg} {r : ((Int × Int) × List Expr) ⊕ Wr} {w' : World} {k : Int × Int} {es : List Expr} (hr : r = .inl (k, es)) (hX : RX w' l lo rb S' Z' { p with exprs := es }) (hS : RStep w rb S Z w' S' Z') : PP w l lo rb S Z p r (.returned (.tuple #[.int .i64 k.1, .int .i64 k.2])) w' := by
  subst hr; exact ⟨rfl, S', Z', hX, hS⟩
theorem PP.no {w : World} {l : List Form} {lo rb : Nat} {S : Nat → Value} {Z : Nat → Prop} {p : Prg} {r : ((Int × Int) × List Expr) ⊕ Wr} {w' : World} {wr : Wr} (hr : r = .inr wr) (hB : Below lo w w') : PP w l lo rb S Z p r (.panicked (progWrong wr)) w' := by
  subst hr; exact ⟨rfl, hB⟩
set_option maxHeartbeats 1600000 in
set_option maxRecDepth 100000 in
theorem parts_any (l : List Form) (hwf : WF l) (f : Nat) (w : World) (lo rb : Nat) (S : Nat → Value) (Z : Nat → Prop) (p : Prg) (h : RX w l lo rb S Z p) (kids : List Int) (kv : Value) (hk : Ints w (fun b => b < lo) kv kids) (hl0 : 0 < kids.length) (hkr : ∀ k ∈ kids, Kin l f k) (hcnt : p.exprs.length + cntL l f kids ≤ 99999) :
    Calls Try.prog 64 #[.pointer (some ⟨rb, 0, none⟩), kv] w (PP w l lo rb S Z p (partsS l f kids p.exprs)) := by
  obtain ⟨b, o, c, rfl, hle, hcap, hD, hb, hc0⟩ := hk.at_ 0 hl0
  obtain ⟨k0, hk0, hk0l, hk0f⟩ := hkr _ (nth_mem hl0)
  have hpos : (0 : Int) < (kids.length : Int) := by omega
  rw [hk0, Nat.add_zero] at hc0
  have hcn : cntL l f kids = cntE l f (k0 : Int) + cntL l f (kids.drop 1) := by
    have := drop_nth hl0
    rw [List.drop_zero, hk0] at this
    rw [this, cntL_cons]; simp
  have hP : partsS l f kids p.exprs = partsS l f kids p.exprs := rfl
  conv at hP => rhs; unfold partsS
  rw [hk0] at hP
  have hlen0 := exprS_len l f k0 p.exprs
  rcases hr0 : exprS l f (k0 : Int) p.exprs with ⟨v, es1⟩ | wr
  · rw [hr0] at hP hlen0
    have hl1 := hlen0 _ rfl
    simp only at hP hl1
    have HR0 := hid hr0
    have H := hid h
    clear hlen0 hr0 h
    by_cases h1 : 1 < kids.length
    · rw [if_pos h1] at hP
      obtain ⟨b', o', c', he, _, _, _, _, hc1⟩ := hk.at_ 1 h1
      simp only [Value.slice.injEq] at he
      obtain ⟨he, _, rfl⟩ := he
      cases he
      obtain ⟨k1, hk1, hk1l, hk1f⟩ := hkr _ (nth_mem h1)
      rw [hk1] at hP hc1
      have hcn1 : cntL l f (kids.drop 1) = cntE l f (k1 : Int) + cntL l f (kids.drop 2) := by
        rw [drop_nth h1, hk1, cntL_cons]
      have h1i : (1 : Int) < (kids.length : Int) := by omega
      have hcb : p.exprs.length + cntE l f (k0 : Int) ≤ 100000 := by omega
      have hcb1 : es1.length + cntE l f (k1 : Int) ≤ 100000 := by omega
      rcases hr1 : exprS l f (k1 : Int) es1 with ⟨v2, es2⟩ | wr
      · rw [hr1] at hP
        simp only at hP
        have HP := hid hP; have HR1 := hid hr1; have HK := hid hk0; have HK1 := hid hk1; have HCN := hid hcn; have HCN1 := hid hcn1
        clear hP hr1 hk0 hk1 hcn hcn1 hk hkr
        go_enter Try.func64, Try.ntmps64
        go_wp2_with fail
        refine (expr_any l hwf f k0 w lo rb S Z p hk0l hk0f H.out hcb).mono ?_
        rintro e w1 he
        rw [HR0.out] at he
        obtain ⟨rfl, S1, Z1, hX1, hSt1⟩ := he
        have hB1 := RStep.below H.out hSt1
        have hc1' := (hB1.cell (p := ⟨b, o + 1, none⟩) hD).trans hc1
        have HX1 := hid hX1; have HST1 := hid hSt1
        clear hX1 hSt1 hB1
        go_wp2_with fail
        refine (expr_any l hwf f k1 w1 lo rb S1 Z1 { p with exprs := es1 } hk1l hk1f HX1.out hcb1).mono ?_
        rintro e w2 he
        simp only at he
        rw [HR1.out] at he
        obtain ⟨rfl, S2, Z2, hX2, hSt2⟩ := he
        have HX2 := hid hX2; have HST2 := hid hSt2
        clear hX2 hSt2
        go_wp2
        go_ret2
        exact PP.ok HP.out HX2.out (HST1.out.trans HST2.out)
      · rw [hr1] at hP
        simp only at hP
        have HP := hid hP; have HR1 := hid hr1; have HK := hid hk0; have HK1 := hid hk1; have HCN := hid hcn; have HCN1 := hid hcn1
        clear hP hr1 hk0 hk1 hcn hcn1 hk hkr
        go_enter Try.func64, Try.ntmps64
        go_wp2_with fail
        refine (expr_any l hwf f k0 w lo rb S Z p hk0l hk0f H.out hcb).mono ?_
        rintro e w1 he
        rw [HR0.out] at he
        obtain ⟨rfl, S1, Z1, hX1, hSt1⟩ := he
        have hB1 := RStep.below H.out hSt1
        have hc1' := (hB1.cell (p := ⟨b, o + 1, none⟩) hD).trans hc1
        have HX1 := hid hX1; have HST1 := hid hSt1
        clear hX1 hSt1 hB1
        go_wp2_with fail
        refine (expr_any l hwf f k1 w1 lo rb S1 Z1 { p with exprs := es1 } hk1l hk1f HX1.out hcb1).mono ?_
        rintro e w2 he
        simp only at he
        rw [HR1.out] at he
        obtain ⟨rfl, hBp⟩ := he
        exact ⟨rfl, PP.no HP.out ((RStep.below H.out HST1.out).trans hBp)⟩
    · rw [if_neg h1] at hP
      have h1i : ¬ (1 : Int) < (kids.length : Int) := by omega
      have hcb : p.exprs.length + cntE l f (k0 : Int) ≤ 100000 := by omega
      have HP := hid hP; have HK := hid hk0; have HCN := hid hcn
      clear hP hk0 hcn hk hkr
      go_enter Try.func64, Try.ntmps64
      go_wp2_with fail
      refine (expr_any l hwf f k0 w lo rb S Z p hk0l hk0f H.out hcb).mono ?_
      rintro e w1 he
      rw [HR0.out] at he
      obtain ⟨rfl, S1, Z1, hX1, hSt1⟩ := he
      have HX1 := hid hX1; have HST1 := hid hSt1
      clear hX1 hSt1
      go_wp2
      go_ret2
      exact PP.ok HP.out HX1.out HST1.out
  · rw [hr0] at hP
    simp only at hP
    have hcb : p.exprs.length + cntE l f (k0 : Int) ≤ 100000 := by omega
    have HP := hid hP; have HK := hid hk0; have HCN := hid hcn; have HR0 := hid hr0
    have H := hid h
    clear hP hk0 hcn hk hkr hr0 hlen0 h
    go_enter Try.func64, Try.ntmps64
    go_wp2_with fail
    refine (expr_any l hwf f k0 w lo rb S Z p hk0l hk0f H.out hcb).mono ?_
    rintro e w1 he
    rw [HR0.out] at he
    obtain ⟨rfl, hBp⟩ := he
    exact ⟨rfl, PP.no HP.out hBp⟩
end Go.Proofs.Ytgaginegcjpddaa
/- The program's reader of forms: acts; a part behind a place; what lies apart from the reader. -/
namespace Go.Proofs.Ytgaginegcjpddaa
open Go.RowKit
def fromV (kb ko n kc j : Nat) : Value := if kc = j then .slice (some ⟨kb, ko, none⟩) (n - j) 0 else .slice (some ⟨kb, ko + j, none⟩) (n - j) (kc - j)
theorem slice_from (W : World) (kb ko n kc j : Nat) (hj : j ≤ n) (h : n ≤ kc) (x : Int) (hx : x = j) : (Instr.slice 25 (.slice (some ⟨kb, ko, none⟩) n kc) (some (.int .i64 x)) none none).run Try.prog W = .ok (fromV kb ko n kc j) W := by
  subst hx
  have hs : (sizeOf 3).run Try.prog W = .ok 1 W := by kernel_rfl
  have h1 : (j : Int) ≤ (n : Int) := by omega
  by_cases hc : kc = j
  · subst hc
    simp [fromV, Instr.slice, run_underlying Try.underlying25, Instr.sliceBounds, Instr.sliceBound, asIntOf, Result.andThen, hs, h1, hj]
  · simp [fromV, Instr.slice, run_underlying Try.underlying25, Instr.sliceBounds, Instr.sliceBound, asIntOf, Result.andThen, hs, hc, add_off, h1, hj]
theorem Ints.from {w : World} {D : Nat → Prop} {b off n c j : Nat} {l : List Int} (h : Ints w D (.slice (some ⟨b, off, none⟩) n c) l) (hj : j ≤ n) : Ints w D (fromV b off n c j) (l.drop j) := by
  obtain ⟨A, c', h1, h2, h3, h4⟩ := h.out
  simp only [Value.slice.injEq] at h1
  obtain ⟨rfl, rfl, rfl⟩ := h1
  unfold fromV
  split
  · rename_i hc
    have : l.drop j = [] := List.drop_eq_nil_of_le (by omega)
    rw [this]
    exact ⟨some ⟨b, off, none⟩, 0, by simp; omega, by simp, by omega, fun h => by simp at h⟩
  · refine ⟨some ⟨b, off + j, none⟩, c - j, by rw [List.length_drop], by rw [List.length_drop]; omega, by omega, fun h0 => ?_⟩
    rw [List.length_drop] at h0
    obtain ⟨b', off', hA, hD, hall⟩ := h4 (by omega)
    cases hA
    refine ⟨b, off + j, rfl, hD, fun i hi => ?_⟩
    rw [List.length_drop] at hi
    obtain ⟨cs, hr, hl, hcs⟩ := hall (j + i) (by omega)
    refine ⟨cs, by rw [nth_drop]; exact hr, hl, fun q u hq => ?_⟩
    have := hcs q u hq
    rwa [show off + (j + i) * 1 + q = off + j + i * 1 + q by omega] at this
/-- a block that is none of the reader's -/
theorem RX.setOut {w : World} {l : List Form} {lo rb : Nat} {S : Nat → Value} {Z : Nat → Prop} {p : Prg} (h : RX w l lo rb S Z p) {b : Nat} (h0 : lo ≤ b) (h1 : ¬ RB rb S b) (h2 : ¬ Z b) (j : Nat) (v : Value) : RX (w.setCell ⟨b, j, none⟩ v) l lo rb S Z p :=
  h.keep (by simp) (fun k hlt hk => Below.heap_setCell _ _ _ _ (fun e => by
    have e' : k = b := e
    subst e'
    rcases hk with hk | hk | hk
    · omega
    · exact h1 hk
    · exact h2 hk)) (fun _ h => h) (fun _ h => .inl h)
theorem RStep.setOut {w0 w : World} {rb : Nat} {S S1 : Nat → Value} {Z Z1 : Nat → Prop} (h : RStep w0 rb S Z w S1 Z1) {b : Nat} (h0 : w0.heap.size ≤ b) (j : Nat) (v : Value) : RStep w0 rb S Z (w.setCell ⟨b, j, none⟩ v) S1 Z1 :=
  ⟨⟨h.grow.os, h.grow.tape, h.grow.output, by simpa using h.grow.size, fun k hlt hn => (Below.heap_setCell _ _ _ _ (fun e => by have e' : k = b := e; omega)).trans (h.grow.block k hlt hn), h.grow.new⟩, h.z, h.znew, h.kept⟩
/-- such a block lies on behind a call of the reader's -/
theorem RX.fresh {w w' : World} {l : List Form} {lo rb : Nat} {S S' : Nat → Value} {Z Z' : Nat → Prop} {p : Prg} (h : RX w l lo rb S Z p) {w0 : World} {S0 : Nat → Value} {Z0 : Nat → Prop} (k0 : RStep w0 rb S0 Z0 w S Z) (k : RStep w rb S Z w' S' Z') {b : Nat} (hb : b < w.heap.size) (h1 : ¬ RB rb S b) (h2 : ¬ Z b) : ¬ RB rb S' b ∧ ¬ Z' b ∧ w'.heap[b]? = w.heap[b]? :=
  ⟨k.grow.lt hb h1, fun e => by
    rcases k.znew b e with h3 | h3
    · exact h2 h3
    · omega, k.grow.block b hb h1⟩
theorem RX.new_ {w : World} {l : List Form} {lo rb : Nat} {S : Nat → Value} {Z : Nat → Prop} {p : Prg} (h : RX w l lo rb S Z p) {b : Nat} (hb : w.heap.size ≤ b) : lo ≤ b ∧ ¬ RB rb S b ∧ ¬ Z b := by
  refine ⟨by have := h.size.2; omega, fun e => ?_, fun e => by have := (h.zlow b e).2.1; omega⟩
  rcases e with rfl | ⟨i, e⟩
  · have := h.size.1; omega
  · have := h.lt i b e; omega
def AP (w : World) (l : List Form) (lo rb : Nat) (S : Nat → Value) (Z : Nat → Prop) (p : Prg) (r : (PAct × List Expr) ⊕ Wr) (e : Ending) (w' : World) : Prop :=
  match r with
  | .inl (a, es) => e = .returned (.agg a.cells.toArray) ∧ ∃ S' Z', RX w' l lo rb S' Z' { p with exprs := es } ∧ RStep w rb S Z w' S' Z'
  | .inr wr => e = .panicked (progWrong wr) ∧ Below lo w w'
theorem AP.ok {w : World} {l : List Form} {lo rb : Nat} {S S' : Nat → Value} {Z Z' : Nat → Prop} {p : Prg} {r : (PAct × List Expr) ⊕ Wr} {w' : World} {k : PAct} {es : List Expr} (hr : r = .inl (k, es)) (hX : RX w' l lo rb S' Z' { p with exprs := es }) (hS : RStep w rb S Z w' S' Z') : AP w l lo rb S Z p r (.returned (.agg k.cells.toArray)) w' := by
  subst hr; exact ⟨rfl, S', Z', hX, hS⟩
theorem AP.no {w : World} {l : List Form} {lo rb : Nat} {S : Nat → Value} {Z : Nat → Prop} {p : Prg} {r : (PAct × List Expr) ⊕ Wr} {w' : World} {wr : Wr} (hr : r = .inr wr) (hB : Below lo w w') : AP w l lo rb S Z p r (.panicked (progWrong wr)) w' := by
  subst hr; exact ⟨rfl, hB⟩
set_option maxHeartbeats 2000000 in
set_option maxRecDepth 100000 in
theorem act_put (l : List Form) (hwf : WF l) (f : Nat) (w : World) (lo rb : Nat) (S : Nat → Value) (Z : Nat → Prop) (p : Prg) (h : RX w l lo rb S Z p) (n : Nat) (hn : n < l.length) (hkr : ∀ k ∈ tailK l (n : Int), Kin l f k) (hcnt : p.exprs.length + cntL l f (tailK l (n : Int)) ≤ 99999)
    (hsp : splitOk l (n : Int) = true) (hw : headW l (n : Int) = wPut) (hc : (tailK l (n : Int)).length = 2 ∨ (tailK l (n : Int)).length = 3) :
    Calls Try.prog 65 #[.pointer (some ⟨rb, 0, none⟩), .int .i64 (n : Int)] w (AP w l lo rb S Z p (actBody l f (tailK l (n : Int)) 1 0 false 1 p.exprs)) := by
  have hB0 : Below w.heap.size w (w.alloc (.cells #[.int .u8 0, .string ⟨#[]⟩, .int .u8 0, .bool false, .int .i64 0, .int .i64 0] 137 (0, 0))) := (Below.refl _ _).alloc (Nat.le_refl _) _
  have hb4 := new_blk w (.cells #[.int .u8 0, .string ⟨#[]⟩, .int .u8 0, .bool false, .int .i64 0, .int .i64 0] 137 (0, 0))
  have h1 := h.below hB0
  obtain ⟨kids, hkd⟩ : ∃ kids, tailK l (n : Int) = kids := ⟨_, rfl⟩
  rw [hkd] at hkr hcnt hc ⊢
  have hlow := h.size.2
  have H := hid h; have H1 := hid h1; have HB4 := hid hb4; have HB0 := hid hB0; have HSP := hid hsp; have HW := hid hw; have HKD := hid hkd; have HKR := hid hkr; have HC := hid hc
  clear h h1 hb4 hB0 hsp hw hkd hkr hc
  go_enter Try.func65, Try.ntmps65
  go_upto_region 2 with (go_at_call 37; refine (split_yes l hwf rb _ _ (by exact H1.out.rf) n hn HSP.out).mono ?_; rintro e w2 ⟨tv, rfl, htv, hb2⟩; rw [HW.out]; rw [HKD.out] at htv)
  have hX2 := H1.out.below hb2
  have hS2 := (RStep.of_below (rb := rb) (S := S) (Z := Z) HB0.out).trans (RStep.of_below (rb := rb) (S := S) (Z := Z) hb2)
  have hb4 := keep_blk hb2 HB4.out
  have hz2 := hb2.size
  simp only [World.size_alloc] at hz2
  have hl2 : 2 ≤ kids.length ∧ kids.length ≤ 3 := by rcases HC.out with h | h <;> omega
  obtain ⟨kb, ko, kc, rfl, hle, hcap, hkD, hkb, hc0⟩ := htv.at_ 0 (by omega)
  obtain ⟨k0, hk0, hk0l, hk0f⟩ := HKR.out _ (nth_mem (i := 0) (by omega))
  rw [hk0, Nat.add_zero] at hc0
  have hsl := fun W => slice_from W kb ko kids.length kc 1 (by omega) hle 1 rfl
  have hif : Ints w2 (fun b => b < lo) (fromV kb ko kids.length kc 1) (kids.drop 1) := htv.from (by omega)
  have hpt : (wPut.toList == [112, 117, 116]) = true := by rw [ByteArray.toList_eq]; rfl
  have hcb : Hid (((kids.length : Int) == 2) = true ∨ (((kids.length : Int) == 2) = false ∧ ((kids.length : Int) == 3) = true)) := hid (by
    rcases HC.out with h | h
    · exact .inl (by rw [beq_iff_eq]; omega)
    · exact .inr ⟨by rw [beq_eq_false_iff_ne]; omega, by rw [beq_iff_eq]; omega⟩)
  have hpos : (0 : Int) < (kids.length : Int) := by omega
  have hn7 := hX2.new_ (b := w2.heap.size) (Nat.le_refl _)
  have hn4 := H.out.new_ (b := w.heap.size) (Nat.le_refl _)
  have hcnl : p.exprs.length + cntL l f (kids.drop 1) ≤ 99999 := by have := cntL_drop l f kids 1; omega
  have hdl : 0 < (kids.drop 1).length := by rw [List.length_drop]; omega
  have hkd1 : ∀ k ∈ kids.drop 1, Kin l f k := fun k hk => HKR.out k (List.mem_of_mem_drop hk)
  have hA : actBody l f kids 1 0 false 1 p.exprs = actBody l f kids 1 0 false 1 p.exprs := rfl
  conv at hA => rhs; unfold actBody
  rw [hk0] at hA
  have HX2 := hid hX2; have HS2 := hid hS2; have HB4' := hid hb4; have HIF := hid hif; have HN7 := hid hn7; have HN4 := hid hn4; have HCN := hid hcnl; have HDL := hid hdl; have HKD1 := hid hkd1; have HZ2 := hid hz2; have HK0 := hid hk0; have HLO := hid hlow
  have hkb2 : kb < w2.heap.size := hkb
  have hne : w.heap.size < w2.heap.size := by omega
  clear hX2 hS2 hb4 hif hn7 hn4 hcnl hdl hkd1 hz2 hk0 hb2 htv HB0 HB4 H1 HKD HC hcnt hlow hl2
  by_cases hno : nameOk l (k0 : Int) = true
  · rw [if_pos hno] at hA
    have HNO := hid hno
    clear hno
    obtain ⟨nm, hnm⟩ : ∃ nm, (fm l (k0 : Int)).text = nm := ⟨_, rfl⟩
    rw [hnm] at hA
    have HNM := hid hnm
    clear hnm
    rcases hpp : partsS l f (kids.drop 1) p.exprs with ⟨⟨ev, cv⟩, es1⟩ | wr
    · rw [hpp] at hA
      simp only at hA
      have HA := hid hA; have HPP := hid hpp
      clear hA hpp
      rcases hcb.out with hc2 | ⟨hc2, hc3⟩
      all_goals
        go_wp2_with (go_at_call 41; refine (name_yes l rb _ _ (by exact (HX2.out.below ((Below.refl _ _).alloc (Nat.le_refl _) _)).rf) k0 hk0l HNO.out).mono ?_; rintro e w3 ⟨rfl, hb3⟩; rw [HNM.out]; have hb7 := keep_blk hb3 (new_blk w2 _); have y1 := blk_cell hb7 1; have yf := blk_free hb7; have HB7 := hid hb7; have HB3 := hid hb3; clear hb7 hb3)
        have hX4 := ((HX2.out.below ((Below.refl _ _).alloc (Nat.le_refl _) _)).below HB3.out).setOut HN7.out.1 HN7.out.2.1 HN7.out.2.2 1 (.string nm)
        have hS4 := ((HS2.out.trans (RStep.of_below ((Below.refl _ _).alloc (Nat.le_refl _) _))).trans (RStep.of_below HB3.out)).setOut (b := w2.heap.size) (by omega) 1 (.string nm)
        have h74 : (w3.setCell ⟨w2.heap.size, 1, none⟩ (.string nm)).heap[w2.heap.size]? = some (.cells #[.int .u8 1, .string nm, .int .u8 0, .bool false, .int .i64 0, .int .i64 0] 137 (0, 0)) := by rw [blk_set HB7.out]; rfl
        have h44 : (w3.setCell ⟨w2.heap.size, 1, none⟩ (.string nm)).heap[w.heap.size]? = _ := set_blk (keep_blk HB3.out (old_blk HB4'.out _)) _ _ (show w.heap.size ≠ w2.heap.size by omega)
        have hi4 : Ints (w3.setCell ⟨w2.heap.size, 1, none⟩ (.string nm)) (fun b => b < lo) (fromV kb ko kids.length kc 1) (kids.drop 1) := HIF.out.imp fun b hD hlt => ⟨hD, (Below.heap_setCell _ _ _ _ (show b ≠ w2.heap.size by omega)).trans ((HB3.out.block b (by simp; omega)).trans (Below.heap_alloc w2 _ b hlt))⟩
        have hsz4 : w2.heap.size < w3.heap.size := blk_lt HB7.out
        generalize w3.setCell ⟨w2.heap.size, 1, none⟩ (.string nm) = w4 at hX4 hS4 h74 h44 hi4 ⊢
        refine (parts_any l hwf f w4 lo rb S Z p hX4 (kids.drop 1) _ hi4 HDL.out HKD1.out HCN.out).mono ?_
        rintro e w5 he
        rw [HPP.out] at he
        obtain ⟨rfl, S', Z', hX5, hSt5⟩ := he
        have f7 := hX4.fresh hS4 hSt5 (blk_lt h74) HN7.out.2.1 HN7.out.2.2
        have f4 := hX4.fresh hS4 hSt5 (blk_lt h44) HN4.out.2.1 HN4.out.2.2
        have h75 := f7.2.2.trans h74
        have h45 := f4.2.2.trans h44
        have HX5 := hid hX5; have HST := hid (hS4.trans hSt5); have HF4 := hid f4; have HF7 := hid f7
        clear hX5 hX4 hS4 hSt5 f4 f7 h74 h44 hi4 y1 yf
        have x0 := blk_cell h75 0; have x1 := blk_cell h75 1; have x2 := blk_cell h75 2; have x3 := blk_cell h75 3; have x4 := blk_cell h75 4; have x5 := blk_cell h75 5; have xf := blk_free h75
        have y0 := blk_cell h45 0; have y1 := blk_cell h45 1; have y2 := blk_cell h45 2; have y3 := blk_cell h45 3; have y4 := blk_cell h45 4; have y5 := blk_cell h45 5; have yf := blk_free h45
        clear h75 h45
        go_wp2
        refine bodyPost_ret (v := .agg #[.int .u8 1, .string nm, .int .u8 0, .bool false, .int .i64 ev, .int .i64 cv]) (by simp [results, Try.results65, go_sem, x0, x1, x2, x3, x4, x5, y0, y1, y2, y3, y4, y5]) rfl ?_
        refine AP.ok (S' := S') (Z' := Z') (k := { kind := 1, name := nm, op := 0, inn := false, e := ev, cond := cv }) HA.out ?_ ?_
        · refine RX.setOut ?_ HN4.out.1 HF4.out.1 HF4.out.2.1 _ _
          refine RX.setOut ?_ HN4.out.1 HF4.out.1 HF4.out.2.1 _ _
          refine RX.setOut ?_ HN4.out.1 HF4.out.1 HF4.out.2.1 _ _
          refine RX.setOut ?_ HN4.out.1 HF4.out.1 HF4.out.2.1 _ _
          refine RX.setOut ?_ HN4.out.1 HF4.out.1 HF4.out.2.1 _ _
          refine RX.setOut ?_ HN4.out.1 HF4.out.1 HF4.out.2.1 _ _
          refine RX.setOut ?_ HN7.out.1 HF7.out.1 HF7.out.2.1 _ _
          refine RX.setOut ?_ HN7.out.1 HF7.out.1 HF7.out.2.1 _ _
          exact HX5.out
        · refine RStep.setOut ?_ (Nat.le_refl _) _ _
          refine RStep.setOut ?_ (Nat.le_refl _) _ _
          refine RStep.setOut ?_ (Nat.le_refl _) _ _
          refine RStep.setOut ?_ (Nat.le_refl _) _ _
          refine RStep.setOut ?_ (Nat.le_refl _) _ _
          refine RStep.setOut ?_ (Nat.le_refl _) _ _
          refine RStep.setOut ?_ (by omega) _ _
          refine RStep.setOut ?_ (by omega) _ _
          exact HST.out
    · rw [hpp] at hA
      simp only at hA
      have HA := hid hA; have HPP := hid hpp
      clear hA hpp
      rcases hcb.out with hc2 | ⟨hc2, hc3⟩
      all_goals
        go_wp2_with (go_at_call 41; refine (name_yes l rb _ _ (by exact (HX2.out.below ((Below.refl _ _).alloc (Nat.le_refl _) _)).rf) k0 hk0l HNO.out).mono ?_; rintro e w3 ⟨rfl, hb3⟩; rw [HNM.out]; have hb7 := keep_blk hb3 (new_blk w2 _); have y1 := blk_cell hb7 1; have yf := blk_free hb7; have HB7 := hid hb7; have HB3 := hid hb3; clear hb7 hb3)
        have hX4 := ((HX2.out.below ((Below.refl _ _).alloc (Nat.le_refl _) _)).below HB3.out).setOut HN7.out.1 HN7.out.2.1 HN7.out.2.2 1 (.string nm)
        have hS4 := ((HS2.out.trans (RStep.of_below ((Below.refl _ _).alloc (Nat.le_refl _) _))).trans (RStep.of_below HB3.out)).setOut (b := w2.heap.size) (by omega) 1 (.string nm)
        have h74 : (w3.setCell ⟨w2.heap.size, 1, none⟩ (.string nm)).heap[w2.heap.size]? = some (.cells #[.int .u8 1, .string nm, .int .u8 0, .bool false, .int .i64 0, .int .i64 0] 137 (0, 0)) := by rw [blk_set HB7.out]; rfl
        have h44 : (w3.setCell ⟨w2.heap.size, 1, none⟩ (.string nm)).heap[w.heap.size]? = _ := set_blk (keep_blk HB3.out (old_blk HB4'.out _)) _ _ (show w.heap.size ≠ w2.heap.size by omega)
        have hi4 : Ints (w3.setCell ⟨w2.heap.size, 1, none⟩ (.string nm)) (fun b => b < lo) (fromV kb ko kids.length kc 1) (kids.drop 1) := HIF.out.imp fun b hD hlt => ⟨hD, (Below.heap_setCell _ _ _ _ (show b ≠ w2.heap.size by omega)).trans ((HB3.out.block b (by simp; omega)).trans (Below.heap_alloc w2 _ b hlt))⟩
        have hsz4 : w2.heap.size < w3.heap.size := blk_lt HB7.out
        generalize w3.setCell ⟨w2.heap.size, 1, none⟩ (.string nm) = w4 at hX4 hS4 h74 h44 hi4 ⊢
        refine (parts_any l hwf f w4 lo rb S Z p hX4 (kids.drop 1) _ hi4 HDL.out HKD1.out HCN.out).mono ?_
        rintro e w5 he
        rw [HPP.out] at he
        obtain ⟨rfl, hBp⟩ := he
        exact ⟨rfl, AP.no HA.out ((RStep.below H.out hS4).trans hBp)⟩
  · rw [if_neg hno] at hA
    have hno' : nameOk l (k0 : Int) = false := by simpa using hno
    have HNO := hid hno'; have HA := hid hA
    clear hno hno' hA
    rcases hcb.out with hc2 | ⟨hc2, hc3⟩
    all_goals
      go_wp2_with (go_at_call 41; refine (name_no l rb _ _ (by exact (HX2.out.below ((Below.refl _ _).alloc (Nat.le_refl _) _)).rf) k0 hk0l HNO.out).mono ?_; rintro e w3 ⟨rfl, hb3⟩)
      exact ⟨rfl, AP.no HA.out (((RStep.below H.out HS2.out).trans ((Below.refl _ _).alloc HN7.out.1 _)).trans (hb3.mono (by have := HN7.out.1; simp; omega)))⟩
end Go.Proofs.Ytgaginegcjpddaa
/- The program's reader of forms: acts along edges. -/
namespace Go.Proofs.Ytgaginegcjpddaa
open Go.RowKit
/-- what an act along edges comes to -/
def alongS (l : List Form) (f : Nat) (n : Int) (k : Int) (es : List Expr) : (PAct × List Expr) ⊕ Wr :=
  if takingOk l (nth (tailK l n) 1) then
    if saysS l (nth (tailK l n) 2) wIn || saysS l (nth (tailK l n) 2) wOut then
      actBody l f (tailK l n) k (takingOp l (nth (tailK l n) 1)) (saysS l (nth (tailK l n) 2) wIn) 3 es
    else .inr (wrongS l n)
  else .inr (wrongS l n)
set_option maxHeartbeats 4000000 in
set_option maxRecDepth 100000 in
theorem act_push (l : List Form) (hwf : WF l) (f : Nat) (w : World) (lo rb : Nat) (S : Nat → Value) (Z : Nat → Prop) (p : Prg) (h : RX w l lo rb S Z p) (n : Nat) (hn : n < l.length) (hkr : ∀ k ∈ tailK l (n : Int), Kin l f k) (hcnt : p.exprs.length + cntL l f (tailK l (n : Int)) ≤ 99999)
    (hsp : splitOk l (n : Int) = true) (hw : headW l (n : Int) = wPush) (hc : (tailK l (n : Int)).length = 4 ∨ (tailK l (n : Int)).length = 5) :
    Calls Try.prog 65 #[.pointer (some ⟨rb, 0, none⟩), .int .i64 (n : Int)] w (AP w l lo rb S Z p (alongS l f (n : Int) 2 p.exprs)) := by
  have hB0 : Below w.heap.size w (w.alloc (.cells #[.int .u8 0, .string ⟨#[]⟩, .int .u8 0, .bool false, .int .i64 0, .int .i64 0] 137 (0, 0))) := (Below.refl _ _).alloc (Nat.le_refl _) _
  have hb4 := new_blk w (.cells #[.int .u8 0, .string ⟨#[]⟩, .int .u8 0, .bool false, .int .i64 0, .int .i64 0] 137 (0, 0))
  have h1 := h.below hB0
  have hA : alongS l f (n : Int) 2 p.exprs = alongS l f (n : Int) 2 p.exprs := rfl
  conv at hA => rhs; unfold alongS
  obtain ⟨kids, hkd⟩ : ∃ kids, tailK l (n : Int) = kids := ⟨_, rfl⟩
  rw [hkd] at hkr hcnt hc hA
  have hlow := h.size.2
  have H := hid h; have H1 := hid h1; have HB4 := hid hb4; have HB0 := hid hB0; have HSP := hid hsp; have HW := hid hw; have HKD := hid hkd; have HKR := hid hkr; have HC := hid hc
  have HA0 := hid hA
  clear h h1 hb4 hB0 hsp hw hkd hkr hc hA
  go_enter Try.func65, Try.ntmps65
  go_upto_region 2 with (go_at_call 37; refine (split_yes l hwf rb _ _ (by exact H1.out.rf) n hn HSP.out).mono ?_; rintro e w2 ⟨tv, rfl, htv, hb2⟩; rw [HW.out]; rw [HKD.out] at htv)
  have hX2 := H1.out.below hb2
  have hS2 := (RStep.of_below (rb := rb) (S := S) (Z := Z) HB0.out).trans (RStep.of_below (rb := rb) (S := S) (Z := Z) hb2)
  have hb4 := keep_blk hb2 HB4.out
  have hz2 := hb2.size
  simp only [World.size_alloc] at hz2
  have hl2 : 4 ≤ kids.length ∧ kids.length ≤ 5 := by have := HC.out; omega
  obtain ⟨kb, ko, kc, rfl, hle, hcap, hkD, hkb, hc0⟩ := htv.at_ 0 (by omega)
  obtain ⟨kb1, ko1, kc1, he1, _, _, _, _, hc1⟩ := htv.at_ 1 (by omega)
  simp only [Value.slice.injEq] at he1
  obtain ⟨he1, _, rfl⟩ := he1
  cases he1
  obtain ⟨kb1, ko1, kc1, he1, _, _, _, _, hc2⟩ := htv.at_ 2 (by omega)
  simp only [Value.slice.injEq] at he1
  obtain ⟨he1, _, rfl⟩ := he1
  cases he1
  obtain ⟨k0, hk0, hk0l, hk0f⟩ := HKR.out _ (nth_mem (i := 0) (by omega))
  obtain ⟨k1, hk1, hk1l, hk1f⟩ := HKR.out _ (nth_mem (i := 1) (by omega))
  obtain ⟨k2, hk2, hk2l, hk2f⟩ := HKR.out _ (nth_mem (i := 2) (by omega))
  rw [hk0, Nat.add_zero] at hc0
  rw [hk1] at hc1
  rw [hk2] at hc2
  have hsl := fun W => slice_from W kb ko kids.length kc 3 (by omega) hle 3 rfl
  have hif : Ints w2 (fun b => b < lo) (fromV kb ko kids.length kc 3) (kids.drop 3) := htv.from (by omega)
  have hw0 : (wPush.toList == [112, 117, 116]) = false := by rw [ByteArray.toList_eq]; rfl
  have hw1 : (wPush.toList == [112, 117, 115, 104]) = true := by rw [ByteArray.toList_eq]; rfl
  have hw2 : (wPush.toList == [112, 117, 108, 108]) = false := by rw [ByteArray.toList_eq]; rfl
  have hcb : Hid (((kids.length : Int) == 4) = true ∨ (((kids.length : Int) == 4) = false ∧ ((kids.length : Int) == 5) = true)) := hid (by
    have := HC.out
    rcases this with h | h
    · exact .inl (by rw [beq_iff_eq]; omega)
    · exact .inr ⟨by rw [beq_eq_false_iff_ne]; omega, by rw [beq_iff_eq]; omega⟩)
  have hpos : (2 : Int) < (kids.length : Int) := by omega
  have hn7 := hX2.new_ (b := w2.heap.size) (Nat.le_refl _)
  have hn4 := H.out.new_ (b := w.heap.size) (Nat.le_refl _)
  have hcnl : p.exprs.length + cntL l f (kids.drop 3) ≤ 99999 := by have := cntL_drop l f kids 3; omega
  have hdl : 0 < (kids.drop 3).length := by rw [List.length_drop]; omega
  have hkd1 : ∀ k ∈ kids.drop 3, Kin l f k := fun k hk => HKR.out k (List.mem_of_mem_drop hk)
  have hA := HA0.out
  unfold actBody at hA
  rw [hk0, hk1, hk2] at hA
  have HX2 := hid hX2; have HS2 := hid hS2; have HB4' := hid hb4; have HIF := hid hif; have HN7 := hid hn7; have HN4 := hid hn4; have HCN := hid hcnl; have HDL := hid hdl; have HKD1 := hid hkd1; have HZ2 := hid hz2; have HK0 := hid hk0; have HLO := hid hlow
  have hkb2 : kb < w2.heap.size := hkb
  have hne : w.heap.size < w2.heap.size := by omega
  have hi0 : (1 : Int) < (kids.length : Int) := by omega
  have hi1 : (0 : Int) < (kids.length : Int) := by omega
  clear hX2 hS2 hb4 hif hn7 hn4 hcnl hdl hkd1 hz2 hk0 hk1 hk2 hb2 htv HB0 HB4 H1 HKD HC hcnt hlow hl2 HA0
  obtain ⟨op, hop⟩ : ∃ op, takingOp l (k1 : Int) = op := ⟨_, rfl⟩
  rw [hop] at hA
  have HOP := hid hop
  clear hop
  by_cases htk : takingOk l (k1 : Int) = true
  · rw [if_pos htk] at hA
    have HTK := hid htk
    clear htk
    by_cases hbi : saysS l (k2 : Int) wIn = true
    · rw [if_pos (by rw [hbi]; rfl), hbi] at hA
      have HBI := hid hbi
      clear hbi
      by_cases hno : nameOk l (k0 : Int) = true
      · rw [if_pos hno] at hA
        have HNO := hid hno
        clear hno
        obtain ⟨nm, hnm⟩ : ∃ nm, (fm l (k0 : Int)).text = nm := ⟨_, rfl⟩
        rw [hnm] at hA
        have HNM := hid hnm
        clear hnm
        rcases hpp : partsS l f (kids.drop 3) p.exprs with ⟨⟨ev, cv⟩, es1⟩ | wr
        · rw [hpp] at hA
          simp only at hA
          have HA := hid hA; have HPP := hid hpp
          clear hA hpp
          rcases hcb.out with hc3 | ⟨hc3, hc4⟩
          all_goals
            go_wp2_with fail; refine (taking_any l rb _ _ (by exact (HX2.out.below ((Below.refl _ _).alloc (Nat.le_refl _) _)).rf) n k1 hn hk1l).mono ?_; rintro e w3 ⟨he, hb3⟩; unfold TakeP at he; rw [if_pos HTK.out, HOP.out] at he; subst he; have hb7 := keep_blk hb3 (new_blk w2 _); have z2 := blk_cell hb7 2; have z3 := blk_cell hb7 3; have zf := blk_free hb7; have d2 := (hb3.cell (p := ⟨kb, ko + 2, none⟩) (show kb < (w2.alloc _).heap.size by rw [World.size_alloc]; omega)).trans ((World.cell?_of_block (a := ⟨kb, ko + 2, none⟩) (Below.heap_alloc w2 _ kb hkb2)).trans hc2); have d0 := (hb3.cell (p := ⟨kb, ko, none⟩) (show kb < (w2.alloc _).heap.size by rw [World.size_alloc]; omega)).trans ((World.cell?_of_block (a := ⟨kb, ko, none⟩) (Below.heap_alloc w2 _ kb hkb2)).trans hc0); have hkn : kb ≠ w2.heap.size := (by omega); have HB7 := hid hb7; have HB3 := hid hb3; clear hb7 hb3
            go_wp2_with (first | (go_at_call 86; refine (says_any l rb _ _ (by exact (((HX2.out.below ((Below.refl _ _).alloc (Nat.le_refl _) _)).below HB3.out).setOut HN7.out.1 HN7.out.2.1 HN7.out.2.2 2 (.int .u8 op)).rf) k2 hk2l _).mono ?_; rintro e w' ⟨rfl, hww⟩; subst hww; rw [show saysS l (k2 : Int) ⟨#[105, 110]⟩ = true from HBI.out]) | (go_at_call 40; refine (need_true _ _ _).mono ?_; rintro e w' ⟨rfl, hww⟩; subst hww) | (go_at_call 41; refine (name_yes l rb _ _ (by exact ((((HX2.out.below ((Below.refl _ _).alloc (Nat.le_refl _) _)).below HB3.out).setOut HN7.out.1 HN7.out.2.1 HN7.out.2.2 2 (.int .u8 op)).setOut HN7.out.1 HN7.out.2.1 HN7.out.2.2 3 (.bool true)).rf) k0 hk0l HNO.out).mono ?_; rintro e w5 ⟨rfl, hb5⟩; rw [HNM.out]; have hb75 := keep_blk hb5 (blk_set (blk_set HB7.out (.int .u8 op)) (.bool true)); have u1 := blk_cell hb75 1; have uf := blk_free hb75; have HB75 := hid hb75; have HB5 := hid hb5; clear hb75 hb5))
            have hX5 := (((((HX2.out.below ((Below.refl _ _).alloc (Nat.le_refl _) _)).below HB3.out).setOut HN7.out.1 HN7.out.2.1 HN7.out.2.2 2 (.int .u8 op)).setOut HN7.out.1 HN7.out.2.1 HN7.out.2.2 3 (.bool true)).below HB5.out).setOut HN7.out.1 HN7.out.2.1 HN7.out.2.2 1 (.string nm)
            have hS5 := (((((HS2.out.trans (RStep.of_below ((Below.refl _ _).alloc (Nat.le_refl _) _))).trans (RStep.of_below HB3.out)).setOut (b := w2.heap.size) (by omega) 2 (.int .u8 op)).setOut (b := w2.heap.size) (by omega) 3 (.bool true)).trans (RStep.of_below HB5.out)).setOut (b := w2.heap.size) (by omega) 1 (.string nm)
            have h75 : (w5.setCell ⟨w2.heap.size, 1, none⟩ (.string nm)).heap[w2.heap.size]? = some (.cells #[.int .u8 2, .string nm, .int .u8 op, .bool true, .int .i64 0, .int .i64 0] 137 (0, 0)) := by rw [blk_set HB75.out]; rfl
            have h45 : (w5.setCell ⟨w2.heap.size, 1, none⟩ (.string nm)).heap[w.heap.size]? = _ := set_blk (keep_blk HB5.out (set_blk (set_blk (keep_blk HB3.out (old_blk HB4'.out _)) _ _ (show w.heap.size ≠ w2.heap.size by omega)) _ _ (show w.heap.size ≠ w2.heap.size by omega))) _ _ (show w.heap.size ≠ w2.heap.size by omega)
            have hsz3 : w2.heap.size < w3.heap.size := blk_lt HB7.out
            have hi5 : Ints (w5.setCell ⟨w2.heap.size, 1, none⟩ (.string nm)) (fun b => b < lo) (fromV kb ko kids.length kc 3) (kids.drop 3) := HIF.out.imp fun b hD hlt => ⟨hD, (Below.heap_setCell _ _ _ _ (show b ≠ w2.heap.size by omega)).trans ((HB5.out.block b (by simp; omega)).trans ((Below.heap_setCell _ _ _ _ (show b ≠ w2.heap.size by omega)).trans ((Below.heap_setCell _ _ _ _ (show b ≠ w2.heap.size by omega)).trans ((HB3.out.block b (by simp; omega)).trans (Below.heap_alloc w2 _ b hlt)))))⟩
            generalize w5.setCell ⟨w2.heap.size, 1, none⟩ (.string nm) = w6 at hX5 hS5 h75 h45 hi5 ⊢
            refine (parts_any l hwf f w6 lo rb S Z p hX5 (kids.drop 3) _ hi5 HDL.out HKD1.out HCN.out).mono ?_
            rintro e w7 he
            rw [HPP.out] at he
            obtain ⟨rfl, S', Z', hX6, hSt6⟩ := he
            have f7 := hX5.fresh hS5 hSt6 (blk_lt h75) HN7.out.2.1 HN7.out.2.2
            have f4 := hX5.fresh hS5 hSt6 (blk_lt h45) HN4.out.2.1 HN4.out.2.2
            have h76 := f7.2.2.trans h75
            have h46 := f4.2.2.trans h45
            have HX6 := hid hX6; have HST := hid (hS5.trans hSt6); have HF4 := hid f4; have HF7 := hid f7
            clear hX6 hX5 hS5 hSt6 f4 f7 h75 h45 hi5 u1 uf z2 z3 zf d0 d2
            have x0 := blk_cell h76 0; have x1 := blk_cell h76 1; have x2 := blk_cell h76 2; have x3 := blk_cell h76 3; have x4 := blk_cell h76 4; have x5 := blk_cell h76 5; have xf := blk_free h76
            have y0 := blk_cell h46 0; have y1 := blk_cell h46 1; have y2 := blk_cell h46 2; have y3 := blk_cell h46 3; have y4 := blk_cell h46 4; have y5 := blk_cell h46 5; have yf := blk_free h46
            clear h76 h46
            go_wp2
            refine bodyPost_ret (v := .agg #[.int .u8 2, .string nm, .int .u8 op, .bool true, .int .i64 ev, .int .i64 cv]) (by simp [results, Try.results65, go_sem, x0, x1, x2, x3, x4, x5, y0, y1, y2, y3, y4, y5]) rfl ?_
            refine AP.ok (S' := S') (Z' := Z') (k := { kind := 2, name := nm, op := op, inn := true, e := ev, cond := cv }) HA.out ?_ ?_
            · refine RX.setOut ?_ HN4.out.1 HF4.out.1 HF4.out.2.1 _ _
              refine RX.setOut ?_ HN4.out.1 HF4.out.1 HF4.out.2.1 _ _
              refine RX.setOut ?_ HN4.out.1 HF4.out.1 HF4.out.2.1 _ _
              refine RX.setOut ?_ HN4.out.1 HF4.out.1 HF4.out.2.1 _ _
              refine RX.setOut ?_ HN4.out.1 HF4.out.1 HF4.out.2.1 _ _
              refine RX.setOut ?_ HN4.out.1 HF4.out.1 HF4.out.2.1 _ _
              refine RX.setOut ?_ HN7.out.1 HF7.out.1 HF7.out.2.1 _ _
              refine RX.setOut ?_ HN7.out.1 HF7.out.1 HF7.out.2.1 _ _
              exact HX6.out
            · refine RStep.setOut ?_ (Nat.le_refl _) _ _
              refine RStep.setOut ?_ (Nat.le_refl _) _ _
              refine RStep.setOut ?_ (Nat.le_refl _) _ _
              refine RStep.setOut ?_ (Nat.le_refl _) _ _
              refine RStep.setOut ?_ (Nat.le_refl _) _ _
              refine RStep.setOut ?_ (Nat.le_refl _) _ _
              refine RStep.setOut ?_ (by omega) _ _
              refine RStep.setOut ?_ (by omega) _ _
              exact HST.out
        · rw [hpp] at hA
          simp only at hA
          have HA := hid hA; have HPP := hid hpp
          clear hA hpp
          rcases hcb.out with hc3 | ⟨hc3, hc4⟩
          all_goals
            go_wp2_with fail; refine (taking_any l rb _ _ (by exact (HX2.out.below ((Below.refl _ _).alloc (Nat.le_refl _) _)).rf) n k1 hn hk1l).mono ?_; rintro e w3 ⟨he, hb3⟩; unfold TakeP at he; rw [if_pos HTK.out, HOP.out] at he; subst he; have hb7 := keep_blk hb3 (new_blk w2 _); have z2 := blk_cell hb7 2; have z3 := blk_cell hb7 3; have zf := blk_free hb7; have d2 := (hb3.cell (p := ⟨kb, ko + 2, none⟩) (show kb < (w2.alloc _).heap.size by rw [World.size_alloc]; omega)).trans ((World.cell?_of_block (a := ⟨kb, ko + 2, none⟩) (Below.heap_alloc w2 _ kb hkb2)).trans hc2); have d0 := (hb3.cell (p := ⟨kb, ko, none⟩) (show kb < (w2.alloc _).heap.size by rw [World.size_alloc]; omega)).trans ((World.cell?_of_block (a := ⟨kb, ko, none⟩) (Below.heap_alloc w2 _ kb hkb2)).trans hc0); have hkn : kb ≠ w2.heap.size := (by omega); have HB7 := hid hb7; have HB3 := hid hb3; clear hb7 hb3
            go_wp2_with (first | (go_at_call 86; refine (says_any l rb _ _ (by exact (((HX2.out.below ((Below.refl _ _).alloc (Nat.le_refl _) _)).below HB3.out).setOut HN7.out.1 HN7.out.2.1 HN7.out.2.2 2 (.int .u8 op)).rf) k2 hk2l _).mono ?_; rintro e w' ⟨rfl, hww⟩; subst hww; rw [show saysS l (k2 : Int) ⟨#[105, 110]⟩ = true from HBI.out]) | (go_at_call 40; refine (need_true _ _ _).mono ?_; rintro e w' ⟨rfl, hww⟩; subst hww) | (go_at_call 41; refine (name_yes l rb _ _ (by exact ((((HX2.out.below ((Below.refl _ _).alloc (Nat.le_refl _) _)).below HB3.out).setOut HN7.out.1 HN7.out.2.1 HN7.out.2.2 2 (.int .u8 op)).setOut HN7.out.1 HN7.out.2.1 HN7.out.2.2 3 (.bool true)).rf) k0 hk0l HNO.out).mono ?_; rintro e w5 ⟨rfl, hb5⟩; rw [HNM.out]; have hb75 := keep_blk hb5 (blk_set (blk_set HB7.out (.int .u8 op)) (.bool true)); have u1 := blk_cell hb75 1; have uf := blk_free hb75; have HB75 := hid hb75; have HB5 := hid hb5; clear hb75 hb5))
            have hX5 := (((((HX2.out.below ((Below.refl _ _).alloc (Nat.le_refl _) _)).below HB3.out).setOut HN7.out.1 HN7.out.2.1 HN7.out.2.2 2 (.int .u8 op)).setOut HN7.out.1 HN7.out.2.1 HN7.out.2.2 3 (.bool true)).below HB5.out).setOut HN7.out.1 HN7.out.2.1 HN7.out.2.2 1 (.string nm)
            have hS5 := (((((HS2.out.trans (RStep.of_below ((Below.refl _ _).alloc (Nat.le_refl _) _))).trans (RStep.of_below HB3.out)).setOut (b := w2.heap.size) (by omega) 2 (.int .u8 op)).setOut (b := w2.heap.size) (by omega) 3 (.bool true)).trans (RStep.of_below HB5.out)).setOut (b := w2.heap.size) (by omega) 1 (.string nm)
            have h75 : (w5.setCell ⟨w2.heap.size, 1, none⟩ (.string nm)).heap[w2.heap.size]? = some (.cells #[.int .u8 2, .string nm, .int .u8 op, .bool true, .int .i64 0, .int .i64 0] 137 (0, 0)) := by rw [blk_set HB75.out]; rfl
            have h45 : (w5.setCell ⟨w2.heap.size, 1, none⟩ (.string nm)).heap[w.heap.size]? = _ := set_blk (keep_blk HB5.out (set_blk (set_blk (keep_blk HB3.out (old_blk HB4'.out _)) _ _ (show w.heap.size ≠ w2.heap.size by omega)) _ _ (show w.heap.size ≠ w2.heap.size by omega))) _ _ (show w.heap.size ≠ w2.heap.size by omega)
            have hsz3 : w2.heap.size < w3.heap.size := blk_lt HB7.out
            have hi5 : Ints (w5.setCell ⟨w2.heap.size, 1, none⟩ (.string nm)) (fun b => b < lo) (fromV kb ko kids.length kc 3) (kids.drop 3) := HIF.out.imp fun b hD hlt => ⟨hD, (Below.heap_setCell _ _ _ _ (show b ≠ w2.heap.size by omega)).trans ((HB5.out.block b (by simp; omega)).trans ((Below.heap_setCell _ _ _ _ (show b ≠ w2.heap.size by omega)).trans ((Below.heap_setCell _ _ _ _ (show b ≠ w2.heap.size by omega)).trans ((HB3.out.block b (by simp; omega)).trans (Below.heap_alloc w2 _ b hlt)))))⟩
            generalize w5.setCell ⟨w2.heap.size, 1, none⟩ (.string nm) = w6 at hX5 hS5 h75 h45 hi5 ⊢
            refine (parts_any l hwf f w6 lo rb S Z p hX5 (kids.drop 3) _ hi5 HDL.out HKD1.out HCN.out).mono ?_
            rintro e w7 he
            rw [HPP.out] at he
            obtain ⟨rfl, hBp⟩ := he
            exact ⟨rfl, AP.no HA.out ((RStep.below H.out hS5).trans hBp)⟩
      · rw [if_neg hno] at hA
        have hno' : nameOk l (k0 : Int) = false := by simpa using hno
        have HNO := hid hno'; have HA := hid hA
        clear hno hno' hA
        rcases hcb.out with hc3 | ⟨hc3, hc4⟩
        all_goals
          go_wp2_with fail; refine (taking_any l rb _ _ (by exact (HX2.out.below ((Below.refl _ _).alloc (Nat.le_refl _) _)).rf) n k1 hn hk1l).mono ?_; rintro e w3 ⟨he, hb3⟩; unfold TakeP at he; rw [if_pos HTK.out, HOP.out] at he; subst he; have hb7 := keep_blk hb3 (new_blk w2 _); have z2 := blk_cell hb7 2; have z3 := blk_cell hb7 3; have zf := blk_free hb7; have d2 := (hb3.cell (p := ⟨kb, ko + 2, none⟩) (show kb < (w2.alloc _).heap.size by rw [World.size_alloc]; omega)).trans ((World.cell?_of_block (a := ⟨kb, ko + 2, none⟩) (Below.heap_alloc w2 _ kb hkb2)).trans hc2); have d0 := (hb3.cell (p := ⟨kb, ko, none⟩) (show kb < (w2.alloc _).heap.size by rw [World.size_alloc]; omega)).trans ((World.cell?_of_block (a := ⟨kb, ko, none⟩) (Below.heap_alloc w2 _ kb hkb2)).trans hc0); have hkn : kb ≠ w2.heap.size := (by omega); have HB7 := hid hb7; have HB3 := hid hb3; clear hb7 hb3
          go_wp2_with (first | (go_at_call 86; refine (says_any l rb _ _ (by exact (((HX2.out.below ((Below.refl _ _).alloc (Nat.le_refl _) _)).below HB3.out).setOut HN7.out.1 HN7.out.2.1 HN7.out.2.2 2 (.int .u8 op)).rf) k2 hk2l _).mono ?_; rintro e w' ⟨rfl, hww⟩; subst hww; rw [show saysS l (k2 : Int) ⟨#[105, 110]⟩ = true from HBI.out]) | (go_at_call 40; refine (need_true _ _ _).mono ?_; rintro e w' ⟨rfl, hww⟩; subst hww) | (go_at_call 41; refine (name_no l rb _ _ (by exact ((((HX2.out.below ((Below.refl _ _).alloc (Nat.le_refl _) _)).below HB3.out).setOut HN7.out.1 HN7.out.2.1 HN7.out.2.2 2 (.int .u8 op)).setOut HN7.out.1 HN7.out.2.1 HN7.out.2.2 3 (.bool true)).rf) k0 hk0l HNO.out).mono ?_; rintro e w5 ⟨rfl, hb5⟩))
          exact ⟨rfl, AP.no HA.out ((RStep.below H.out ((((HS2.out.trans (RStep.of_below ((Below.refl _ _).alloc (Nat.le_refl _) _))).trans (RStep.of_below HB3.out)).setOut (b := w2.heap.size) (by omega) 2 (.int .u8 op)).setOut (b := w2.heap.size) (by omega) 3 (.bool true))).trans (hb5.mono (by have := ((((HX2.out.below ((Below.refl _ _).alloc (Nat.le_refl _) _)).below HB3.out).setOut HN7.out.1 HN7.out.2.1 HN7.out.2.2 2 (.int .u8 op)).setOut HN7.out.1 HN7.out.2.1 HN7.out.2.2 3 (.bool true)).size.2; exact this)))⟩
    · have hbi' : saysS l (k2 : Int) wIn = false := by simpa using hbi
      by_cases hbo : saysS l (k2 : Int) wOut = true
      · rw [if_pos (by rw [hbo]; simp), hbi'] at hA
        have HBI := hid hbi'; have HBO := hid hbo
        clear hbi hbi' hbo
        by_cases hno : nameOk l (k0 : Int) = true
        · rw [if_pos hno] at hA
          have HNO := hid hno
          clear hno
          obtain ⟨nm, hnm⟩ : ∃ nm, (fm l (k0 : Int)).text = nm := ⟨_, rfl⟩
          rw [hnm] at hA
          have HNM := hid hnm
          clear hnm
          rcases hpp : partsS l f (kids.drop 3) p.exprs with ⟨⟨ev, cv⟩, es1⟩ | wr
          · rw [hpp] at hA
            simp only at hA
            have HA := hid hA; have HPP := hid hpp
            clear hA hpp
            rcases hcb.out with hc3 | ⟨hc3, hc4⟩
            all_goals
              go_wp2_with fail; refine (taking_any l rb _ _ (by exact (HX2.out.below ((Below.refl _ _).alloc (Nat.le_refl _) _)).rf) n k1 hn hk1l).mono ?_; rintro e w3 ⟨he, hb3⟩; unfold TakeP at he; rw [if_pos HTK.out, HOP.out] at he; subst he; have hb7 := keep_blk hb3 (new_blk w2 _); have z2 := blk_cell hb7 2; have z3 := blk_cell hb7 3; have zf := blk_free hb7; have d2 := (hb3.cell (p := ⟨kb, ko + 2, none⟩) (show kb < (w2.alloc _).heap.size by rw [World.size_alloc]; omega)).trans ((World.cell?_of_block (a := ⟨kb, ko + 2, none⟩) (Below.heap_alloc w2 _ kb hkb2)).trans hc2); have d0 := (hb3.cell (p := ⟨kb, ko, none⟩) (show kb < (w2.alloc _).heap.size by rw [World.size_alloc]; omega)).trans ((World.cell?_of_block (a := ⟨kb, ko, none⟩) (Below.heap_alloc w2 _ kb hkb2)).trans hc0); have hkn : kb ≠ w2.heap.size := (by omega); have HB7 := hid hb7; have HB3 := hid hb3; clear hb7 hb3
              go_wp2_with (first | (go_at_call 86; refine (says_any l rb _ _ (by exact (((HX2.out.below ((Below.refl _ _).alloc (Nat.le_refl _) _)).below HB3.out).setOut HN7.out.1 HN7.out.2.1 HN7.out.2.2 2 (.int .u8 op)).rf) k2 hk2l _).mono ?_; rintro e w' ⟨rfl, hww⟩; subst hww; rw [show saysS l (k2 : Int) ⟨#[105, 110]⟩ = false from HBI.out]) | (go_at_call 86; refine (says_any l rb _ _ (by exact ((((HX2.out.below ((Below.refl _ _).alloc (Nat.le_refl _) _)).below HB3.out).setOut HN7.out.1 HN7.out.2.1 HN7.out.2.2 2 (.int .u8 op)).setOut HN7.out.1 HN7.out.2.1 HN7.out.2.2 3 (.bool false)).rf) k2 hk2l _).mono ?_; rintro e w' ⟨rfl, hww⟩; subst hww; rw [show saysS l (k2 : Int) ⟨#[111, 117, 116]⟩ = true from HBO.out]) | (go_at_call 40; refine (need_true _ _ _).mono ?_; rintro e w' ⟨rfl, hww⟩; subst hww) | (go_at_call 41; refine (name_yes l rb _ _ (by exact ((((HX2.out.below ((Below.refl _ _).alloc (Nat.le_refl _) _)).below HB3.out).setOut HN7.out.1 HN7.out.2.1 HN7.out.2.2 2 (.int .u8 op)).setOut HN7.out.1 HN7.out.2.1 HN7.out.2.2 3 (.bool false)).rf) k0 hk0l HNO.out).mono ?_; rintro e w5 ⟨rfl, hb5⟩; rw [HNM.out]; have hb75 := keep_blk hb5 (blk_set (blk_set HB7.out (.int .u8 op)) (.bool false)); have u1 := blk_cell hb75 1; have uf := blk_free hb75; have HB75 := hid hb75; have HB5 := hid hb5; clear hb75 hb5))
              have hX5 := (((((HX2.out.below ((Below.refl _ _).alloc (Nat.le_refl _) _)).below HB3.out).setOut HN7.out.1 HN7.out.2.1 HN7.out.2.2 2 (.int .u8 op)).setOut HN7.out.1 HN7.out.2.1 HN7.out.2.2 3 (.bool false)).below HB5.out).setOut HN7.out.1 HN7.out.2.1 HN7.out.2.2 1 (.string nm)
              have hS5 := (((((HS2.out.trans (RStep.of_below ((Below.refl _ _).alloc (Nat.le_refl _) _))).trans (RStep.of_below HB3.out)).setOut (b := w2.heap.size) (by omega) 2 (.int .u8 op)).setOut (b := w2.heap.size) (by omega) 3 (.bool false)).trans (RStep.of_below HB5.out)).setOut (b := w2.heap.size) (by omega) 1 (.string nm)
              have h75 : (w5.setCell ⟨w2.heap.size, 1, none⟩ (.string nm)).heap[w2.heap.size]? = some (.cells #[.int .u8 2, .string nm, .int .u8 op, .bool false, .int .i64 0, .int .i64 0] 137 (0, 0)) := by rw [blk_set HB75.out]; rfl
              have h45 : (w5.setCell ⟨w2.heap.size, 1, none⟩ (.string nm)).heap[w.heap.size]? = _ := set_blk (keep_blk HB5.out (set_blk (set_blk (keep_blk HB3.out (old_blk HB4'.out _)) _ _ (show w.heap.size ≠ w2.heap.size by omega)) _ _ (show w.heap.size ≠ w2.heap.size by omega))) _ _ (show w.heap.size ≠ w2.heap.size by omega)
              have hsz3 : w2.heap.size < w3.heap.size := blk_lt HB7.out
              have hi5 : Ints (w5.setCell ⟨w2.heap.size, 1, none⟩ (.string nm)) (fun b => b < lo) (fromV kb ko kids.length kc 3) (kids.drop 3) := HIF.out.imp fun b hD hlt => ⟨hD, (Below.heap_setCell _ _ _ _ (show b ≠ w2.heap.size by omega)).trans ((HB5.out.block b (by simp; omega)).trans ((Below.heap_setCell _ _ _ _ (show b ≠ w2.heap.size by omega)).trans ((Below.heap_setCell _ _ _ _ (show b ≠ w2.heap.size by omega)).trans ((HB3.out.block b (by simp; omega)).trans (Below.heap_alloc w2 _ b hlt)))))⟩
              generalize w5.setCell ⟨w2.heap.size, 1, none⟩ (.string nm) = w6 at hX5 hS5 h75 h45 hi5 ⊢
              refine (parts_any l hwf f w6 lo rb S Z p hX5 (kids.drop 3) _ hi5 HDL.out HKD1.out HCN.out).mono ?_
              rintro e w7 he
              rw [HPP.out] at he
              obtain ⟨rfl, S', Z', hX6, hSt6⟩ := he
              have f7 := hX5.fresh hS5 hSt6 (blk_lt h75) HN7.out.2.1 HN7.out.2.2
              have f4 := hX5.fresh hS5 hSt6 (blk_lt h45) HN4.out.2.1 HN4.out.2.2
              have h76 := f7.2.2.trans h75
              have h46 := f4.2.2.trans h45
              have HX6 := hid hX6; have HST := hid (hS5.trans hSt6); have HF4 := hid f4; have HF7 := hid f7
              clear hX6 hX5 hS5 hSt6 f4 f7 h75 h45 hi5 u1 uf z2 z3 zf d0 d2
              have x0 := blk_cell h76 0; have x1 := blk_cell h76 1; have x2 := blk_cell h76 2; have x3 := blk_cell h76 3; have x4 := blk_cell h76 4; have x5 := blk_cell h76 5; have xf := blk_free h76
              have y0 := blk_cell h46 0; have y1 := blk_cell h46 1; have y2 := blk_cell h46 2; have y3 := blk_cell h46 3; have y4 := blk_cell h46 4; have y5 := blk_cell h46 5; have yf := blk_free h46
              clear h76 h46
              go_wp2
              refine bodyPost_ret (v := .agg #[.int .u8 2, .string nm, .int .u8 op, .bool false, .int .i64 ev, .int .i64 cv]) (by simp [results, Try.results65, go_sem, x0, x1, x2, x3, x4, x5, y0, y1, y2, y3, y4, y5]) rfl ?_
              refine AP.ok (S' := S') (Z' := Z') (k := { kind := 2, name := nm, op := op, inn := false, e := ev, cond := cv }) HA.out ?_ ?_
              · refine RX.setOut ?_ HN4.out.1 HF4.out.1 HF4.out.2.1 _ _
                refine RX.setOut ?_ HN4.out.1 HF4.out.1 HF4.out.2.1 _ _
                refine RX.setOut ?_ HN4.out.1 HF4.out.1 HF4.out.2.1 _ _
                refine RX.setOut ?_ HN4.out.1 HF4.out.1 HF4.out.2.1 _ _
                refine RX.setOut ?_ HN4.out.1 HF4.out.1 HF4.out.2.1 _ _
                refine RX.setOut ?_ HN4.out.1 HF4.out.1 HF4.out.2.1 _ _
                refine RX.setOut ?_ HN7.out.1 HF7.out.1 HF7.out.2.1 _ _
                refine RX.setOut ?_ HN7.out.1 HF7.out.1 HF7.out.2.1 _ _
                exact HX6.out
              · refine RStep.setOut ?_ (Nat.le_refl _) _ _
                refine RStep.setOut ?_ (Nat.le_refl _) _ _
                refine RStep.setOut ?_ (Nat.le_refl _) _ _
                refine RStep.setOut ?_ (Nat.le_refl _) _ _
                refine RStep.setOut ?_ (Nat.le_refl _) _ _
                refine RStep.setOut ?_ (Nat.le_refl _) _ _
                refine RStep.setOut ?_ (by omega) _ _
                refine RStep.setOut ?_ (by omega) _ _
                exact HST.out
          · rw [hpp] at hA
            simp only at hA
            have HA := hid hA; have HPP := hid hpp
            clear hA hpp
            rcases hcb.out with hc3 | ⟨hc3, hc4⟩
            all_goals
              go_wp2_with fail; refine (taking_any l rb _ _ (by exact (HX2.out.below ((Below.refl _ _).alloc (Nat.le_refl _) _)).rf) n k1 hn hk1l).mono ?_; rintro e w3 ⟨he, hb3⟩; unfold TakeP at he; rw [if_pos HTK.out, HOP.out] at he; subst he; have hb7 := keep_blk hb3 (new_blk w2 _); have z2 := blk_cell hb7 2; have z3 := blk_cell hb7 3; have zf := blk_free hb7; have d2 := (hb3.cell (p := ⟨kb, ko + 2, none⟩) (show kb < (w2.alloc _).heap.size by rw [World.size_alloc]; omega)).trans ((World.cell?_of_block (a := ⟨kb, ko + 2, none⟩) (Below.heap_alloc w2 _ kb hkb2)).trans hc2); have d0 := (hb3.cell (p := ⟨kb, ko, none⟩) (show kb < (w2.alloc _).heap.size by rw [World.size_alloc]; omega)).trans ((World.cell?_of_block (a := ⟨kb, ko, none⟩) (Below.heap_alloc w2 _ kb hkb2)).trans hc0); have hkn : kb ≠ w2.heap.size := (by omega); have HB7 := hid hb7; have HB3 := hid hb3; clear hb7 hb3
              go_wp2_with (first | (go_at_call 86; refine (says_any l rb _ _ (by exact (((HX2.out.below ((Below.refl _ _).alloc (Nat.le_refl _) _)).below HB3.out).setOut HN7.out.1 HN7.out.2.1 HN7.out.2.2 2 (.int .u8 op)).rf) k2 hk2l _).mono ?_; rintro e w' ⟨rfl, hww⟩; subst hww; rw [show saysS l (k2 : Int) ⟨#[105, 110]⟩ = false from HBI.out]) | (go_at_call 86; refine (says_any l rb _ _ (by exact ((((HX2.out.below ((Below.refl _ _).alloc (Nat.le_refl _) _)).below HB3.out).setOut HN7.out.1 HN7.out.2.1 HN7.out.2.2 2 (.int .u8 op)).setOut HN7.out.1 HN7.out.2.1 HN7.out.2.2 3 (.bool false)).rf) k2 hk2l _).mono ?_; rintro e w' ⟨rfl, hww⟩; subst hww; rw [show saysS l (k2 : Int) ⟨#[111, 117, 116]⟩ = true from HBO.out]) | (go_at_call 40; refine (need_true _ _ _).mono ?_; rintro e w' ⟨rfl, hww⟩; subst hww) | (go_at_call 41; refine (name_yes l rb _ _ (by exact ((((HX2.out.below ((Below.refl _ _).alloc (Nat.le_refl _) _)).below HB3.out).setOut HN7.out.1 HN7.out.2.1 HN7.out.2.2 2 (.int .u8 op)).setOut HN7.out.1 HN7.out.2.1 HN7.out.2.2 3 (.bool false)).rf) k0 hk0l HNO.out).mono ?_; rintro e w5 ⟨rfl, hb5⟩; rw [HNM.out]; have hb75 := keep_blk hb5 (blk_set (blk_set HB7.out (.int .u8 op)) (.bool false)); have u1 := blk_cell hb75 1; have uf := blk_free hb75; have HB75 := hid hb75; have HB5 := hid hb5; clear hb75 hb5))
              have hX5 := (((((HX2.out.below ((Below.refl _ _).alloc (Nat.le_refl _) _)).below HB3.out).setOut HN7.out.1 HN7.out.2.1 HN7.out.2.2 2 (.int .u8 op)).setOut HN7.out.1 HN7.out.2.1 HN7.out.2.2 3 (.bool false)).below HB5.out).setOut HN7.out.1 HN7.out.2.1 HN7.out.2.2 1 (.string nm)
              have hS5 := (((((HS2.out.trans (RStep.of_below ((Below.refl _ _).alloc (Nat.le_refl _) _))).trans (RStep.of_below HB3.out)).setOut (b := w2.heap.size) (by omega) 2 (.int .u8 op)).setOut (b := w2.heap.size) (by omega) 3 (.bool false)).trans (RStep.of_below HB5.out)).setOut (b := w2.heap.size) (by omega) 1 (.string nm)
              have h75 : (w5.setCell ⟨w2.heap.size, 1, none⟩ (.string nm)).heap[w2.heap.size]? = some (.cells #[.int .u8 2, .string nm, .int .u8 op, .bool false, .int .i64 0, .int .i64 0] 137 (0, 0)) := by rw [blk_set HB75.out]; rfl
              have h45 : (w5.setCell ⟨w2.heap.size, 1, none⟩ (.string nm)).heap[w.heap.size]? = _ := set_blk (keep_blk HB5.out (set_blk (set_blk (keep_blk HB3.out (old_blk HB4'.out _)) _ _ (show w.heap.size ≠ w2.heap.size by omega)) _ _ (show w.heap.size ≠ w2.heap.size by omega))) _ _ (show w.heap.size ≠ w2.heap.size by omega)
              have hsz3 : w2.heap.size < w3.heap.size := blk_lt HB7.out
              have hi5 : Ints (w5.setCell ⟨w2.heap.size, 1, none⟩ (.string nm)) (fun b => b < lo) (fromV kb ko kids.length kc 3) (kids.drop 3) := HIF.out.imp fun b hD hlt => ⟨hD, (Below.heap_setCell _ _ _ _ (show b ≠ w2.heap.size by omega)).trans ((HB5.out.block b (by simp; omega)).trans ((Below.heap_setCell _ _ _ _ (show b ≠ w2.heap.size by omega)).trans ((Below.heap_setCell _ _ _ _ (show b ≠ w2.heap.size by omega)).trans ((HB3.out.block b (by simp; omega)).trans (Below.heap_alloc w2 _ b hlt)))))⟩
              generalize w5.setCell ⟨w2.heap.size, 1, none⟩ (.string nm) = w6 at hX5 hS5 h75 h45 hi5 ⊢
              refine (parts_any l hwf f w6 lo rb S Z p hX5 (kids.drop 3) _ hi5 HDL.out HKD1.out HCN.out).mono ?_
              rintro e w7 he
              rw [HPP.out] at he
              obtain ⟨rfl, hBp⟩ := he
              exact ⟨rfl, AP.no HA.out ((RStep.below H.out hS5).trans hBp)⟩
        · rw [if_neg hno] at hA
          have hno' : nameOk l (k0 : Int) = false := by simpa using hno
          have HNO := hid hno'; have HA := hid hA
          clear hno hno' hA
          rcases hcb.out with hc3 | ⟨hc3, hc4⟩
          all_goals
            go_wp2_with fail; refine (taking_any l rb _ _ (by exact (HX2.out.below ((Below.refl _ _).alloc (Nat.le_refl _) _)).rf) n k1 hn hk1l).mono ?_; rintro e w3 ⟨he, hb3⟩; unfold TakeP at he; rw [if_pos HTK.out, HOP.out] at he; subst he; have hb7 := keep_blk hb3 (new_blk w2 _); have z2 := blk_cell hb7 2; have z3 := blk_cell hb7 3; have zf := blk_free hb7; have d2 := (hb3.cell (p := ⟨kb, ko + 2, none⟩) (show kb < (w2.alloc _).heap.size by rw [World.size_alloc]; omega)).trans ((World.cell?_of_block (a := ⟨kb, ko + 2, none⟩) (Below.heap_alloc w2 _ kb hkb2)).trans hc2); have d0 := (hb3.cell (p := ⟨kb, ko, none⟩) (show kb < (w2.alloc _).heap.size by rw [World.size_alloc]; omega)).trans ((World.cell?_of_block (a := ⟨kb, ko, none⟩) (Below.heap_alloc w2 _ kb hkb2)).trans hc0); have hkn : kb ≠ w2.heap.size := (by omega); have HB7 := hid hb7; have HB3 := hid hb3; clear hb7 hb3
            go_wp2_with (first | (go_at_call 86; refine (says_any l rb _ _ (by exact (((HX2.out.below ((Below.refl _ _).alloc (Nat.le_refl _) _)).below HB3.out).setOut HN7.out.1 HN7.out.2.1 HN7.out.2.2 2 (.int .u8 op)).rf) k2 hk2l _).mono ?_; rintro e w' ⟨rfl, hww⟩; subst hww; rw [show saysS l (k2 : Int) ⟨#[105, 110]⟩ = false from HBI.out]) | (go_at_call 86; refine (says_any l rb _ _ (by exact ((((HX2.out.below ((Below.refl _ _).alloc (Nat.le_refl _) _)).below HB3.out).setOut HN7.out.1 HN7.out.2.1 HN7.out.2.2 2 (.int .u8 op)).setOut HN7.out.1 HN7.out.2.1 HN7.out.2.2 3 (.bool false)).rf) k2 hk2l _).mono ?_; rintro e w' ⟨rfl, hww⟩; subst hww; rw [show saysS l (k2 : Int) ⟨#[111, 117, 116]⟩ = true from HBO.out]) | (go_at_call 40; refine (need_true _ _ _).mono ?_; rintro e w' ⟨rfl, hww⟩; subst hww) | (go_at_call 41; refine (name_no l rb _ _ (by exact ((((HX2.out.below ((Below.refl _ _).alloc (Nat.le_refl _) _)).below HB3.out).setOut HN7.out.1 HN7.out.2.1 HN7.out.2.2 2 (.int .u8 op)).setOut HN7.out.1 HN7.out.2.1 HN7.out.2.2 3 (.bool false)).rf) k0 hk0l HNO.out).mono ?_; rintro e w5 ⟨rfl, hb5⟩))
            exact ⟨rfl, AP.no HA.out ((RStep.below H.out ((((HS2.out.trans (RStep.of_below ((Below.refl _ _).alloc (Nat.le_refl _) _))).trans (RStep.of_below HB3.out)).setOut (b := w2.heap.size) (by omega) 2 (.int .u8 op)).setOut (b := w2.heap.size) (by omega) 3 (.bool false))).trans (hb5.mono (by have := ((((HX2.out.below ((Below.refl _ _).alloc (Nat.le_refl _) _)).below HB3.out).setOut HN7.out.1 HN7.out.2.1 HN7.out.2.2 2 (.int .u8 op)).setOut HN7.out.1 HN7.out.2.1 HN7.out.2.2 3 (.bool false)).size.2; exact this)))⟩
      · have hbo' : saysS l (k2 : Int) wOut = false := by simpa using hbo
        rw [if_neg (by rw [hbi', hbo']; simp)] at hA
        have HBI := hid hbi'; have HBO := hid hbo'; have HA := hid hA
        clear hbi hbi' hbo hbo' hA
        rcases hcb.out with hc3 | ⟨hc3, hc4⟩
        all_goals
          go_wp2_with fail; refine (taking_any l rb _ _ (by exact (HX2.out.below ((Below.refl _ _).alloc (Nat.le_refl _) _)).rf) n k1 hn hk1l).mono ?_; rintro e w3 ⟨he, hb3⟩; unfold TakeP at he; rw [if_pos HTK.out, HOP.out] at he; subst he; have hb7 := keep_blk hb3 (new_blk w2 _); have z2 := blk_cell hb7 2; have z3 := blk_cell hb7 3; have zf := blk_free hb7; have d2 := (hb3.cell (p := ⟨kb, ko + 2, none⟩) (show kb < (w2.alloc _).heap.size by rw [World.size_alloc]; omega)).trans ((World.cell?_of_block (a := ⟨kb, ko + 2, none⟩) (Below.heap_alloc w2 _ kb hkb2)).trans hc2); have d0 := (hb3.cell (p := ⟨kb, ko, none⟩) (show kb < (w2.alloc _).heap.size by rw [World.size_alloc]; omega)).trans ((World.cell?_of_block (a := ⟨kb, ko, none⟩) (Below.heap_alloc w2 _ kb hkb2)).trans hc0); have hkn : kb ≠ w2.heap.size := (by omega); have HB7 := hid hb7; have HB3 := hid hb3; clear hb7 hb3
          go_wp2_with (first | (go_at_call 86; refine (says_any l rb _ _ (by exact (((HX2.out.below ((Below.refl _ _).alloc (Nat.le_refl _) _)).below HB3.out).setOut HN7.out.1 HN7.out.2.1 HN7.out.2.2 2 (.int .u8 op)).rf) k2 hk2l _).mono ?_; rintro e w' ⟨rfl, hww⟩; subst hww; rw [show saysS l (k2 : Int) ⟨#[105, 110]⟩ = false from HBI.out]) | (go_at_call 86; refine (says_any l rb _ _ (by exact ((((HX2.out.below ((Below.refl _ _).alloc (Nat.le_refl _) _)).below HB3.out).setOut HN7.out.1 HN7.out.2.1 HN7.out.2.2 2 (.int .u8 op)).setOut HN7.out.1 HN7.out.2.1 HN7.out.2.2 3 (.bool false)).rf) k2 hk2l _).mono ?_; rintro e w' ⟨rfl, hww⟩; subst hww; rw [show saysS l (k2 : Int) ⟨#[111, 117, 116]⟩ = false from HBO.out]) | (go_at_call 40; refine (need_false l rb _ _ (by exact ((((HX2.out.below ((Below.refl _ _).alloc (Nat.le_refl _) _)).below HB3.out).setOut HN7.out.1 HN7.out.2.1 HN7.out.2.2 2 (.int .u8 op)).setOut HN7.out.1 HN7.out.2.1 HN7.out.2.2 3 (.bool false)).rf) n hn).mono ?_; rintro e w' ⟨rfl, hww⟩; subst hww))
          exact ⟨rfl, AP.no HA.out (RStep.below H.out ((((HS2.out.trans (RStep.of_below ((Below.refl _ _).alloc (Nat.le_refl _) _))).trans (RStep.of_below HB3.out)).setOut (b := w2.heap.size) (by omega) 2 (.int .u8 op)).setOut (b := w2.heap.size) (by omega) 3 (.bool false)))⟩
  · rw [if_neg htk] at hA
    have HTK := hid htk; have HA := hid hA
    clear htk hA
    rcases hcb.out with hc3 | ⟨hc3, hc4⟩
    all_goals
      go_wp2_with fail
      refine (taking_any l rb _ _ (by exact (HX2.out.below ((Below.refl _ _).alloc (Nat.le_refl _) _)).rf) n k1 hn hk1l).mono ?_
      rintro e w3 ⟨he, hb3⟩
      unfold TakeP at he
      rw [if_neg HTK.out] at he
      subst he
      exact ⟨rfl, AP.no HA.out (((RStep.below H.out HS2.out).trans ((Below.refl _ _).alloc HN7.out.1 _)).trans (hb3.mono (by have := HN7.out.1; simp; omega)))⟩
end Go.Proofs.Ytgaginegcjpddaa
