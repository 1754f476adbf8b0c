/- The program's reader of forms: acts along edges: pull. -/
import Derived.Test.YtgaginegcjpddaaQt6
set_option linter.unusedVariables false
set_option linter.unusedSimpArgs false
namespace Go.Proofs.Ytgaginegcjpddaa
open Go.RowKit
set_option maxHeartbeats 4000000 in
set_option maxRecDepth 100000 in
theorem act_pull (l : List Form) (hwf : WF l) (f : Nat) (w : World) (lo rb : Nat) (S : Nat → Value) (Z : Nat → Prop) (p : Prg) (h : RX w l lo rb S Z p) (n : Nat) (hn : n < l.length) (hkr : ∀ k ∈ tailK l (n : Int), Kin l f k) (hcnt : p.exprs.length + cntL l f (tailK l (n : Int)) ≤ 99999)
    (hsp : splitOk l (n : Int) = true) (hw : headW l (n : Int) = wPull) (hc : (tailK l (n : Int)).length = 4) :
    Calls Try.prog 65 #[.pointer (some ⟨rb, 0, none⟩), .int .i64 (n : Int)] w (AP w l lo rb S Z p (alongS l f (n : Int) 3 p.exprs)) := by
  have hB0 : Below w.heap.size w (w.alloc (.cells #[.int .u8 0, .string ⟨#[]⟩, .int .u8 0, .bool false, .int .i64 0, .int .i64 0] 137 (0, 0))) := (Below.refl _ _).alloc (Nat.le_refl _) _
  have hb4 := new_blk w (.cells #[.int .u8 0, .string ⟨#[]⟩, .int .u8 0, .bool false, .int .i64 0, .int .i64 0] 137 (0, 0))
  have h1 := h.below hB0
  have hA : alongS l f (n : Int) 3 p.exprs = alongS l f (n : Int) 3 p.exprs := rfl
  conv at hA => rhs; unfold alongS
  obtain ⟨kids, hkd⟩ : ∃ kids, tailK l (n : Int) = kids := ⟨_, rfl⟩
  rw [hkd] at hkr hcnt hc hA
  have hlow := h.size.2
  have H := hid h; have H1 := hid h1; have HB4 := hid hb4; have HB0 := hid hB0; have HSP := hid hsp; have HW := hid hw; have HKD := hid hkd; have HKR := hid hkr; have HC := hid hc
  have HA0 := hid hA
  clear h h1 hb4 hB0 hsp hw hkd hkr hc hA
  go_enter Try.func65, Try.ntmps65
  go_upto_region 2 with (go_at_call 37; refine (split_yes l hwf rb _ _ (by exact H1.out.rf) n hn HSP.out).mono ?_; rintro e w2 ⟨tv, rfl, htv, hb2⟩; rw [HW.out]; rw [HKD.out] at htv)
  have hX2 := H1.out.below hb2
  have hS2 := (RStep.of_below (rb := rb) (S := S) (Z := Z) HB0.out).trans (RStep.of_below (rb := rb) (S := S) (Z := Z) hb2)
  have hb4 := keep_blk hb2 HB4.out
  have hz2 := hb2.size
  simp only [World.size_alloc] at hz2
  have hl2 : 4 ≤ kids.length ∧ kids.length ≤ 5 := by have := HC.out; omega
  obtain ⟨kb, ko, kc, rfl, hle, hcap, hkD, hkb, hc0⟩ := htv.at_ 0 (by omega)
  obtain ⟨kb1, ko1, kc1, he1, _, _, _, _, hc1⟩ := htv.at_ 1 (by omega)
  simp only [Value.slice.injEq] at he1
  obtain ⟨he1, _, rfl⟩ := he1
  cases he1
  obtain ⟨kb1, ko1, kc1, he1, _, _, _, _, hc2⟩ := htv.at_ 2 (by omega)
  simp only [Value.slice.injEq] at he1
  obtain ⟨he1, _, rfl⟩ := he1
  cases he1
  obtain ⟨k0, hk0, hk0l, hk0f⟩ := HKR.out _ (nth_mem (i := 0) (by omega))
  obtain ⟨k1, hk1, hk1l, hk1f⟩ := HKR.out _ (nth_mem (i := 1) (by omega))
  obtain ⟨k2, hk2, hk2l, hk2f⟩ := HKR.out _ (nth_mem (i := 2) (by omega))
  rw [hk0, Nat.add_zero] at hc0
  rw [hk1] at hc1
  rw [hk2] at hc2
  have hsl := fun W => slice_from W kb ko kids.length kc 3 (by omega) hle 3 rfl
  have hif : Ints w2 (fun b => b < lo) (fromV kb ko kids.length kc 3) (kids.drop 3) := htv.from (by omega)
  have hw0 : (wPull.toList == [112, 117, 116]) = false := by rw [ByteArray.toList_eq]; rfl
  have hw1 : (wPull.toList == [112, 117, 115, 104]) = false := by rw [ByteArray.toList_eq]; rfl
  have hw2 : (wPull.toList == [112, 117, 108, 108]) = true := by rw [ByteArray.toList_eq]; rfl
  have hcb : Hid (((kids.length : Int) == 4) = true) := hid (by
    have := HC.out
    rw [beq_iff_eq]; omega)
  have hpos : (2 : Int) < (kids.length : Int) := by omega
  have hn7 := hX2.new_ (b := w2.heap.size) (Nat.le_refl _)
  have hn4 := H.out.new_ (b := w.heap.size) (Nat.le_refl _)
  have hcnl : p.exprs.length + cntL l f (kids.drop 3) ≤ 99999 := by have := cntL_drop l f kids 3; omega
  have hdl : 0 < (kids.drop 3).length := by rw [List.length_drop]; omega
  have hkd1 : ∀ k ∈ kids.drop 3, Kin l f k := fun k hk => HKR.out k (List.mem_of_mem_drop hk)
  have hA := HA0.out
  unfold actBody at hA
  rw [hk0, hk1, hk2] at hA
  have HX2 := hid hX2; have HS2 := hid hS2; have HB4' := hid hb4; have HIF := hid hif; have HN7 := hid hn7; have HN4 := hid hn4; have HCN := hid hcnl; have HDL := hid hdl; have HKD1 := hid hkd1; have HZ2 := hid hz2; have HK0 := hid hk0; have HLO := hid hlow
  have hkb2 : kb < w2.heap.size := hkb
  have hne : w.heap.size < w2.heap.size := by omega
  have hi0 : (1 : Int) < (kids.length : Int) := by omega
  have hi1 : (0 : Int) < (kids.length : Int) := by omega
  clear hX2 hS2 hb4 hif hn7 hn4 hcnl hdl hkd1 hz2 hk0 hk1 hk2 hb2 htv HB0 HB4 H1 HKD HC hcnt hlow hl2 HA0
  obtain ⟨op, hop⟩ : ∃ op, takingOp l (k1 : Int) = op := ⟨_, rfl⟩
  rw [hop] at hA
  have HOP := hid hop
  clear hop
  by_cases htk : takingOk l (k1 : Int) = true
  · rw [if_pos htk] at hA
    have HTK := hid htk
    clear htk
    by_cases hbi : saysS l (k2 : Int) wIn = true
    · rw [if_pos (by rw [hbi]; rfl), hbi] at hA
      have HBI := hid hbi
      clear hbi
      by_cases hno : nameOk l (k0 : Int) = true
      · rw [if_pos hno] at hA
        have HNO := hid hno
        clear hno
        obtain ⟨nm, hnm⟩ : ∃ nm, (fm l (k0 : Int)).text = nm := ⟨_, rfl⟩
        rw [hnm] at hA
        have HNM := hid hnm
        clear hnm
        rcases hpp : partsS l f (kids.drop 3) p.exprs with ⟨⟨ev, cv⟩, es1⟩ | wr
        · rw [hpp] at hA
          simp only at hA
          have HA := hid hA; have HPP := hid hpp
          clear hA hpp
          have hc3 := hcb.out
          all_goals
            go_wp2_with fail; refine (taking_any l rb _ _ (by exact (HX2.out.below ((Below.refl _ _).alloc (Nat.le_refl _) _)).rf) n k1 hn hk1l).mono ?_; rintro e w3 ⟨he, hb3⟩; unfold TakeP at he; rw [if_pos HTK.out, HOP.out] at he; subst he; have hb7 := keep_blk hb3 (new_blk w2 _); have z2 := blk_cell hb7 2; have z3 := blk_cell hb7 3; have zf := blk_free hb7; have d2 := (hb3.cell (p := ⟨kb, ko + 2, none⟩) (show kb < (w2.alloc _).heap.size by rw [World.size_alloc]; omega)).trans ((World.cell?_of_block (a := ⟨kb, ko + 2, none⟩) (Below.heap_alloc w2 _ kb hkb2)).trans hc2); have d0 := (hb3.cell (p := ⟨kb, ko, none⟩) (show kb < (w2.alloc _).heap.size by rw [World.size_alloc]; omega)).trans ((World.cell?_of_block (a := ⟨kb, ko, none⟩) (Below.heap_alloc w2 _ kb hkb2)).trans hc0); have hkn : kb ≠ w2.heap.size := (by omega); have HB7 := hid hb7; have HB3 := hid hb3; clear hb7 hb3
            go_wp2_with (first | (go_at_call 86; refine (says_any l rb _ _ (by exact (((HX2.out.below ((Below.refl _ _).alloc (Nat.le_refl _) _)).below HB3.out).setOut HN7.out.1 HN7.out.2.1 HN7.out.2.2 2 (.int .u8 op)).rf) k2 hk2l _).mono ?_; rintro e w' ⟨rfl, hww⟩; subst hww; rw [show saysS l (k2 : Int) ⟨#[105, 110]⟩ = true from HBI.out]) | (go_at_call 40; refine (need_true _ _ _).mono ?_; rintro e w' ⟨rfl, hww⟩; subst hww) | (go_at_call 41; refine (name_yes l rb _ _ (by exact ((((HX2.out.below ((Below.refl _ _).alloc (Nat.le_refl _) _)).below HB3.out).setOut HN7.out.1 HN7.out.2.1 HN7.out.2.2 2 (.int .u8 op)).setOut HN7.out.1 HN7.out.2.1 HN7.out.2.2 3 (.bool true)).rf) k0 hk0l HNO.out).mono ?_; rintro e w5 ⟨rfl, hb5⟩; rw [HNM.out]; have hb75 := keep_blk hb5 (blk_set (blk_set HB7.out (.int .u8 op)) (.bool true)); have u1 := blk_cell hb75 1; have uf := blk_free hb75; have HB75 := hid hb75; have HB5 := hid hb5; clear hb75 hb5))
            have hX5 := (((((HX2.out.below ((Below.refl _ _).alloc (Nat.le_refl _) _)).below HB3.out).setOut HN7.out.1 HN7.out.2.1 HN7.out.2.2 2 (.int .u8 op)).setOut HN7.out.1 HN7.out.2.1 HN7.out.2.2 3 (.bool true)).below HB5.out).setOut HN7.out.1 HN7.out.2.1 HN7.out.2.2 1 (.string nm)
            have hS5 := (((((HS2.out.trans (RStep.of_below ((Below.refl _ _).alloc (Nat.le_refl _) _))).trans (RStep.of_below HB3.out)).setOut (b := w2.heap.size) (by omega) 2 (.int .u8 op)).setOut (b := w2.heap.size) (by omega) 3 (.bool true)).trans (RStep.of_below HB5.out)).setOut (b := w2.heap.size) (by omega) 1 (.string nm)
            have h75 : (w5.setCell ⟨w2.heap.size, 1, none⟩ (.string nm)).heap[w2.heap.size]? = some (.cells #[.int .u8 3, .string nm, .int .u8 op, .bool true, .int .i64 0, .int .i64 0] 137 (0, 0)) := by rw [blk_set HB75.out]; rfl
            have h45 : (w5.setCell ⟨w2.heap.size, 1, none⟩ (.string nm)).heap[w.heap.size]? = _ := set_blk (keep_blk HB5.out (set_blk (set_blk (keep_blk HB3.out (old_blk HB4'.out _)) _ _ (show w.heap.size ≠ w2.heap.size by omega)) _ _ (show w.heap.size ≠ w2.heap.size by omega))) _ _ (show w.heap.size ≠ w2.heap.size by omega)
            have hsz3 : w2.heap.size < w3.heap.size := blk_lt HB7.out
            have hi5 : Ints (w5.setCell ⟨w2.heap.size, 1, none⟩ (.string nm)) (fun b => b < lo) (fromV kb ko kids.length kc 3) (kids.drop 3) := HIF.out.imp fun b hD hlt => ⟨hD, (Below.heap_setCell _ _ _ _ (show b ≠ w2.heap.size by omega)).trans ((HB5.out.block b (by simp; omega)).trans ((Below.heap_setCell _ _ _ _ (show b ≠ w2.heap.size by omega)).trans ((Below.heap_setCell _ _ _ _ (show b ≠ w2.heap.size by omega)).trans ((HB3.out.block b (by simp; omega)).trans (Below.heap_alloc w2 _ b hlt)))))⟩
            generalize w5.setCell ⟨w2.heap.size, 1, none⟩ (.string nm) = w6 at hX5 hS5 h75 h45 hi5 ⊢
            refine (parts_any l hwf f w6 lo rb S Z p hX5 (kids.drop 3) _ hi5 HDL.out HKD1.out HCN.out).mono ?_
            rintro e w7 he
            rw [HPP.out] at he
            obtain ⟨rfl, S', Z', hX6, hSt6⟩ := he
            have f7 := hX5.fresh hS5 hSt6 (blk_lt h75) HN7.out.2.1 HN7.out.2.2
            have f4 := hX5.fresh hS5 hSt6 (blk_lt h45) HN4.out.2.1 HN4.out.2.2
            have h76 := f7.2.2.trans h75
            have h46 := f4.2.2.trans h45
            have HX6 := hid hX6; have HST := hid (hS5.trans hSt6); have HF4 := hid f4; have HF7 := hid f7
            clear hX6 hX5 hS5 hSt6 f4 f7 h75 h45 hi5 u1 uf z2 z3 zf d0 d2
            have x0 := blk_cell h76 0; have x1 := blk_cell h76 1; have x2 := blk_cell h76 2; have x3 := blk_cell h76 3; have x4 := blk_cell h76 4; have x5 := blk_cell h76 5; have xf := blk_free h76
            have y0 := blk_cell h46 0; have y1 := blk_cell h46 1; have y2 := blk_cell h46 2; have y3 := blk_cell h46 3; have y4 := blk_cell h46 4; have y5 := blk_cell h46 5; have yf := blk_free h46
            clear h76 h46
            go_wp2
            refine bodyPost_ret (v := .agg #[.int .u8 3, .string nm, .int .u8 op, .bool true, .int .i64 ev, .int .i64 cv]) (by simp [results, Try.results65, go_sem, x0, x1, x2, x3, x4, x5, y0, y1, y2, y3, y4, y5]) rfl ?_
            refine AP.ok (S' := S') (Z' := Z') (k := { kind := 3, name := nm, op := op, inn := true, e := ev, cond := cv }) HA.out ?_ ?_
            · refine RX.setOut ?_ HN4.out.1 HF4.out.1 HF4.out.2.1 _ _
              refine RX.setOut ?_ HN4.out.1 HF4.out.1 HF4.out.2.1 _ _
              refine RX.setOut ?_ HN4.out.1 HF4.out.1 HF4.out.2.1 _ _
              refine RX.setOut ?_ HN4.out.1 HF4.out.1 HF4.out.2.1 _ _
              refine RX.setOut ?_ HN4.out.1 HF4.out.1 HF4.out.2.1 _ _
              refine RX.setOut ?_ HN4.out.1 HF4.out.1 HF4.out.2.1 _ _
              refine RX.setOut ?_ HN7.out.1 HF7.out.1 HF7.out.2.1 _ _
              refine RX.setOut ?_ HN7.out.1 HF7.out.1 HF7.out.2.1 _ _
              exact HX6.out
            · refine RStep.setOut ?_ (Nat.le_refl _) _ _
              refine RStep.setOut ?_ (Nat.le_refl _) _ _
              refine RStep.setOut ?_ (Nat.le_refl _) _ _
              refine RStep.setOut ?_ (Nat.le_refl _) _ _
              refine RStep.setOut ?_ (Nat.le_refl _) _ _
              refine RStep.setOut ?_ (Nat.le_refl _) _ _
              refine RStep.setOut ?_ (by omega) _ _
              refine RStep.setOut ?_ (by omega) _ _
              exact HST.out
        · rw [hpp] at hA
          simp only at hA
          have HA := hid hA; have HPP := hid hpp
          clear hA hpp
          have hc3 := hcb.out
          all_goals
            go_wp2_with fail; refine (taking_any l rb _ _ (by exact (HX2.out.below ((Below.refl _ _).alloc (Nat.le_refl _) _)).rf) n k1 hn hk1l).mono ?_; rintro e w3 ⟨he, hb3⟩; unfold TakeP at he; rw [if_pos HTK.out, HOP.out] at he; subst he; have hb7 := keep_blk hb3 (new_blk w2 _); have z2 := blk_cell hb7 2; have z3 := blk_cell hb7 3; have zf := blk_free hb7; have d2 := (hb3.cell (p := ⟨kb, ko + 2, none⟩) (show kb < (w2.alloc _).heap.size by rw [World.size_alloc]; omega)).trans ((World.cell?_of_block (a := ⟨kb, ko + 2, none⟩) (Below.heap_alloc w2 _ kb hkb2)).trans hc2); have d0 := (hb3.cell (p := ⟨kb, ko, none⟩) (show kb < (w2.alloc _).heap.size by rw [World.size_alloc]; omega)).trans ((World.cell?_of_block (a := ⟨kb, ko, none⟩) (Below.heap_alloc w2 _ kb hkb2)).trans hc0); have hkn : kb ≠ w2.heap.size := (by omega); have HB7 := hid hb7; have HB3 := hid hb3; clear hb7 hb3
            go_wp2_with (first | (go_at_call 86; refine (says_any l rb _ _ (by exact (((HX2.out.below ((Below.refl _ _).alloc (Nat.le_refl _) _)).below HB3.out).setOut HN7.out.1 HN7.out.2.1 HN7.out.2.2 2 (.int .u8 op)).rf) k2 hk2l _).mono ?_; rintro e w' ⟨rfl, hww⟩; subst hww; rw [show saysS l (k2 : Int) ⟨#[105, 110]⟩ = true from HBI.out]) | (go_at_call 40; refine (need_true _ _ _).mono ?_; rintro e w' ⟨rfl, hww⟩; subst hww) | (go_at_call 41; refine (name_yes l rb _ _ (by exact ((((HX2.out.below ((Below.refl _ _).alloc (Nat.le_refl _) _)).below HB3.out).setOut HN7.out.1 HN7.out.2.1 HN7.out.2.2 2 (.int .u8 op)).setOut HN7.out.1 HN7.out.2.1 HN7.out.2.2 3 (.bool true)).rf) k0 hk0l HNO.out).mono ?_; rintro e w5 ⟨rfl, hb5⟩; rw [HNM.out]; have hb75 := keep_blk hb5 (blk_set (blk_set HB7.out (.int .u8 op)) (.bool true)); have u1 := blk_cell hb75 1; have uf := blk_free hb75; have HB75 := hid hb75; have HB5 := hid hb5; clear hb75 hb5))
            have hX5 := (((((HX2.out.below ((Below.refl _ _).alloc (Nat.le_refl _) _)).below HB3.out).setOut HN7.out.1 HN7.out.2.1 HN7.out.2.2 2 (.int .u8 op)).setOut HN7.out.1 HN7.out.2.1 HN7.out.2.2 3 (.bool true)).below HB5.out).setOut HN7.out.1 HN7.out.2.1 HN7.out.2.2 1 (.string nm)
            have hS5 := (((((HS2.out.trans (RStep.of_below ((Below.refl _ _).alloc (Nat.le_refl _) _))).trans (RStep.of_below HB3.out)).setOut (b := w2.heap.size) (by omega) 2 (.int .u8 op)).setOut (b := w2.heap.size) (by omega) 3 (.bool true)).trans (RStep.of_below HB5.out)).setOut (b := w2.heap.size) (by omega) 1 (.string nm)
            have h75 : (w5.setCell ⟨w2.heap.size, 1, none⟩ (.string nm)).heap[w2.heap.size]? = some (.cells #[.int .u8 3, .string nm, .int .u8 op, .bool true, .int .i64 0, .int .i64 0] 137 (0, 0)) := by rw [blk_set HB75.out]; rfl
            have h45 : (w5.setCell ⟨w2.heap.size, 1, none⟩ (.string nm)).heap[w.heap.size]? = _ := set_blk (keep_blk HB5.out (set_blk (set_blk (keep_blk HB3.out (old_blk HB4'.out _)) _ _ (show w.heap.size ≠ w2.heap.size by omega)) _ _ (show w.heap.size ≠ w2.heap.size by omega))) _ _ (show w.heap.size ≠ w2.heap.size by omega)
            have hsz3 : w2.heap.size < w3.heap.size := blk_lt HB7.out
            have hi5 : Ints (w5.setCell ⟨w2.heap.size, 1, none⟩ (.string nm)) (fun b => b < lo) (fromV kb ko kids.length kc 3) (kids.drop 3) := HIF.out.imp fun b hD hlt => ⟨hD, (Below.heap_setCell _ _ _ _ (show b ≠ w2.heap.size by omega)).trans ((HB5.out.block b (by simp; omega)).trans ((Below.heap_setCell _ _ _ _ (show b ≠ w2.heap.size by omega)).trans ((Below.heap_setCell _ _ _ _ (show b ≠ w2.heap.size by omega)).trans ((HB3.out.block b (by simp; omega)).trans (Below.heap_alloc w2 _ b hlt)))))⟩
            generalize w5.setCell ⟨w2.heap.size, 1, none⟩ (.string nm) = w6 at hX5 hS5 h75 h45 hi5 ⊢
            refine (parts_any l hwf f w6 lo rb S Z p hX5 (kids.drop 3) _ hi5 HDL.out HKD1.out HCN.out).mono ?_
            rintro e w7 he
            rw [HPP.out] at he
            obtain ⟨rfl, hBp⟩ := he
            exact ⟨rfl, AP.no HA.out ((RStep.below H.out hS5).trans hBp)⟩
      · rw [if_neg hno] at hA
        have hno' : nameOk l (k0 : Int) = false := by simpa using hno
        have HNO := hid hno'; have HA := hid hA
        clear hno hno' hA
        have hc3 := hcb.out
        all_goals
          go_wp2_with fail; refine (taking_any l rb _ _ (by exact (HX2.out.below ((Below.refl _ _).alloc (Nat.le_refl _) _)).rf) n k1 hn hk1l).mono ?_; rintro e w3 ⟨he, hb3⟩; unfold TakeP at he; rw [if_pos HTK.out, HOP.out] at he; subst he; have hb7 := keep_blk hb3 (new_blk w2 _); have z2 := blk_cell hb7 2; have z3 := blk_cell hb7 3; have zf := blk_free hb7; have d2 := (hb3.cell (p := ⟨kb, ko + 2, none⟩) (show kb < (w2.alloc _).heap.size by rw [World.size_alloc]; omega)).trans ((World.cell?_of_block (a := ⟨kb, ko + 2, none⟩) (Below.heap_alloc w2 _ kb hkb2)).trans hc2); have d0 := (hb3.cell (p := ⟨kb, ko, none⟩) (show kb < (w2.alloc _).heap.size by rw [World.size_alloc]; omega)).trans ((World.cell?_of_block (a := ⟨kb, ko, none⟩) (Below.heap_alloc w2 _ kb hkb2)).trans hc0); have hkn : kb ≠ w2.heap.size := (by omega); have HB7 := hid hb7; have HB3 := hid hb3; clear hb7 hb3
          go_wp2_with (first | (go_at_call 86; refine (says_any l rb _ _ (by exact (((HX2.out.below ((Below.refl _ _).alloc (Nat.le_refl _) _)).below HB3.out).setOut HN7.out.1 HN7.out.2.1 HN7.out.2.2 2 (.int .u8 op)).rf) k2 hk2l _).mono ?_; rintro e w' ⟨rfl, hww⟩; subst hww; rw [show saysS l (k2 : Int) ⟨#[105, 110]⟩ = true from HBI.out]) | (go_at_call 40; refine (need_true _ _ _).mono ?_; rintro e w' ⟨rfl, hww⟩; subst hww) | (go_at_call 41; refine (name_no l rb _ _ (by exact ((((HX2.out.below ((Below.refl _ _).alloc (Nat.le_refl _) _)).below HB3.out).setOut HN7.out.1 HN7.out.2.1 HN7.out.2.2 2 (.int .u8 op)).setOut HN7.out.1 HN7.out.2.1 HN7.out.2.2 3 (.bool true)).rf) k0 hk0l HNO.out).mono ?_; rintro e w5 ⟨rfl, hb5⟩))
          exact ⟨rfl, AP.no HA.out ((RStep.below H.out ((((HS2.out.trans (RStep.of_below ((Below.refl _ _).alloc (Nat.le_refl _) _))).trans (RStep.of_below HB3.out)).setOut (b := w2.heap.size) (by omega) 2 (.int .u8 op)).setOut (b := w2.heap.size) (by omega) 3 (.bool true))).trans (hb5.mono (by have := ((((HX2.out.below ((Below.refl _ _).alloc (Nat.le_refl _) _)).below HB3.out).setOut HN7.out.1 HN7.out.2.1 HN7.out.2.2 2 (.int .u8 op)).setOut HN7.out.1 HN7.out.2.1 HN7.out.2.2 3 (.bool true)).size.2; exact this)))⟩
    · have hbi' : saysS l (k2 : Int) wIn = false := by simpa using hbi
      by_cases hbo : saysS l (k2 : Int) wOut = true
      · rw [if_pos (by rw [hbo]; simp), hbi'] at hA
        have HBI := hid hbi'; have HBO := hid hbo
        clear hbi hbi' hbo
        by_cases hno : nameOk l (k0 : Int) = true
        · rw [if_pos hno] at hA
          have HNO := hid hno
          clear hno
          obtain ⟨nm, hnm⟩ : ∃ nm, (fm l (k0 : Int)).text = nm := ⟨_, rfl⟩
          rw [hnm] at hA
          have HNM := hid hnm
          clear hnm
          rcases hpp : partsS l f (kids.drop 3) p.exprs with ⟨⟨ev, cv⟩, es1⟩ | wr
          · rw [hpp] at hA
            simp only at hA
            have HA := hid hA; have HPP := hid hpp
            clear hA hpp
            have hc3 := hcb.out
            all_goals
              go_wp2_with fail; refine (taking_any l rb _ _ (by exact (HX2.out.below ((Below.refl _ _).alloc (Nat.le_refl _) _)).rf) n k1 hn hk1l).mono ?_; rintro e w3 ⟨he, hb3⟩; unfold TakeP at he; rw [if_pos HTK.out, HOP.out] at he; subst he; have hb7 := keep_blk hb3 (new_blk w2 _); have z2 := blk_cell hb7 2; have z3 := blk_cell hb7 3; have zf := blk_free hb7; have d2 := (hb3.cell (p := ⟨kb, ko + 2, none⟩) (show kb < (w2.alloc _).heap.size by rw [World.size_alloc]; omega)).trans ((World.cell?_of_block (a := ⟨kb, ko + 2, none⟩) (Below.heap_alloc w2 _ kb hkb2)).trans hc2); have d0 := (hb3.cell (p := ⟨kb, ko, none⟩) (show kb < (w2.alloc _).heap.size by rw [World.size_alloc]; omega)).trans ((World.cell?_of_block (a := ⟨kb, ko, none⟩) (Below.heap_alloc w2 _ kb hkb2)).trans hc0); have hkn : kb ≠ w2.heap.size := (by omega); have HB7 := hid hb7; have HB3 := hid hb3; clear hb7 hb3
              go_wp2_with (first | (go_at_call 86; refine (says_any l rb _ _ (by exact (((HX2.out.below ((Below.refl _ _).alloc (Nat.le_refl _) _)).below HB3.out).setOut HN7.out.1 HN7.out.2.1 HN7.out.2.2 2 (.int .u8 op)).rf) k2 hk2l _).mono ?_; rintro e w' ⟨rfl, hww⟩; subst hww; rw [show saysS l (k2 : Int) ⟨#[105, 110]⟩ = false from HBI.out]) | (go_at_call 86; refine (says_any l rb _ _ (by exact ((((HX2.out.below ((Below.refl _ _).alloc (Nat.le_refl _) _)).below HB3.out).setOut HN7.out.1 HN7.out.2.1 HN7.out.2.2 2 (.int .u8 op)).setOut HN7.out.1 HN7.out.2.1 HN7.out.2.2 3 (.bool false)).rf) k2 hk2l _).mono ?_; rintro e w' ⟨rfl, hww⟩; subst hww; rw [show saysS l (k2 : Int) ⟨#[111, 117, 116]⟩ = true from HBO.out]) | (go_at_call 40; refine (need_true _ _ _).mono ?_; rintro e w' ⟨rfl, hww⟩; subst hww) | (go_at_call 41; refine (name_yes l rb _ _ (by exact ((((HX2.out.below ((Below.refl _ _).alloc (Nat.le_refl _) _)).below HB3.out).setOut HN7.out.1 HN7.out.2.1 HN7.out.2.2 2 (.int .u8 op)).setOut HN7.out.1 HN7.out.2.1 HN7.out.2.2 3 (.bool false)).rf) k0 hk0l HNO.out).mono ?_; rintro e w5 ⟨rfl, hb5⟩; rw [HNM.out]; have hb75 := keep_blk hb5 (blk_set (blk_set HB7.out (.int .u8 op)) (.bool false)); have u1 := blk_cell hb75 1; have uf := blk_free hb75; have HB75 := hid hb75; have HB5 := hid hb5; clear hb75 hb5))
              have hX5 := (((((HX2.out.below ((Below.refl _ _).alloc (Nat.le_refl _) _)).below HB3.out).setOut HN7.out.1 HN7.out.2.1 HN7.out.2.2 2 (.int .u8 op)).setOut HN7.out.1 HN7.out.2.1 HN7.out.2.2 3 (.bool false)).below HB5.out).setOut HN7.out.1 HN7.out.2.1 HN7.out.2.2 1 (.string nm)
              have hS5 := (((((HS2.out.trans (RStep.of_below ((Below.refl _ _).alloc (Nat.le_refl _) _))).trans (RStep.of_below HB3.out)).setOut (b := w2.heap.size) (by omega) 2 (.int .u8 op)).setOut (b := w2.heap.size) (by omega) 3 (.bool false)).trans (RStep.of_below HB5.out)).setOut (b := w2.heap.size) (by omega) 1 (.string nm)
              have h75 : (w5.setCell ⟨w2.heap.size, 1, none⟩ (.string nm)).heap[w2.heap.size]? = some (.cells #[.int .u8 3, .string nm, .int .u8 op, .bool false, .int .i64 0, .int .i64 0] 137 (0, 0)) := by rw [blk_set HB75.out]; rfl
              have h45 : (w5.setCell ⟨w2.heap.size, 1, none⟩ (.string nm)).heap[w.heap.size]? = _ := set_blk (keep_blk HB5.out (set_blk (set_blk (keep_blk HB3.out (old_blk HB4'.out _)) _ _ (show w.heap.size ≠ w2.heap.size by omega)) _ _ (show w.heap.size ≠ w2.heap.size by omega))) _ _ (show w.heap.size ≠ w2.heap.size by omega)
              have hsz3 : w2.heap.size < w3.heap.size := blk_lt HB7.out
              have hi5 : Ints (w5.setCell ⟨w2.heap.size, 1, none⟩ (.string nm)) (fun b => b < lo) (fromV kb ko kids.length kc 3) (kids.drop 3) := HIF.out.imp fun b hD hlt => ⟨hD, (Below.heap_setCell _ _ _ _ (show b ≠ w2.heap.size by omega)).trans ((HB5.out.block b (by simp; omega)).trans ((Below.heap_setCell _ _ _ _ (show b ≠ w2.heap.size by omega)).trans ((Below.heap_setCell _ _ _ _ (show b ≠ w2.heap.size by omega)).trans ((HB3.out.block b (by simp; omega)).trans (Below.heap_alloc w2 _ b hlt)))))⟩
              generalize w5.setCell ⟨w2.heap.size, 1, none⟩ (.string nm) = w6 at hX5 hS5 h75 h45 hi5 ⊢
              refine (parts_any l hwf f w6 lo rb S Z p hX5 (kids.drop 3) _ hi5 HDL.out HKD1.out HCN.out).mono ?_
              rintro e w7 he
              rw [HPP.out] at he
              obtain ⟨rfl, S', Z', hX6, hSt6⟩ := he
              have f7 := hX5.fresh hS5 hSt6 (blk_lt h75) HN7.out.2.1 HN7.out.2.2
              have f4 := hX5.fresh hS5 hSt6 (blk_lt h45) HN4.out.2.1 HN4.out.2.2
              have h76 := f7.2.2.trans h75
              have h46 := f4.2.2.trans h45
              have HX6 := hid hX6; have HST := hid (hS5.trans hSt6); have HF4 := hid f4; have HF7 := hid f7
              clear hX6 hX5 hS5 hSt6 f4 f7 h75 h45 hi5 u1 uf z2 z3 zf d0 d2
              have x0 := blk_cell h76 0; have x1 := blk_cell h76 1; have x2 := blk_cell h76 2; have x3 := blk_cell h76 3; have x4 := blk_cell h76 4; have x5 := blk_cell h76 5; have xf := blk_free h76
              have y0 := blk_cell h46 0; have y1 := blk_cell h46 1; have y2 := blk_cell h46 2; have y3 := blk_cell h46 3; have y4 := blk_cell h46 4; have y5 := blk_cell h46 5; have yf := blk_free h46
              clear h76 h46
              go_wp2
              refine bodyPost_ret (v := .agg #[.int .u8 3, .string nm, .int .u8 op, .bool false, .int .i64 ev, .int .i64 cv]) (by simp [results, Try.results65, go_sem, x0, x1, x2, x3, x4, x5, y0, y1, y2, y3, y4, y5]) rfl ?_
              refine AP.ok (S' := S') (Z' := Z') (k := { kind := 3, name := nm, op := op, inn := false, e := ev, cond := cv }) HA.out ?_ ?_
              · refine RX.setOut ?_ HN4.out.1 HF4.out.1 HF4.out.2.1 _ _
                refine RX.setOut ?_ HN4.out.1 HF4.out.1 HF4.out.2.1 _ _
                refine RX.setOut ?_ HN4.out.1 HF4.out.1 HF4.out.2.1 _ _
                refine RX.setOut ?_ HN4.out.1 HF4.out.1 HF4.out.2.1 _ _
                refine RX.setOut ?_ HN4.out.1 HF4.out.1 HF4.out.2.1 _ _
                refine RX.setOut ?_ HN4.out.1 HF4.out.1 HF4.out.2.1 _ _
                refine RX.setOut ?_ HN7.out.1 HF7.out.1 HF7.out.2.1 _ _
                refine RX.setOut ?_ HN7.out.1 HF7.out.1 HF7.out.2.1 _ _
                exact HX6.out
              · refine RStep.setOut ?_ (Nat.le_refl _) _ _
                refine RStep.setOut ?_ (Nat.le_refl _) _ _
                refine RStep.setOut ?_ (Nat.le_refl _) _ _
                refine RStep.setOut ?_ (Nat.le_refl _) _ _
                refine RStep.setOut ?_ (Nat.le_refl _) _ _
                refine RStep.setOut ?_ (Nat.le_refl _) _ _
                refine RStep.setOut ?_ (by omega) _ _
                refine RStep.setOut ?_ (by omega) _ _
                exact HST.out
          · rw [hpp] at hA
            simp only at hA
            have HA := hid hA; have HPP := hid hpp
            clear hA hpp
            have hc3 := hcb.out
            all_goals
              go_wp2_with fail; refine (taking_any l rb _ _ (by exact (HX2.out.below ((Below.refl _ _).alloc (Nat.le_refl _) _)).rf) n k1 hn hk1l).mono ?_; rintro e w3 ⟨he, hb3⟩; unfold TakeP at he; rw [if_pos HTK.out, HOP.out] at he; subst he; have hb7 := keep_blk hb3 (new_blk w2 _); have z2 := blk_cell hb7 2; have z3 := blk_cell hb7 3; have zf := blk_free hb7; have d2 := (hb3.cell (p := ⟨kb, ko + 2, none⟩) (show kb < (w2.alloc _).heap.size by rw [World.size_alloc]; omega)).trans ((World.cell?_of_block (a := ⟨kb, ko + 2, none⟩) (Below.heap_alloc w2 _ kb hkb2)).trans hc2); have d0 := (hb3.cell (p := ⟨kb, ko, none⟩) (show kb < (w2.alloc _).heap.size by rw [World.size_alloc]; omega)).trans ((World.cell?_of_block (a := ⟨kb, ko, none⟩) (Below.heap_alloc w2 _ kb hkb2)).trans hc0); have hkn : kb ≠ w2.heap.size := (by omega); have HB7 := hid hb7; have HB3 := hid hb3; clear hb7 hb3
              go_wp2_with (first | (go_at_call 86; refine (says_any l rb _ _ (by exact (((HX2.out.below ((Below.refl _ _).alloc (Nat.le_refl _) _)).below HB3.out).setOut HN7.out.1 HN7.out.2.1 HN7.out.2.2 2 (.int .u8 op)).rf) k2 hk2l _).mono ?_; rintro e w' ⟨rfl, hww⟩; subst hww; rw [show saysS l (k2 : Int) ⟨#[105, 110]⟩ = false from HBI.out]) | (go_at_call 86; refine (says_any l rb _ _ (by exact ((((HX2.out.below ((Below.refl _ _).alloc (Nat.le_refl _) _)).below HB3.out).setOut HN7.out.1 HN7.out.2.1 HN7.out.2.2 2 (.int .u8 op)).setOut HN7.out.1 HN7.out.2.1 HN7.out.2.2 3 (.bool false)).rf) k2 hk2l _).mono ?_; rintro e w' ⟨rfl, hww⟩; subst hww; rw [show saysS l (k2 : Int) ⟨#[111, 117, 116]⟩ = true from HBO.out]) | (go_at_call 40; refine (need_true _ _ _).mono ?_; rintro e w' ⟨rfl, hww⟩; subst hww) | (go_at_call 41; refine (name_yes l rb _ _ (by exact ((((HX2.out.below ((Below.refl _ _).alloc (Nat.le_refl _) _)).below HB3.out).setOut HN7.out.1 HN7.out.2.1 HN7.out.2.2 2 (.int .u8 op)).setOut HN7.out.1 HN7.out.2.1 HN7.out.2.2 3 (.bool false)).rf) k0 hk0l HNO.out).mono ?_; rintro e w5 ⟨rfl, hb5⟩; rw [HNM.out]; have hb75 := keep_blk hb5 (blk_set (blk_set HB7.out (.int .u8 op)) (.bool false)); have u1 := blk_cell hb75 1; have uf := blk_free hb75; have HB75 := hid hb75; have HB5 := hid hb5; clear hb75 hb5))
              have hX5 := (((((HX2.out.below ((Below.refl _ _).alloc (Nat.le_refl _) _)).below HB3.out).setOut HN7.out.1 HN7.out.2.1 HN7.out.2.2 2 (.int .u8 op)).setOut HN7.out.1 HN7.out.2.1 HN7.out.2.2 3 (.bool false)).below HB5.out).setOut HN7.out.1 HN7.out.2.1 HN7.out.2.2 1 (.string nm)
              have hS5 := (((((HS2.out.trans (RStep.of_below ((Below.refl _ _).alloc (Nat.le_refl _) _))).trans (RStep.of_below HB3.out)).setOut (b := w2.heap.size) (by omega) 2 (.int .u8 op)).setOut (b := w2.heap.size) (by omega) 3 (.bool false)).trans (RStep.of_below HB5.out)).setOut (b := w2.heap.size) (by omega) 1 (.string nm)
              have h75 : (w5.setCell ⟨w2.heap.size, 1, none⟩ (.string nm)).heap[w2.heap.size]? = some (.cells #[.int .u8 3, .string nm, .int .u8 op, .bool false, .int .i64 0, .int .i64 0] 137 (0, 0)) := by rw [blk_set HB75.out]; rfl
              have h45 : (w5.setCell ⟨w2.heap.size, 1, none⟩ (.string nm)).heap[w.heap.size]? = _ := set_blk (keep_blk HB5.out (set_blk (set_blk (keep_blk HB3.out (old_blk HB4'.out _)) _ _ (show w.heap.size ≠ w2.heap.size by omega)) _ _ (show w.heap.size ≠ w2.heap.size by omega))) _ _ (show w.heap.size ≠ w2.heap.size by omega)
              have hsz3 : w2.heap.size < w3.heap.size := blk_lt HB7.out
              have hi5 : Ints (w5.setCell ⟨w2.heap.size, 1, none⟩ (.string nm)) (fun b => b < lo) (fromV kb ko kids.length kc 3) (kids.drop 3) := HIF.out.imp fun b hD hlt => ⟨hD, (Below.heap_setCell _ _ _ _ (show b ≠ w2.heap.size by omega)).trans ((HB5.out.block b (by simp; omega)).trans ((Below.heap_setCell _ _ _ _ (show b ≠ w2.heap.size by omega)).trans ((Below.heap_setCell _ _ _ _ (show b ≠ w2.heap.size by omega)).trans ((HB3.out.block b (by simp; omega)).trans (Below.heap_alloc w2 _ b hlt)))))⟩
              generalize w5.setCell ⟨w2.heap.size, 1, none⟩ (.string nm) = w6 at hX5 hS5 h75 h45 hi5 ⊢
              refine (parts_any l hwf f w6 lo rb S Z p hX5 (kids.drop 3) _ hi5 HDL.out HKD1.out HCN.out).mono ?_
              rintro e w7 he
              rw [HPP.out] at he
              obtain ⟨rfl, hBp⟩ := he
              exact ⟨rfl, AP.no HA.out ((RStep.below H.out hS5).trans hBp)⟩
        · rw [if_neg hno] at hA
          have hno' : nameOk l (k0 : Int) = false := by simpa using hno
          have HNO := hid hno'; have HA := hid hA
          clear hno hno' hA
          have hc3 := hcb.out
          all_goals
            go_wp2_with fail; refine (taking_any l rb _ _ (by exact (HX2.out.below ((Below.refl _ _).alloc (Nat.le_refl _) _)).rf) n k1 hn hk1l).mono ?_; rintro e w3 ⟨he, hb3⟩; unfold TakeP at he; rw [if_pos HTK.out, HOP.out] at he; subst he; have hb7 := keep_blk hb3 (new_blk w2 _); have z2 := blk_cell hb7 2; have z3 := blk_cell hb7 3; have zf := blk_free hb7; have d2 := (hb3.cell (p := ⟨kb, ko + 2, none⟩) (show kb < (w2.alloc _).heap.size by rw [World.size_alloc]; omega)).trans ((World.cell?_of_block (a := ⟨kb, ko + 2, none⟩) (Below.heap_alloc w2 _ kb hkb2)).trans hc2); have d0 := (hb3.cell (p := ⟨kb, ko, none⟩) (show kb < (w2.alloc _).heap.size by rw [World.size_alloc]; omega)).trans ((World.cell?_of_block (a := ⟨kb, ko, none⟩) (Below.heap_alloc w2 _ kb hkb2)).trans hc0); have hkn : kb ≠ w2.heap.size := (by omega); have HB7 := hid hb7; have HB3 := hid hb3; clear hb7 hb3
            go_wp2_with (first | (go_at_call 86; refine (says_any l rb _ _ (by exact (((HX2.out.below ((Below.refl _ _).alloc (Nat.le_refl _) _)).below HB3.out).setOut HN7.out.1 HN7.out.2.1 HN7.out.2.2 2 (.int .u8 op)).rf) k2 hk2l _).mono ?_; rintro e w' ⟨rfl, hww⟩; subst hww; rw [show saysS l (k2 : Int) ⟨#[105, 110]⟩ = false from HBI.out]) | (go_at_call 86; refine (says_any l rb _ _ (by exact ((((HX2.out.below ((Below.refl _ _).alloc (Nat.le_refl _) _)).below HB3.out).setOut HN7.out.1 HN7.out.2.1 HN7.out.2.2 2 (.int .u8 op)).setOut HN7.out.1 HN7.out.2.1 HN7.out.2.2 3 (.bool false)).rf) k2 hk2l _).mono ?_; rintro e w' ⟨rfl, hww⟩; subst hww; rw [show saysS l (k2 : Int) ⟨#[111, 117, 116]⟩ = true from HBO.out]) | (go_at_call 40; refine (need_true _ _ _).mono ?_; rintro e w' ⟨rfl, hww⟩; subst hww) | (go_at_call 41; refine (name_no l rb _ _ (by exact ((((HX2.out.below ((Below.refl _ _).alloc (Nat.le_refl _) _)).below HB3.out).setOut HN7.out.1 HN7.out.2.1 HN7.out.2.2 2 (.int .u8 op)).setOut HN7.out.1 HN7.out.2.1 HN7.out.2.2 3 (.bool false)).rf) k0 hk0l HNO.out).mono ?_; rintro e w5 ⟨rfl, hb5⟩))
            exact ⟨rfl, AP.no HA.out ((RStep.below H.out ((((HS2.out.trans (RStep.of_below ((Below.refl _ _).alloc (Nat.le_refl _) _))).trans (RStep.of_below HB3.out)).setOut (b := w2.heap.size) (by omega) 2 (.int .u8 op)).setOut (b := w2.heap.size) (by omega) 3 (.bool false))).trans (hb5.mono (by have := ((((HX2.out.below ((Below.refl _ _).alloc (Nat.le_refl _) _)).below HB3.out).setOut HN7.out.1 HN7.out.2.1 HN7.out.2.2 2 (.int .u8 op)).setOut HN7.out.1 HN7.out.2.1 HN7.out.2.2 3 (.bool false)).size.2; exact this)))⟩
      · have hbo' : saysS l (k2 : Int) wOut = false := by simpa using hbo
        rw [if_neg (by rw [hbi', hbo']; simp)] at hA
        have HBI := hid hbi'; have HBO := hid hbo'; have HA := hid hA
        clear hbi hbi' hbo hbo' hA
        have hc3 := hcb.out
        all_goals
          go_wp2_with fail; refine (taking_any l rb _ _ (by exact (HX2.out.below ((Below.refl _ _).alloc (Nat.le_refl _) _)).rf) n k1 hn hk1l).mono ?_; rintro e w3 ⟨he, hb3⟩; unfold TakeP at he; rw [if_pos HTK.out, HOP.out] at he; subst he; have hb7 := keep_blk hb3 (new_blk w2 _); have z2 := blk_cell hb7 2; have z3 := blk_cell hb7 3; have zf := blk_free hb7; have d2 := (hb3.cell (p := ⟨kb, ko + 2, none⟩) (show kb < (w2.alloc _).heap.size by rw [World.size_alloc]; omega)).trans ((World.cell?_of_block (a := ⟨kb, ko + 2, none⟩) (Below.heap_alloc w2 _ kb hkb2)).trans hc2); have d0 := (hb3.cell (p := ⟨kb, ko, none⟩) (show kb < (w2.alloc _).heap.size by rw [World.size_alloc]; omega)).trans ((World.cell?_of_block (a := ⟨kb, ko, none⟩) (Below.heap_alloc w2 _ kb hkb2)).trans hc0); have hkn : kb ≠ w2.heap.size := (by omega); have HB7 := hid hb7; have HB3 := hid hb3; clear hb7 hb3
          go_wp2_with (first | (go_at_call 86; refine (says_any l rb _ _ (by exact (((HX2.out.below ((Below.refl _ _).alloc (Nat.le_refl _) _)).below HB3.out).setOut HN7.out.1 HN7.out.2.1 HN7.out.2.2 2 (.int .u8 op)).rf) k2 hk2l _).mono ?_; rintro e w' ⟨rfl, hww⟩; subst hww; rw [show saysS l (k2 : Int) ⟨#[105, 110]⟩ = false from HBI.out]) | (go_at_call 86; refine (says_any l rb _ _ (by exact ((((HX2.out.below ((Below.refl _ _).alloc (Nat.le_refl _) _)).below HB3.out).setOut HN7.out.1 HN7.out.2.1 HN7.out.2.2 2 (.int .u8 op)).setOut HN7.out.1 HN7.out.2.1 HN7.out.2.2 3 (.bool false)).rf) k2 hk2l _).mono ?_; rintro e w' ⟨rfl, hww⟩; subst hww; rw [show saysS l (k2 : Int) ⟨#[111, 117, 116]⟩ = false from HBO.out]) | (go_at_call 40; refine (need_false l rb _ _ (by exact ((((HX2.out.below ((Below.refl _ _).alloc (Nat.le_refl _) _)).below HB3.out).setOut HN7.out.1 HN7.out.2.1 HN7.out.2.2 2 (.int .u8 op)).setOut HN7.out.1 HN7.out.2.1 HN7.out.2.2 3 (.bool false)).rf) n hn).mono ?_; rintro e w' ⟨rfl, hww⟩; subst hww))
          exact ⟨rfl, AP.no HA.out (RStep.below H.out ((((HS2.out.trans (RStep.of_below ((Below.refl _ _).alloc (Nat.le_refl _) _))).trans (RStep.of_below HB3.out)).setOut (b := w2.heap.size) (by omega) 2 (.int .u8 op)).setOut (b := w2.heap.size) (by omega) 3 (.bool false)))⟩
  · rw [if_neg htk] at hA
    have HTK := hid htk; have HA := hid hA
    clear htk hA
    have hc3 := hcb.out
    all_goals
      go_wp2_with fail
      refine (taking_any l rb _ _ (by exact (HX2.out.below ((Below.refl _ _).alloc (Nat.le_refl _) _)).rf) n k1 hn hk1l).mono ?_
      rintro e w3 ⟨he, hb3⟩
      unfold TakeP at he
      rw [if_neg HTK.out] at he
      subst he
      exact ⟨rfl, AP.no HA.out (((RStep.below H.out HS2.out).trans ((Below.refl _ _).alloc HN7.out.1 _)).trans (hb3.mono (by have := HN7.out.1; simp; omega)))⟩
end Go.Proofs.Ytgaginegcjpddaa
/- The program's reader of forms: acts. -/
namespace Go.Proofs.Ytgaginegcjpddaa
open Go.RowKit
set_option maxHeartbeats 2000000 in
set_option maxRecDepth 100000 in
theorem act_bad (l : List Form) (hwf : WF l) (w : World) (lo rb : Nat) (S : Nat → Value) (Z : Nat → Prop) (p : Prg) (h : RX w l lo rb S Z p) (n : Nat) (hn : n < l.length)
    (hsp : splitOk l (n : Int) = true) (hK : actK (headW l (n : Int)) (tailK l (n : Int)).length = 0) (r : (PAct × List Expr) ⊕ Wr) (hr : r = .inr (wrongS l (n : Int))) :
    Calls Try.prog 65 #[.pointer (some ⟨rb, 0, none⟩), .int .i64 (n : Int)] w (AP w l lo rb S Z p r) := by
  have hB0 : Below w.heap.size w (w.alloc (.cells #[.int .u8 0, .string ⟨#[]⟩, .int .u8 0, .bool false, .int .i64 0, .int .i64 0] 137 (0, 0))) := (Below.refl _ _).alloc (Nat.le_refl _) _
  have h1 := h.below hB0
  obtain ⟨kids, hkd⟩ : ∃ kids, tailK l (n : Int) = kids := ⟨_, rfl⟩
  obtain ⟨s, hs⟩ : ∃ s, headW l (n : Int) = s := ⟨_, rfl⟩
  rw [hkd, hs] at hK
  have hlow := h.size.2
  have e1 := str_eq s wPut
  have e2 := str_eq s wPush
  have e3 := str_eq s wPull
  have b1 : wPut.toList = [112, 117, 116] := by rw [ByteArray.toList_eq]; rfl
  have b2 : wPush.toList = [112, 117, 115, 104] := by rw [ByteArray.toList_eq]; rfl
  have b3 : wPull.toList = [112, 117, 108, 108] := by rw [ByteArray.toList_eq]; rfl
  rw [b1] at e1; rw [b2] at e2; rw [b3] at e3
  have H := hid h; have H1 := hid h1; have HB0 := hid hB0; have HSP := hid hsp; have HS := hid hs; have HKD := hid hkd; have HR := hid hr
  have hne12 : wPut ≠ wPush := by decide
  have hne13 : wPut ≠ wPull := by decide
  have hne23 : wPush ≠ wPull := by decide
  have hq : Hid (((s.toList == [112, 117, 116]) = true ∧ ((kids.length : Int) == 2) = false ∧ ((kids.length : Int) == 3) = false ∧ (s.toList == [112, 117, 115, 104]) = false ∧ (s.toList == [112, 117, 108, 108]) = false) ∨
      ((s.toList == [112, 117, 116]) = false ∧ (s.toList == [112, 117, 115, 104]) = true ∧ ((kids.length : Int) == 4) = false ∧ ((kids.length : Int) == 5) = false ∧ (s.toList == [112, 117, 108, 108]) = false) ∨
      ((s.toList == [112, 117, 116]) = false ∧ (s.toList == [112, 117, 115, 104]) = false ∧ (s.toList == [112, 117, 108, 108]) = true ∧ ((kids.length : Int) == 4) = false) ∨
      ((s.toList == [112, 117, 116]) = false ∧ (s.toList == [112, 117, 115, 104]) = false ∧ (s.toList == [112, 117, 108, 108]) = false)) := hid (by
    rw [e1, e2, e3]
    simp only [beq_eq_false_iff_ne, ne_eq, decide_eq_true_eq, decide_eq_false_iff_not]
    unfold actK at hK
    by_cases g1 : s = wPut
    · subst g1
      refine .inl ⟨rfl, ?_, ?_, hne12, hne13⟩
      · intro e; rw [if_pos ⟨rfl, .inl (by omega)⟩] at hK; omega
      · intro e; rw [if_pos ⟨rfl, .inr (by omega)⟩] at hK; omega
    · rw [if_neg (fun e => g1 e.1)] at hK
      by_cases g2 : s = wPush
      · subst g2
        refine .inr (.inl ⟨g1, rfl, ?_, ?_, hne23⟩)
        · intro e; rw [if_pos ⟨rfl, .inl (by omega)⟩] at hK; omega
        · intro e; rw [if_pos ⟨rfl, .inr (by omega)⟩] at hK; omega
      · rw [if_neg (fun e => g2 e.1)] at hK
        by_cases g3 : s = wPull
        · subst g3
          refine .inr (.inr (.inl ⟨g1, g2, rfl, ?_⟩))
          intro e; rw [if_pos ⟨rfl, by omega⟩] at hK; omega
        · exact .inr (.inr (.inr ⟨g1, g2, g3⟩)))
  clear h h1 hB0 hsp hs hkd hr hK e1 e2 e3 b1 b2 b3 hne12 hne13 hne23
  go_enter Try.func65, Try.ntmps65
  go_upto_region 2 with (go_at_call 37; refine (split_yes l hwf rb _ _ (by exact H1.out.rf) n hn HSP.out).mono ?_; rintro e w2 ⟨tv, rfl, htv, hb2⟩; rw [HS.out]; rw [HKD.out] at htv)
  have hX2 := H1.out.below hb2
  have hS2 := (RStep.of_below (rb := rb) (S := S) (Z := Z) HB0.out).trans (RStep.of_below (rb := rb) (S := S) (Z := Z) hb2)
  obtain ⟨TA, tc, rfl, _, _⟩ := htv.slice
  have hl2 := hX2.size.2
  have HX2 := hid hX2; have HS2 := hid hS2
  clear hX2 hS2 htv hb2 HB0 H1 HSP HS HKD
  rcases hq.out with ⟨q1, q2, q3, q4, q5⟩ | ⟨q1, q2, q3, q4, q5⟩ | ⟨q1, q2, q3, q4⟩ | ⟨q1, q2, q3⟩
  all_goals
    go_wp2_with (go_at_call 67; refine (refuse_any l rb _ _ (by exact (HX2.out.below ((Below.refl _ _).alloc (Nat.le_refl _) _)).rf) n hn).mono ?_; rintro e w3 ⟨rfl, hww⟩; subst hww)
    exact ⟨rfl, AP.no HR.out ((RStep.below H.out HS2.out).trans ((Below.refl _ _).alloc hl2 _))⟩
set_option maxHeartbeats 800000 in
set_option maxRecDepth 100000 in
theorem act_nosplit (l : List Form) (hwf : WF l) (w : World) (lo rb : Nat) (S : Nat → Value) (Z : Nat → Prop) (p : Prg) (h : RX w l lo rb S Z p) (n : Nat) (hn : n < l.length)
    (hsp : splitOk l (n : Int) = false) (r : (PAct × List Expr) ⊕ Wr) (hr : r = .inr (wrongS l (n : Int))) :
    Calls Try.prog 65 #[.pointer (some ⟨rb, 0, none⟩), .int .i64 (n : Int)] w (AP w l lo rb S Z p r) := by
  have hB0 : Below w.heap.size w (w.alloc (.cells #[.int .u8 0, .string ⟨#[]⟩, .int .u8 0, .bool false, .int .i64 0, .int .i64 0] 137 (0, 0))) := (Below.refl _ _).alloc (Nat.le_refl _) _
  have h1 := h.below hB0
  have hlow := h.size.2
  have H1 := hid h1; have HB0 := hid (hB0.mono hlow); have HSP := hid hsp; have HR := hid hr
  clear h h1 hB0 hsp hr
  go_enter Try.func65, Try.ntmps65
  go_wp2_with (go_at_call 37; refine (split_no l hwf rb _ _ (by exact H1.out.rf) n hn HSP.out).mono ?_; rintro e w2 ⟨rfl, hb2⟩)
  exact ⟨rfl, AP.no HR.out (HB0.out.trans (hb2.mono (by simp; omega)))⟩
theorem act_any (l : List Form) (hwf : WF l) (f : Nat) (w : World) (lo rb : Nat) (S : Nat → Value) (Z : Nat → Prop) (p : Prg) (h : RX w l lo rb S Z p) (n : Nat) (hn : n < l.length) (hkr : ∀ k ∈ tailK l (n : Int), Kin l f k) (hcnt : p.exprs.length + cntL l f (tailK l (n : Int)) ≤ 99999) :
    Calls Try.prog 65 #[.pointer (some ⟨rb, 0, none⟩), .int .i64 (n : Int)] w (AP w l lo rb S Z p (actS l f (n : Int) p.exprs)) := by
  by_cases hsp : splitOk l (n : Int) = true
  · by_cases g1 : headW l (n : Int) = wPut ∧ ((tailK l (n : Int)).length = 2 ∨ (tailK l (n : Int)).length = 3)
    · have hK : actK (headW l (n : Int)) (tailK l (n : Int)).length = 1 := by unfold actK; rw [if_pos g1]
      have := act_put l hwf f w lo rb S Z p h n hn hkr hcnt hsp g1.1 g1.2
      unfold actS
      rw [if_pos hsp, hK, if_neg (by omega), if_pos rfl]
      exact this
    · by_cases g2 : headW l (n : Int) = wPush ∧ ((tailK l (n : Int)).length = 4 ∨ (tailK l (n : Int)).length = 5)
      · have hK : actK (headW l (n : Int)) (tailK l (n : Int)).length = 2 := by unfold actK; rw [if_neg g1, if_pos g2]
        have := act_push l hwf f w lo rb S Z p h n hn hkr hcnt hsp g2.1 g2.2
        unfold actS
        rw [if_pos hsp, hK, if_neg (by omega), if_neg (by omega)]
        exact this
      · by_cases g3 : headW l (n : Int) = wPull ∧ (tailK l (n : Int)).length = 4
        · have hK : actK (headW l (n : Int)) (tailK l (n : Int)).length = 3 := by unfold actK; rw [if_neg g1, if_neg g2, if_pos g3]
          have := act_pull l hwf f w lo rb S Z p h n hn hkr hcnt hsp g3.1 g3.2
          unfold actS
          rw [if_pos hsp, hK, if_neg (by omega), if_neg (by omega)]
          exact this
        · have hK : actK (headW l (n : Int)) (tailK l (n : Int)).length = 0 := by unfold actK; rw [if_neg g1, if_neg g2, if_neg g3]
          exact act_bad l hwf w lo rb S Z p h n hn hsp hK _ (by unfold actS; rw [if_pos hsp, hK, if_pos rfl])
  · exact act_nosplit l hwf w lo rb S Z p h n hn (by simpa using hsp) _ (by unfold actS; rw [if_neg hsp])
end Go.Proofs.Ytgaginegcjpddaa
/- The program's reader of forms: a statement more. -/
namespace Go.Proofs.Ytgaginegcjpddaa
open Go.RowKit
theorem pt_stmts : PushTy2 Try.prog 54 1 1 27 2 2 24 77 8 120 := ⟨ty_Stmt, by intros; simp [go_sem], by intros; simp [go_sem], by intro a v w h; simp [go_sem, h], by intro a p n c w u h1 h2; simp [go_sem, h1, h2]⟩
/-- one statement more -/
theorem RX.pushS {w w1 : World} {l : List Form} {lo rb : Nat} {S : Nat → Value} {Z : Nat → Prop} {p : Prg} (h : RX w l lo rb S Z p) {x : PStmt} {g cap : Nat} (hG : Grew w w1 (S 2) 77 8 (StmtV w Z) p.stmts (p.stmts ++ [x]) g cap) :
    RX (w1.setCell ⟨rb, 3, none⟩ (.slice (some ⟨g, 0, none⟩) (p.stmts.length + 1) cap)) l lo rb (up S 2 (.slice (some ⟨g, 0, none⟩) (p.stmts.length + 1) cap)) Z { p with stmts := p.stmts ++ [x] } ∧
    RStep w rb S Z (w1.setCell ⟨rb, 3, none⟩ (.slice (some ⟨g, 0, none⟩) (p.stmts.length + 1) cap)) (up S 2 (.slice (some ⟨g, 0, none⟩) (p.stmts.length + 1) cap)) Z := by
  obtain ⟨fv, hb, hf⟩ := h.blk
  have hrb := blk_lt hb
  have hgne : g ≠ rb := hG.ne hb (fun e => (h.low 2 _ e).2.1 rfl)
  have hglo : lo ≤ g ∧ ¬ Z g := by
    rcases hG.lies with h1 | h1
    · exact ⟨(h.low 2 g h1).1, (h.low 2 g h1).2.2⟩
    · exact ⟨Nat.le_trans h.size.2 h1, fun hz => by have := (h.zlow g hz).2.1; omega⟩
  -- what is not the old row's, nor the reader's own, is as it was
  have hk : ∀ b, b < w.heap.size → b ≠ rb → (S 2).ownBlock ≠ some b → (w1.setCell ⟨rb, 3, none⟩ (.slice (some ⟨g, 0, none⟩) (p.stmts.length + 1) cap)).heap[b]? = w.heap[b]? := fun b hlt h1 h2 =>
    (Below.heap_setCell _ _ _ _ h1).trans (hG.grown.block b hlt (fun e => h2 e.symm))
  have hZ : ∀ b, Z b → b < w.heap.size → Z b ∧ (w1.setCell ⟨rb, 3, none⟩ (.slice (some ⟨g, 0, none⟩) (p.stmts.length + 1) cap)).heap[b]? = w.heap[b]? := fun b h1 h2 =>
    ⟨h1, hk b h2 (h.zlow b h1).2.2 (fun e => (h.low 2 b e).2.2 h1)⟩
  have hOwn := hG.own
  rw [show (p.stmts ++ [x]).length = p.stmts.length + 1 by simp] at hOwn
  refine ⟨⟨⟨fv, ?_, ?_⟩, h.texts, ?_, ?_, ?_, ?_, ?_, ?_, ?_, h.lor, ?_⟩, ⟨⟨hG.grown.os, hG.grown.tape, hG.grown.output, by simpa using hG.grown.size, ?_, ?_⟩, fun _ h => h, fun _ h => .inl h, up_other (by omega), up_other (by omega)⟩⟩
  · have := hG.keep hb (fun e => (h.low 2 _ e).2.1 rfl)
    rw [blk_set this]; rfl
  · exact Row.imp hf (fun a cs _ hr => by
      obtain ⟨kv, rfl, hk2⟩ := hr
      exact ⟨kv, rfl, hk2.imp fun b hD hlt => ⟨hD, hk b hlt (by have := h.lor; omega) (fun e => by have := (h.low 2 b e).1; omega)⟩⟩) (fun b hD hlt => ⟨hD, hk b hlt (by have := h.lor; omega) (fun e => by have := (h.low 2 b e).1; omega)⟩) (by omega) (fun _ _ h => h.len)
  · rw [up_other (by omega)]
    exact h.decls.imp (fun _ _ _ h => h) fun b hg hlt => hk b hlt (h.low 0 b hg).2.1 (fun e => by have := h.apart 0 2 b hg e; omega)
  · rw [up_other (by omega)]
    exact h.exprs.imp (fun _ _ _ h => h.imp hZ) fun b hg hlt => hk b hlt (h.low 1 b hg).2.1 (fun e => by have := h.apart 1 2 b hg e; omega)
  · rw [up_same]
    refine (hOwn.setCell _ _ (by simp [Value.ownBlock]; omega)).imp (fun a cs _ hr => ?_) (fun _ _ _ => rfl)
    exact hr.imp hZ
  · rw [up_other (by omega)]
    exact h.main.imp (fun _ _ _ h => h) fun b hg hlt => hk b hlt (h.low 3 b hg).2.1 (fun e => by have := h.apart 3 2 b hg e; omega)
  · refine apart_up h.apart (fun b hb => ?_)
    cases hb
    rcases hG.lies with h1 | h1
    · exact .inl h1
    · exact .inr (fun i e => by have := h.lt i g e; omega)
  · intro i b e
    by_cases hi : i = 2
    · subst hi; rw [up_same] at e; cases e; exact ⟨hglo.1, hgne, hglo.2⟩
    · rw [up_other hi] at e; exact h.low i b e
  · intro b e
    have := h.zlow b e
    have := hG.grown.size
    exact ⟨by omega, by simp; omega, by omega⟩
  · intro i hi; rw [up_other (by omega)]; exact h.out i hi
  · intro b hlt hn
    exact hk b hlt (fun e => hn (.inl e)) (fun e => hn (.inr ⟨2, e⟩))
  · intro b hb
    rcases hb with rfl | ⟨i, hb⟩
    · exact .inl (.inl rfl)
    · by_cases hi : i = 2
      · subst hi; rw [up_same] at hb; cases hb
        rcases hG.lies with h1 | h1
        · exact .inl (.inr ⟨2, h1⟩)
        · exact .inr h1
      · rw [up_other hi] at hb; exact .inl (.inr ⟨i, hb⟩)
/-- what reading a statement comes to, in memory -/
def SP (w : World) (l : List Form) (lo rb : Nat) (S : Nat → Value) (Z : Nat → Prop) (p : Prg) (r : (Int × ESt) ⊕ Wr) (e : Ending) (w' : World) : Prop :=
  match r with
  | .inl (k, s) => e = .returned (.int .i64 k) ∧ ∃ S' Z', RX w' l lo rb S' Z' { p with exprs := s.1, stmts := s.2 } ∧ RStep w rb S Z w' S' Z'
  | .inr wr => e = .panicked (progWrong wr) ∧ Below lo w w'
theorem SP.ok {w : World} {l : List Form} {lo rb : Nat} {S S' : Nat → Value} {Z Z' : Nat → Prop} {p : Prg} {r : (Int × ESt) ⊕ Wr} {w' : World} {k : Int} {s : ESt} (hr : r = .inl (k, s)) (hX : RX w' l lo rb S' Z' { p with exprs := s.1, stmts := s.2 }) (hS : RStep w rb S Z w' S' Z') : SP w l lo rb S Z p r (.returned (.int .i64 k)) w' := by
  subst hr; exact ⟨rfl, S', Z', hX, hS⟩
theorem SP.no {w : World} {l : List Form} {lo rb : Nat} {S : Nat → Value} {Z : Nat → Prop} {p : Prg} {r : (Int × ESt) ⊕ Wr} {w' : World} {wr : Wr} (hr : r = .inr wr) (hB : Below lo w w') : SP w l lo rb S Z p r (.panicked (progWrong wr)) w' := by
  subst hr; exact ⟨rfl, hB⟩
end Go.Proofs.Ytgaginegcjpddaa
/- The program's reader of forms: statements, one behind the other. -/
namespace Go.Proofs.Ytgaginegcjpddaa
open Go.RowKit
/-- with fuel enough, more of it counts the same -/
theorem cntE_more {l : List Form} (hwf : WF l) : ∀ (f n : Nat), n < l.length → (l.length : Int) - n < f → cntE l (f + 1) (n : Int) = cntE l f (n : Int)
  | 0, n, h1, h2 => by omega
  | f + 1, n, h1, h2 => by
    show 1 + ((fm l (n : Int)).kids.map (cntE l (f + 1))).sum = 1 + ((fm l (n : Int)).kids.map (cntE l f)).sum
    congr 2
    apply List.map_congr_left
    intro k hk
    rw [fm_nat] at hk
    have h3 := hwf n h1 k hk
    obtain ⟨kn, rfl⟩ : ∃ kn : Nat, k = (kn : Int) := ⟨k.toNat, by omega⟩
    exact cntE_more hwf f kn (by omega) (by omega)
/-- how much reading statements adds -/
def Adds (l : List Form) (f : Nat) : Prop := ∀ n, Kin l f n → ∀ s r, stmtS l f n s = .inl r → r.2.1.length ≤ s.1.length + cntE l f n ∧ r.2.2.length ≤ s.2.length + cntE l f n
/-- the reader of one statement, at a fuel -/
def StmtC (l : List Form) (f : Nat) : Prop := ∀ (n : Nat) (w : World) (lo rb : Nat) (S : Nat → Value) (Z : Nat → Prop) (p : Prg), n < l.length → (l.length : Int) - n < f → RX w l lo rb S Z p → p.exprs.length + cntE l f n ≤ 99999 → p.stmts.length + cntE l f n ≤ 99999 →
  Calls Try.prog 39 #[.pointer (some ⟨rb, 0, none⟩), .int .i64 (n : Int)] w (SP w l lo rb S Z p (stmtS l f n (p.exprs, p.stmts)))
/-- what reading statements comes to, in memory -/
def LP (w : World) (l : List Form) (lo rb : Nat) (S : Nat → Value) (Z : Nat → Prop) (p : Prg) (r : (List Int × ESt) ⊕ Wr) (e : Ending) (w' : World) : Prop :=
  match r with
  | .inl (ks, s) => ∃ v S' Z', e = .returned v ∧ Ints w' Z' v ks ∧ RX w' l lo rb S' Z' { p with exprs := s.1, stmts := s.2 } ∧ RStep w rb S Z w' S' Z'
  | .inr wr => e = .panicked (progWrong wr) ∧ Below lo w w'
theorem LP.ok {w : World} {l : List Form} {lo rb : Nat} {S S' : Nat → Value} {Z Z' : Nat → Prop} {p : Prg} {r : (List Int × ESt) ⊕ Wr} {w' : World} {v : Value} {ks : List Int} {s : ESt} (hr : r = .inl (ks, s)) (hI : Ints w' Z' v ks) (hX : RX w' l lo rb S' Z' { p with exprs := s.1, stmts := s.2 }) (hS : RStep w rb S Z w' S' Z') : LP w l lo rb S Z p r (.returned v) w' := by
  subst hr; exact ⟨v, S', Z', rfl, hI, hX, hS⟩
theorem LP.no {w : World} {l : List Form} {lo rb : Nat} {S : Nat → Value} {Z : Nat → Prop} {p : Prg} {r : (List Int × ESt) ⊕ Wr} {w' : World} {wr : Wr} (hr : r = .inr wr) (hB : Below lo w w') : LP w l lo rb S Z p r (.panicked (progWrong wr)) w' := by
  subst hr; exact ⟨rfl, hB⟩
set_option maxHeartbeats 4000000 in
set_option maxRecDepth 100000 in
theorem stmts_any (l : List Form) (f : Nat) (w : World) (lo rb : Nat) (S : Nat → Value) (Z : Nat → Prop) (p : Prg) (h : RX w l lo rb S Z p) (kids : List Int) (kv : Value) (hk : Ints w (fun b => b < lo) kv kids) (hkr : ∀ k ∈ kids, Kin l f k) (hkl : kids.length ≤ 90000) (ih : StmtC l f) (hadd : Adds l f) (hc1 : p.exprs.length + cntL l f kids ≤ 99999) (hc2 : p.stmts.length + cntL l f kids ≤ 99999) :
    Calls Try.prog 66 #[.pointer (some ⟨rb, 0, none⟩), kv] w (LP w l lo rb S Z p (seqS (stmtS l f) kids (p.exprs, p.stmts))) := by
  have hlow : lo ≤ w.heap.size := h.size.2
  obtain ⟨TA, tc, hkv, htc1, htc2⟩ := hk.slice
  subst hkv
  have hE : seqS (stmtS l f) kids (p.exprs, p.stmts) = seqS (stmtS l f) kids (p.exprs, p.stmts) := rfl
  generalize hgr : seqS (stmtS l f) kids (p.exprs, p.stmts) = R at hE ⊢
  have HE := hid hgr
  have HXW := hid h; have HI := hid hk; have HKR := hid hkr; have IH := hid ih; have HAD := hid hadd
  have HS0 := hid (RStep.of_below (rb := rb) (S := S) (Z := Z) (Below.refl w.heap.size w))
  clear h hk hkr ih hadd hgr hE
  go_enter Try.func66, Try.ntmps66
  go_wp2_with fail
  go_loopw [5, 10] (fun s5 s10 wr => ∃ (k : Nat) (pl : List Int) (S1 : Nat → Value) (Z1 : Nat → Prop) (es1 : ESt), s10 = .int .i64 (k : Int) ∧ k ≤ kids.length ∧ Hid (IRow wr s5 pl) ∧ Hid (Apart w wr rb S1 Z1 s5) ∧ Hid (RX wr l lo rb S1 Z1 { p with exprs := es1.1, stmts := es1.2 }) ∧ Hid (RStep w rb S Z wr S1 Z1) ∧ es1.1.length + cntL l f (kids.drop k) ≤ 99999 ∧ es1.2.length + cntL l f (kids.drop k) ≤ 99999 ∧ Hid (pl.length = k) ∧
    Hid (R = match seqS (stmtS l f) (kids.drop k) es1 with | .inr e => .inr e | .inl (ps, es2) => .inl (pl ++ ps, es2))) (fun s5 s10 wr => kids.length - cnt s10)
  case atStart =>
    refine ⟨0, [], S, Z, (p.exprs, p.stmts), rfl, Nat.zero_le _, hid (Own.nil _ _ _ _), hid ⟨fun b hb => by cases hb⟩, HXW, HS0, by simpa using hc1, by simpa using hc2, hid rfl, hid ?_⟩
    simp only [List.drop_zero]
    rw [HE.out]
    rcases R with ⟨ps, es2⟩ | e <;> rfl
  case round =>
    obtain ⟨k, pl, S1, Z1, es1, rfl, hk, hO, hA, hX, hSt, hcn, hcm, hpl, hR⟩ := hrel
    by_cases hlt : k < kids.length
    · obtain ⟨eb, eo, ec, hev, _, _, hDb, hbs, hcell⟩ := HI.out.at_ k hlt
      simp only [Value.slice.injEq] at hev
      obtain ⟨rfl, h00, rfl⟩ := hev
      obtain ⟨kn, hkn, hknl, hknf⟩ := HKR.out _ (nth_mem hlt)
      rw [hkn] at hcell
      have hwB : Below lo w wr := RStep.below HXW.out hSt.out
      have hcr : wr.cell? ⟨eb, eo + k, none⟩ = some (.int .i64 (kn : Int)) := (World.cell?_of_block (a := ⟨eb, eo + k, none⟩) (hwB.block eb hDb)).trans hcell
      have hdr : kids.drop k = (kn : Int) :: kids.drop (k + 1) := by rw [drop_nth hlt, hkn]
      rw [hdr, cntL_cons] at hcn hcm
      have hplb : pl.length ≤ 90000 := by have := hpl.out; omega
      have hown := hO.out
      obtain ⟨PA, pc, hpv, hpc, _⟩ := Own.slice hown
      subst hpv
      have hR2 := hR.out
      rw [hdr] at hR2
      simp only [seqS] at hR2
      have hstE := HAD.out kn ⟨kn, rfl, hknl, hknf⟩ es1
      have HC := hid hcn; have HM := hid hcm
      clear hcell hR hkn hwB
      rcases hrr : stmtS l f (kn : Int) es1 with ⟨v, es2⟩ | wr2
      · rw [hrr] at hR2 hstE
        simp only at hR2
        have hes2 := hstE _ rfl
        simp only at hes2
        have HR2 := hid hR2; have HRR := hid hrr; have HDR := hid hdr; have HES := hid hes2
        clear hR2 hrr hdr hes2 hstE hown hcn hcm
        go_wp2_with (first | (go_at_call 39; refine (IH.out kn wr lo rb S1 Z1 { p with exprs := es1.1, stmts := es1.2 } hknl hknf hX.out (by have := HC.out; simp only; omega) (by have := HM.out; simp only; omega)).mono ?_; rintro e w5 he; simp only at he; rw [HRR.out] at he; obtain ⟨rfl, S2, Z2, hX2, hSt2⟩ := he; have hown5 := own_step hO.out (fun b hb => (hA.out.out b hb).2.1) hSt2; have HX2 := hid hX2; have HST2 := hid hSt2; clear hX2 hSt2) | (at_builtin; refine wpList_append_one ty_int rfl _ _ rfl (R := IntR) (.slice PA pl.length pc) pl rfl _ v [.int .i64 v] rfl rfl rfl hown5 rfl rfl (by simp [Value.oneCell']) (by omega) (by omega) ?_; intro g cap w6 hG))
        go_roundw
        case rel =>
          have hblk : ∀ b, (Value.slice PA pl.length pc).ownBlock = some b → b < wr.heap.size := fun b hb => Own.blk hO.out b hb
          have ha2 := hA.out.step hblk HST2.out
          have hst3 := hSt.out.trans HST2.out
          have hdr2 := HDR.out
          refine ⟨k + 1, pl ++ [v], S2, Z2, es2, by simp, by omega, hid ?_, hid (Apart.grew HX2.out hG ha2 hst3.grow.size), hid (HX2.out.grew hG ha2 hlow), hid (RStep.grew HX2.out hst3 hG ha2), ?_, ?_, hid (by have := hpl.out; simp; omega), hid ?_⟩
          · have := hG.own
            simp only [List.length_append, List.length_singleton] at this
            exact this
          · have h1 := HC.out; have h2 := HES.out
            omega
          · have h1 := HM.out; have h2 := HES.out
            omega
          · rw [HR2.out]
            rcases seqS (stmtS l f) (kids.drop (k + 1)) es2 with ⟨ps, e2⟩ | e
            · simp
            · rfl
        case measure => simp only [cnt]; omega
      · rw [hrr] at hR2
        simp only at hR2
        have HE2 := hid hR2; have HRR := hid hrr
        clear hR2 hrr hdr hstE hown hcn hcm
        go_wp2_with (go_at_call 39; refine (IH.out kn wr lo rb S1 Z1 { p with exprs := es1.1, stmts := es1.2 } hknl hknf hX.out (by have := HC.out; simp only; omega) (by have := HM.out; simp only; omega)).mono ?_; rintro e w5 he; simp only at he; rw [HRR.out] at he; obtain ⟨rfl, hBp⟩ := he)
        exact ⟨rfl, LP.no HE2.out ((RStep.below HXW.out hSt.out).trans hBp)⟩
    · have hk' : k = kids.length := by omega
      subst hk'
      obtain ⟨PA, pc, hpv, _, _⟩ := Own.slice hO.out
      subst hpv
      rw [List.drop_length] at hR
      have hR2 := hR.out
      simp only [seqS, List.append_nil] at hR2
      have hown := hO.out
      have hblk : ∀ b, (Value.slice PA pl.length pc).ownBlock = some b → b < wr.heap.size := fun b hb => Own.blk hown b hb
      have hXf := hX.out.freeze hA.out hblk hlow
      have hSf := hSt.out.freeze hA.out
      have hIf : Ints wr (fun b => Z1 b ∨ (Value.slice PA pl.length pc).ownBlock = some b) (.slice PA pl.length pc) pl := hown.row (fun _ _ h => h.len) (fun g hg => .inr hg)
      have HE2 := hid hR2; have HXF := hid hXf; have HSF := hid hSf; have HIF := hid hIf
      clear hR hR2 hown hblk hXf hSf hIf hcn hcm hpl
      go_wp2
      go_ret
      exact LP.ok HE2.out HIF.out HXF.out HSF.out
end Go.Proofs.Ytgaginegcjpddaa
/- The program's reader of forms: how much reading adds; the plain part. -/
namespace Go.Proofs.Ytgaginegcjpddaa
open Go.RowKit
theorem cntL_at (l : List Form) (f : Nat) {ks : List Int} {i : Nat} (h : i < ks.length) : cntL l f (ks.drop i) = cntE l f (nth ks i) + cntL l f (ks.drop (i + 1)) := by rw [drop_nth h, cntL_cons]
theorem seqS_lenm {σ α : Type} (m : σ → Nat) (g : Int → σ → (α × σ) ⊕ Wr) (c : Int → Nat) : ∀ (ks : List Int), (∀ n ∈ ks, ∀ s r, g n s = .inl r → m r.2 ≤ m s + c n) → ∀ s r, seqS g ks s = .inl r → m r.2 ≤ m s + (ks.map c).sum
  | [], hg, s, r, h => by simp only [seqS, Sum.inl.injEq] at h; subst h; simp
  | k :: ks, hg, s, r, h => by
    simp only [seqS] at h
    split at h
    · cases h
    · rename_i p s1 he
      split at h
      · cases h
      · rename_i ps s2 he2
        simp only [Sum.inl.injEq] at h
        subst h
        have h1 := hg k (by simp) _ _ he
        have h2 := seqS_lenm m g c ks (fun n hn => hg n (by simp [hn])) s1 _ he2
        simp only [List.map_cons, List.sum_cons]
        simp only at h1 h2 ⊢
        omega
theorem partsS_len (l : List Form) (f : Nat) (kids : List Int) (es : List Expr) (r : (Int × Int) × List Expr) (h0 : 0 < kids.length) (h : partsS l f kids es = .inl r) : r.2.length ≤ es.length + cntL l f kids := by
  have hc := cntL_at l f h0
  rw [List.drop_zero] at hc
  unfold partsS at h
  split at h
  · cases h
  · rename_i p es1 he
    have h1 := exprS_len l f _ _ _ he
    simp only at h1
    split at h
    · rename_i hl1
      have hc1 := cntL_at l f hl1
      split at h
      · cases h
      · rename_i q es2 he2
        have h2 := exprS_len l f _ _ _ he2
        simp only [Sum.inl.injEq] at h
        subst h
        simp only at h2 ⊢
        simp only [Nat.zero_add] at hc
        omega
    · simp only [Sum.inl.injEq] at h
      subst h
      simp only
      omega
theorem actBody_len (l : List Form) (f : Nat) (kids : List Int) (k o : Int) (inn : Bool) (fr : Nat) (es : List Expr) (r : PAct × List Expr) (h0 : fr < kids.length) (h : actBody l f kids k o inn fr es = .inl r) : r.2.length ≤ es.length + cntL l f kids := by
  unfold actBody at h
  split at h
  · split at h
    · cases h
    · rename_i e c es1 he
      have h1 := partsS_len l f _ _ _ (by rw [List.length_drop]; omega) he
      have h2 := cntL_drop l f kids fr
      simp only [Sum.inl.injEq] at h
      subst h
      simp only at h1 ⊢
      omega
  · cases h
theorem actS_len (l : List Form) (f : Nat) (n : Int) (es : List Expr) (r : PAct × List Expr) (h : actS l f n es = .inl r) : r.2.length ≤ es.length + cntL l f (tailK l n) := by
  unfold actS at h
  split at h
  · split at h
    · cases h
    · rename_i hk0
      split at h
      · rename_i hk1
        refine actBody_len _ _ _ _ _ _ _ _ _ ?_ h
        unfold actK at hk1
        split at hk1
        · rename_i h2; have := h2.2; omega
        · split at hk1
          · omega
          · split at hk1 <;> omega
      · rename_i hk1
        have h4 : 3 < (tailK l n).length := by
          unfold actK at hk0 hk1
          by_cases g1 : headW l n = wPut ∧ ((tailK l n).length = 2 ∨ (tailK l n).length = 3)
          · rw [if_pos g1] at hk1; omega
          · rw [if_neg g1] at hk0
            by_cases g2 : headW l n = wPush ∧ ((tailK l n).length = 4 ∨ (tailK l n).length = 5)
            · have := g2.2; omega
            · rw [if_neg g2] at hk0
              by_cases g3 : headW l n = wPull ∧ (tailK l n).length = 4
              · have := g3.2; omega
              · rw [if_neg g3] at hk0; omega
        split at h
        · split at h
          · exact actBody_len _ _ _ _ _ _ _ _ _ h4 h
          · cases h
        · cases h
  · cases h
theorem addS_len {s : ESt} {x : PStmt} {r : Int × ESt} (h : addS s x = .inl r) : r.2.1.length = s.1.length ∧ r.2.2.length = s.2.length + 1 := by
  simp only [addS, Sum.inl.injEq] at h
  subst h
  simp
theorem seqS_stmts {l : List Form} {f : Nat} {ks : List Int} {s : ESt} {r : List Int × ESt} (ih : Adds l f) (hk : ∀ k ∈ ks, Kin l f k) (h : seqS (stmtS l f) ks s = .inl r) : r.2.1.length ≤ s.1.length + cntL l f ks ∧ r.2.2.length ≤ s.2.length + cntL l f ks :=
  ⟨seqS_lenm (fun s : ESt => s.1.length) (stmtS l f) (cntE l f) ks (fun n hn s r h => (ih n (hk n hn) s r h).1) s r h,
   seqS_lenm (fun s : ESt => s.2.length) (stmtS l f) (cntE l f) ks (fun n hn s r h => (ih n (hk n hn) s r h).2) s r h⟩
theorem bodyS_len {l : List Form} {f : Nat} {n : Int} {rest : List Int} {mk : Int → List Int → PStmt} {s : ESt} {r : Int × ESt} (ih : Adds l f) (hk : ∀ k ∈ rest, Kin l f k) (h : bodyS l f (stmtS l f) n rest mk s = .inl r) :
    r.2.1.length ≤ s.1.length + (cntE l f n + cntL l f rest) ∧ r.2.2.length ≤ s.2.length + cntL l f rest + 1 := by
  unfold bodyS at h
  split at h
  · cases h
  · rename_i e es1 he
    have h1 := exprS_len l f _ _ _ he
    split at h
    · cases h
    · rename_i ps s1 he2
      have h2 := seqS_stmts ih hk he2
      have h3 := addS_len h
      simp only at h1 h2 h3
      omega
theorem kin_tail {l : List Form} (hwf : WF l) {f : Nat} {n : Int} (h : Kin l (f + 1) n) : ∀ k ∈ (fm l n).kids, Kin l f k := fun k hk => by
  obtain ⟨kn, rfl, h1, h2⟩ := h
  rw [fm_nat] at hk
  have h3 := hwf kn h1 k hk
  exact ⟨k.toNat, by omega, by omega, by omega⟩
theorem kin_up {l : List Form} {f : Nat} {n : Int} (h : Kin l f n) : Kin l (f + 1) n := by
  obtain ⟨kn, rfl, h1, h2⟩ := h
  exact ⟨kn, rfl, h1, by omega⟩
/-- what is below a form that the reader may go on to is less than what is in it -/
theorem cntL_kids {l : List Form} (hwf : WF l) {f : Nat} {k : Int} (h : Kin l f k) : cntL l f (fm l k).kids + 1 = cntE l f k := by
  obtain ⟨kn, rfl, h1, h2⟩ := h
  rw [← cntE_more hwf f kn h1 h2]
  show _ = 1 + cntL l f (fm l (kn : Int)).kids
  omega
theorem stmtS_len {l : List Form} (hwf : WF l) : ∀ f, Adds l f
  | 0 => fun n hn s r h => by simp [stmtS] at h
  | f + 1 => fun n hn s r h => by
    have ih := stmtS_len hwf f
    have hkf := kin_tail hwf hn
    have hkt : ∀ k ∈ tailK l n, Kin l f k := fun k hk => hkf k (List.mem_of_mem_drop (show k ∈ (fm l n).kids.drop 1 from hk))
    have hC : cntE l (f + 1) n = 1 + cntL l f (fm l n).kids := rfl
    have hD : cntL l f (tailK l n) ≤ cntL l f (fm l n).kids := cntL_drop l f (fm l n).kids 1
    rw [hC]
    unfold stmtS at h
    split at h
    · simp only at h
      generalize hkd : tailK l n = kids at h hkt hD
      generalize hkk : stmtK (headW l n) kids.length = k at h
      have c0 := fun h0 : 0 < kids.length => cntL_at l f h0
      have c1 := fun h1 : 1 < kids.length => cntL_at l f h1
      have c2 := fun h2 : 2 < kids.length => cntL_at l f h2
      simp only [List.drop_zero, Nat.zero_add, Nat.reduceAdd] at c0 c1 c2
      have hlen : (k = 1 → kids.length = 2) ∧ (k = 2 → 3 ≤ kids.length) ∧ (k = 4 → kids.length = 3) ∧ (k = 5 ∨ k = 6 → 1 ≤ kids.length) ∧ (k = 7 → 2 ≤ kids.length) := by
        subst hkk
        unfold stmtK
        refine ⟨?_, ?_, ?_, ?_, ?_⟩ <;> intro hq <;> (repeat' split at hq) <;> first | omega | (rename_i g; have := g.2; omega) | (rename_i g _; have := g.2; omega)
      obtain ⟨l1, l2, l4, l5, l7⟩ := hlen
      split at h
      · rename_i g; have g2 := l1 g; have e0 := c0 (by omega); have e1 := c1 (by omega)
        split at h
        · split at h
          · cases h
          · rename_i e es1 he
            have h1 := exprS_len l f _ _ _ he
            have h3 := addS_len h
            simp only at h1 h3
            omega
        · cases h
      · split at h
        · rename_i _ g; have g2 := l2 g; have e2 := cntL_drop l f kids 2
          split at h
          · split at h
            · split at h
              · cases h
              · rename_i e c es1 he
                have h1 := partsS_len l f _ _ _ (by rw [List.length_drop]; omega) he
                have h3 := addS_len h
                simp only at h1 h3
                omega
            · cases h
          · cases h
        · split at h
          · split at h
            · cases h
            · rename_i acs es1 he
              have h1 := seqS_lenm (fun s : List Expr => s.length) (actS l f) (cntE l f) kids (fun n hn s r h => by
                have := actS_len l f n s r h
                have h5 := cntL_kids hwf (hkt n hn)
                have h6 : cntL l f (tailK l n) ≤ cntL l f (fm l n).kids := cntL_drop l f (fm l n).kids 1
                omega) _ _ he
              have h3 := addS_len h
              have h4 : (kids.map (cntE l f)).sum = cntL l f kids := rfl
              simp only at h1 h3
              omega
          · split at h
            · rename_i _ _ _ g; have g2 := l4 g
              have e0 := c0 (by omega); have e1 := c1 (by omega); have e2 := c2 (by omega)
              have k1 := hkt _ (nth_mem (i := 1) (by omega : 1 < kids.length))
              have k2 := hkt _ (nth_mem (i := 2) (by omega : 2 < kids.length))
              split at h
              · split at h
                · cases h
                · rename_i e es1 he
                  have h1 := exprS_len l f _ _ _ he
                  split at h
                  · cases h
                  · rename_i ts s1 he1
                    split at h
                    · cases h
                    · rename_i fs s2 he2
                      have q1 := seqS_stmts ih (kin_tail hwf (kin_up k1)) he1
                      have q2 := seqS_stmts ih (kin_tail hwf (kin_up k2)) he2
                      have d1 := cntL_kids hwf k1
                      have d2 := cntL_kids hwf k2
                      have h3 := addS_len h
                      simp only at h1 h3 q1 q2
                      omega
              · cases h
            · split at h
              · rename_i _ _ _ _ g; have g2 := l5 g; have e0 := c0 (by omega)
                have h1 := bodyS_len ih (fun k hk => hkt k (List.mem_of_mem_drop hk)) h
                omega
              · split at h
                · rename_i _ _ _ _ _ g; have g2 := l7 g; have e0 := c0 (by omega); have e1 := c1 (by omega)
                  split at h
                  · have h1 := bodyS_len ih (fun k hk => hkt k (List.mem_of_mem_drop hk)) h
                    omega
                  · cases h
                · cases h
    · cases h
end Go.Proofs.Ytgaginegcjpddaa
/- The program's reader of forms: a statement; set. -/
namespace Go.Proofs.Ytgaginegcjpddaa
open Go.RowKit
set_option maxHeartbeats 800000 in
set_option maxRecDepth 100000 in
theorem stmt_nosplit (l : List Form) (hwf : WF l) (w : World) (lo rb : Nat) (S : Nat → Value) (Z : Nat → Prop) (p : Prg) (h : RX w l lo rb S Z p) (n : Nat) (hn : n < l.length)
    (hsp : splitOk l (n : Int) = false) (r : (Int × ESt) ⊕ Wr) (hr : r = .inr (wrongS l (n : Int))) :
    Calls Try.prog 39 #[.pointer (some ⟨rb, 0, none⟩), .int .i64 (n : Int)] w (SP w l lo rb S Z p r) := by
  have hlow := h.size.2
  have H1 := hid h; have HSP := hid hsp; have HR := hid hr
  clear h hsp hr
  go_enter Try.func39, Try.ntmps39
  go_wp2_with (go_at_call 37; refine (split_no l hwf rb _ _ (by exact H1.out.rf) n hn HSP.out).mono ?_; rintro e w2 ⟨rfl, hb2⟩)
  exact ⟨rfl, SP.no HR.out (hb2.mono hlow)⟩
def setS (l : List Form) (f : Nat) (kids : List Int) (s : ESt) : (Int × ESt) ⊕ Wr :=
  if nameOk l (nth kids 0) then
    match exprS l f (nth kids 1) s.1 with
    | .inr e => .inr e
    | .inl (e, es1) => addS (es1, s.2) { stmt0 with kind := 1, name := (fm l (nth kids 0)).text, e := e }
  else .inr (wrongS l (nth kids 0))
set_option maxHeartbeats 2000000 in
set_option maxRecDepth 100000 in
theorem stmt_set (l : List Form) (hwf : WF l) (f : Nat) (w : World) (lo rb : Nat) (S : Nat → Value) (Z : Nat → Prop) (p : Prg) (h : RX w l lo rb S Z p) (n : Nat) (hn : n < l.length) (hkr : ∀ k ∈ tailK l (n : Int), Kin l f k) (hcnt : p.exprs.length + cntL l f (tailK l (n : Int)) ≤ 99999) (hcs : p.stmts.length ≤ 99999)
    (hsp : splitOk l (n : Int) = true) (hw : headW l (n : Int) = wSet) (hc : (tailK l (n : Int)).length = 2) :
    Calls Try.prog 39 #[.pointer (some ⟨rb, 0, none⟩), .int .i64 (n : Int)] w (SP w l lo rb S Z p (setS l f (tailK l (n : Int)) (p.exprs, p.stmts))) := by
  obtain ⟨kids, hkd⟩ : ∃ kids, tailK l (n : Int) = kids := ⟨_, rfl⟩
  rw [hkd] at hkr hcnt hc ⊢
  have hlow := h.size.2
  have H := hid h; have HSP := hid hsp; have HW := hid hw; have HKD := hid hkd; have HKR := hid hkr
  clear h hsp hw hkd hkr
  go_enter Try.func39, Try.ntmps39
  go_upto_region 2 with (go_at_call 37; refine (split_yes l hwf rb _ _ (by exact H.out.rf) n hn HSP.out).mono ?_; rintro e w2 ⟨tv, rfl, htv, hb2⟩; rw [HW.out]; rw [HKD.out] at htv)
  have hX2 := H.out.below hb2
  have hS2 := RStep.of_below (rb := rb) (S := S) (Z := Z) hb2
  have hz2 := hb2.size
  obtain ⟨kb, ko, kc, rfl, hle, hcap, hkD, hkb, hc0⟩ := htv.at_ 0 (by omega)
  obtain ⟨kb1, ko1, kc1, he1, _, _, _, _, hc1⟩ := htv.at_ 1 (by omega)
  simp only [Value.slice.injEq] at he1
  obtain ⟨he1, _, rfl⟩ := he1
  cases he1
  obtain ⟨k0, hk0, hk0l, hk0f⟩ := HKR.out _ (nth_mem (i := 0) (by omega))
  obtain ⟨k1, hk1, hk1l, hk1f⟩ := HKR.out _ (nth_mem (i := 1) (by omega))
  have e0 := cntL_at l f (ks := kids) (i := 0) (by omega)
  have e1 := cntL_at l f (ks := kids) (i := 1) (by omega)
  rw [List.drop_zero, Nat.zero_add] at e0
  rw [hk1] at e1
  have hce : p.exprs.length + cntE l f (k1 : Int) ≤ 100000 := by omega
  rw [hk0, Nat.add_zero] at hc0
  rw [hk1] at hc1
  have hw0 : (wSet.toList == [115, 101, 116]) = true := by rw [ByteArray.toList_eq]; rfl
  have hw1 : ((kids.length : Int) == 2) = true := by rw [beq_iff_eq]; omega
  have hi1 : (1 : Int) < (kids.length : Int) := by omega
  have hi0 : (0 : Int) < (kids.length : Int) := by omega
  have hn7 := hX2.new_ (b := w2.heap.size) (Nat.le_refl _)
  have hA : setS l f kids (p.exprs, p.stmts) = setS l f kids (p.exprs, p.stmts) := rfl
  conv at hA => rhs; unfold setS
  rw [hk0, hk1] at hA
  have hkb2 : kb < w2.heap.size := hkb
  have HX2 := hid hX2; have HS2 := hid hS2; have HN7 := hid hn7
  clear hX2 hS2 hn7 hk0 hk1 hb2 htv hcnt e0 e1
  by_cases hno : nameOk l (k0 : Int) = true
  · rw [if_pos hno] at hA
    obtain ⟨nm, hnm⟩ : ∃ nm, (fm l (k0 : Int)).text = nm := ⟨_, rfl⟩
    rw [hnm] at hA
    have HNM := hid hnm; have HNO := hid hno
    clear hnm hno
    rcases hpp : exprS l f (k1 : Int) p.exprs with ⟨ev, es1⟩ | wr
    · rw [hpp] at hA
      simp only [addS] at hA
      have HA := hid hA; have HPP := hid hpp
      clear hA hpp
      go_wp2_with (first | (go_at_call 41; refine (name_yes l rb _ _ (by exact (HX2.out.below ((Below.refl _ _).alloc (Nat.le_refl _) _)).rf) k0 hk0l HNO.out).mono ?_; rintro e w3 ⟨rfl, hb3⟩; rw [HNM.out]; have hb7 := keep_blk hb3 (new_blk w2 _); have z0 := blk_cell hb7 0; have z1 := blk_cell hb7 1; have zf := blk_free hb7; have d1 := (hb3.cell (p := ⟨kb, ko + 1, none⟩) (show kb < (w2.alloc _).heap.size by rw [World.size_alloc]; omega)).trans ((World.cell?_of_block (a := ⟨kb, ko + 1, none⟩) (Below.heap_alloc w2 _ kb hkb2)).trans hc1); have hkn : kb ≠ w2.heap.size := (by omega); have HB7 := hid hb7; have HB3 := hid hb3; clear hb7 hb3))
      have hX5 := (((HX2.out.below ((Below.refl _ _).alloc (Nat.le_refl _) _)).below HB3.out).setOut HN7.out.1 HN7.out.2.1 HN7.out.2.2 0 (.int .u8 1)).setOut HN7.out.1 HN7.out.2.1 HN7.out.2.2 1 (.string nm)
      have hS5 := (((HS2.out.trans (RStep.of_below ((Below.refl _ _).alloc (Nat.le_refl _) _))).trans (RStep.of_below HB3.out)).setOut (b := w2.heap.size) (by omega) 0 (.int .u8 1)).setOut (b := w2.heap.size) (by omega) 1 (.string nm)
      have h75 : ((w3.setCell ⟨w2.heap.size, 0, none⟩ (.int .u8 1)).setCell ⟨w2.heap.size, 1, none⟩ (.string nm)).heap[w2.heap.size]? = some (.cells #[.int .u8 1, .string nm, .int .u8 0, .int .i64 (-1), .int .i64 (-1), .slice none 0 0, .slice none 0 0, .slice none 0 0] 77 (0, 0)) := by rw [blk_set (blk_set HB7.out _)]; rfl
      generalize (w3.setCell ⟨w2.heap.size, 0, none⟩ (.int .u8 1)).setCell ⟨w2.heap.size, 1, none⟩ (.string nm) = w6 at hX5 hS5 h75 ⊢
      refine (expr_any l hwf f k1 w6 lo rb S Z p hk1l hk1f hX5 hce).mono ?_
      rintro e w7 he
      rw [HPP.out] at he
      obtain ⟨rfl, S', Z', hX6, hSt6⟩ := he
      have f7 := hX5.fresh hS5 hSt6 (blk_lt h75) HN7.out.2.1 HN7.out.2.2
      have h76 := f7.2.2.trans h75
      have hS6 := hS5.trans hSt6
      have x3 := blk_cell h76 3; have xf := blk_free h76
      have HX6 := hid hX6; have HS6 := hid hS6; have HF7 := hid f7; have HB76 := hid h76
      clear hX6 hX5 hS5 hS6 hSt6 f7 h75 h76 z0 z1 zf d1
      go_upto_region 34 with fail
      have hX8 := HX6.out.setOut HN7.out.1 HF7.out.1 HF7.out.2.1 3 (.int .i64 ev)
      have hS8 := HS6.out.setOut (b := w2.heap.size) (by omega) 3 (.int .i64 ev)
      have h88 : (w7.setCell ⟨w2.heap.size, 3, none⟩ (.int .i64 ev)).heap[w2.heap.size]? = some (.cells #[.int .u8 1, .string nm, .int .u8 0, .int .i64 ev, .int .i64 (-1), .slice none 0 0, .slice none 0 0, .slice none 0 0] 77 (0, 0)) := by rw [blk_set HB76.out]; rfl
      generalize w7.setCell ⟨w2.heap.size, 3, none⟩ (.int .i64 ev) = w8 at hX8 hS8 h88 ⊢
      have hV : StmtV w8 Z' { stmt0 with kind := 1, name := nm, e := ev } (PStmt.cells { stmt0 with kind := 1, name := nm, e := ev } (.slice none 0 0) (.slice none 0 0) (.slice none 0 0)) := ⟨_, _, _, rfl, Row.nil _ _ _ _, Row.nil _ _ _ _, Row.nil _ _ _ _⟩
      obtain ⟨fv, hb, _⟩ := hX8.blk
      have hsl := hX8.size.1
      refine wp_push2 pt_stmts (by kernel_rfl) 0 234 _ (by kernel_rfl) (by rfl) (by rfl) (by rfl) (by omega) (R := StmtV w8 Z') rb 0 (S' 2) (.agg #[.int .u8 1, .string nm, .int .u8 0, .int .i64 ev, .int .i64 (-1), .slice none 0 0, .slice none 0 0, .slice none 0 0]) (PStmt.cells { stmt0 with kind := 1, name := nm, e := ev } (.slice none 0 0) (.slice none 0 0) (.slice none 0 0)) p.stmts { stmt0 with kind := 1, name := nm, e := ev } rfl (blk_cell hb 3) (blk_free hb 3) (fun e => (hX8.low 2 rb e).2.1 rfl) hX8.stmts ?el ?bs hV rfl (by simp [PStmt.cells, Value.oneCell']) (by omega) (by omega) ?q
      case el =>
        intro a w' o6 ho hFr hgr
        have hbb := (hgr.block w2.heap.size (blk_lt h88) (fun e => HF7.out.1 (.inr ⟨2, e.symm⟩))).trans h88
        have hc := blk_cell hbb
        have ht : a.tmps.getD 7 undef = _ := hFr.get 7 (by rfl)
        simp only [Array.getD_eq_getD_getElem?] at ht
        simp [execOp, ho, go_sem, Act.eval, ht, hc, PStmt.cells]
      case bs => intro w'; simp [go_sem, PStmt.cells, stmt0]
      case q =>
        intro B g cap w1 hG
        obtain ⟨h2, h3⟩ := hX8.pushS hG
        have h4 := hS8.trans h3
        simp only [pushAct2, Nat.add_zero, Nat.zero_add, Nat.reduceAdd]
        generalize w1.setCell ⟨rb, 3, none⟩ (.slice (some ⟨g, 0, none⟩) (p.stmts.length + 1) cap) = w9 at h2 h4 ⊢
        obtain ⟨fv2, hb2, _⟩ := h2.blk
        simp only [up] at hb2
        have q := blk_cell hb2 3
        have hl2 : (p.stmts.length : Int) + 1 ≤ 200000 := by omega
        have H2 := hid h2; have H4 := hid h4
        clear h2 h4 h3 hG hX8 hS8 h88 hV hb hb2
        go_wp2
        go_ret
        exact SP.ok HA.out H2.out H4.out
    · rw [hpp] at hA
      simp only at hA
      have HA := hid hA; have HPP := hid hpp
      clear hA hpp
      go_wp2_with (first | (go_at_call 41; refine (name_yes l rb _ _ (by exact (HX2.out.below ((Below.refl _ _).alloc (Nat.le_refl _) _)).rf) k0 hk0l HNO.out).mono ?_; rintro e w3 ⟨rfl, hb3⟩; rw [HNM.out]; have hb7 := keep_blk hb3 (new_blk w2 _); have z0 := blk_cell hb7 0; have z1 := blk_cell hb7 1; have zf := blk_free hb7; have d1 := (hb3.cell (p := ⟨kb, ko + 1, none⟩) (show kb < (w2.alloc _).heap.size by rw [World.size_alloc]; omega)).trans ((World.cell?_of_block (a := ⟨kb, ko + 1, none⟩) (Below.heap_alloc w2 _ kb hkb2)).trans hc1); have hkn : kb ≠ w2.heap.size := (by omega); have HB7 := hid hb7; have HB3 := hid hb3; clear hb7 hb3))
      have hX5 := (((HX2.out.below ((Below.refl _ _).alloc (Nat.le_refl _) _)).below HB3.out).setOut HN7.out.1 HN7.out.2.1 HN7.out.2.2 0 (.int .u8 1)).setOut HN7.out.1 HN7.out.2.1 HN7.out.2.2 1 (.string nm)
      have hS5 := (((HS2.out.trans (RStep.of_below ((Below.refl _ _).alloc (Nat.le_refl _) _))).trans (RStep.of_below HB3.out)).setOut (b := w2.heap.size) (by omega) 0 (.int .u8 1)).setOut (b := w2.heap.size) (by omega) 1 (.string nm)
      have h75 : ((w3.setCell ⟨w2.heap.size, 0, none⟩ (.int .u8 1)).setCell ⟨w2.heap.size, 1, none⟩ (.string nm)).heap[w2.heap.size]? = some (.cells #[.int .u8 1, .string nm, .int .u8 0, .int .i64 (-1), .int .i64 (-1), .slice none 0 0, .slice none 0 0, .slice none 0 0] 77 (0, 0)) := by rw [blk_set (blk_set HB7.out _)]; rfl
      generalize (w3.setCell ⟨w2.heap.size, 0, none⟩ (.int .u8 1)).setCell ⟨w2.heap.size, 1, none⟩ (.string nm) = w6 at hX5 hS5 h75 ⊢
      refine (expr_any l hwf f k1 w6 lo rb S Z p hk1l hk1f hX5 hce).mono ?_
      rintro e w7 he
      rw [HPP.out] at he
      obtain ⟨rfl, hBp⟩ := he
      exact ⟨rfl, SP.no HA.out ((RStep.below H.out hS5).trans hBp)⟩
  · rw [if_neg hno] at hA
    have hno' : nameOk l (k0 : Int) = false := by simpa using hno
    have HNO := hid hno'; have HA := hid hA
    clear hno hno' hA
    go_wp2_with (go_at_call 41; refine (name_no l rb _ _ (by exact (HX2.out.below ((Below.refl _ _).alloc (Nat.le_refl _) _)).rf) k0 hk0l HNO.out).mono ?_; rintro e w3 ⟨rfl, hb3⟩)
    exact ⟨rfl, SP.no HA.out ((RStep.below H.out (HS2.out.trans (RStep.of_below ((Below.refl _ _).alloc (Nat.le_refl _) _)))).trans (hb3.mono (by rw [World.size_alloc]; omega)))⟩
end Go.Proofs.Ytgaginegcjpddaa
