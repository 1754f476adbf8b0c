/- Operations' words, and programs that are the same: the law's walk. -/
import Derived.Test.YtlajcmoiopaemaaRg
import Derived.Test.YtlajcmoiopaemaaSame10
import Derived.Test.YtlajcmoiopaemaaPart
import Derived.Test.YtlajcmoiopaemaaOpW3
import Derived.Deep.RegionHeld3
import Derived.Deep.CutRange
set_option linter.unusedVariables false
set_option linter.unusedSimpArgs false
namespace Go.Proofs.Ytlajcmoiopaemaa
open Go.RowKit
theorem ProgR.slices {w : World} {x0 x1 x2 x3 : Value} {p : ProgM} (h : ProgR w (.agg #[x0, x1, x2, x3]) p) : ∃ A0 n0 c0 A1 n1 c1 A2 n2 c2 A3 n3 c3, x0 = .slice A0 n0 c0 ∧ x1 = .slice A1 n1 c1 ∧ x2 = .slice A2 n2 c2 ∧ x3 = .slice A3 n3 c3 := by
  obtain ⟨a, b, c, d, e, h0, h1, h2, h3⟩ := h.out
  simp only [Value.agg.injEq, Array.mk.injEq, List.cons.injEq, and_true] at e
  obtain ⟨rfl, rfl, rfl, rfl⟩ := e
  obtain ⟨A0, c0, e0, _, _⟩ := Row.slice h0
  obtain ⟨A1, c1, e1, _, _⟩ := Row.slice h1
  obtain ⟨A2, c2, e2, _, _⟩ := Row.slice h2
  obtain ⟨A3, c3, e3, _, _⟩ := Row.slice h3
  exact ⟨_, _, _, _, _, _, _, _, _, _, _, _, e0, e1, e2, e3⟩
theorem below_setRow {n : Nat} {w w' : World} (h : Below n w w') {b : Nat} (hb : n ≤ b) (cs : Array Value) : Below n w (w'.setRow b cs) :=
  ⟨h.os, h.tape, h.output, by simpa using h.size, fun k hk => (setRow_other _ _ _ _ (by omega)).trans (h.block k hk)⟩
theorem below_next {W0 w w' : World} {R : Prop} (h : Below W0.heap.size W0 w ∧ R) (hb : Below w.heap.size w w') : Below W0.heap.size W0 w' := h.1.trans (hb.mono h.1.size)
theorem below_now {W0 w : World} {R : Prop} (h : Below W0.heap.size W0 w ∧ R) : Below W0.heap.size W0 w := h.1
theorem says_eq {a b : Bool} {P : Prop} (h : a = true ↔ P) (h2 : b = true ↔ P) : b = a := by
  cases a <;> cases b <;> simp_all
def zero4 : Array Value := #[.slice none 0 0, .slice none 0 0, .slice none 0 0, .slice none 0 0]
def post5 (wA : World) (n : Nat) (V0 V1 : Value) (q0 q1 : ProgM) : Nat → Value → World → Prop
  | 0, u, _ => u = .pointer (some ⟨n, 0, none⟩)
  | 1, u, _ => u = V0
  | 2, u, _ => ∃ x0 x1 x2 x3, u = .agg #[x0, x1, x2, x3] ∧ ProgR wA (.agg #[x0, x1, x2, x3]) q0
  | 3, u, _ => u = .pointer (some ⟨n, 4, none⟩)
  | 4, u, _ => u = V1
  | 5, u, _ => ∃ x0 x1 x2 x3, u = .agg #[x0, x1, x2, x3] ∧ ProgR wA (.agg #[x0, x1, x2, x3]) q1
  | 6, u, w => ∃ b, u = .pointer (some ⟨b, 0, none⟩) ∧ wA.heap.size ≤ b ∧ w.heap[b]? = some (.cells zero4 28 (0, 0))
  | 7, u, w => ∃ b, u = .pointer (some ⟨b, 0, none⟩) ∧ wA.heap.size ≤ b ∧ w.heap[b]? = some (.cells zero4 28 (0, 0))
  | _, _, _ => True
theorem post5_stab {wA : World} {n : Nat} {V0 V1 : Value} {q0 q1 : ProgM} {w w' : World} (hb : Below w.heap.size w w') {i : Nat} {u : Value} (h : post5 wA n V0 V1 q0 q1 i u w) : post5 wA n V0 V1 q0 q1 i u w' := by
  unfold post5 at h ⊢
  split at h <;> first
    | exact h
    | (obtain ⟨tb, h1, h2, h3⟩ := h; exact ⟨tb, h1, h2, (hb.block tb (blk_lt h3)).trans h3⟩)
set_option maxHeartbeats 6400000 in
set_option maxRecDepth 100000 in
theorem lawProg (o : Int) (ho : 0 ≤ o ∧ o ≤ 255) (s : ByteArray) (hs : s.size ≤ 9223372036854775807) (p0 p1 : ProgM) (A0 A1 A2 A3 B0 B1 B2 B3 : Option Addr) (n0 n1 n2 n3 m0 m1 m2 m3 c0 c1 c2 c3 d0 d1 d2 d3 : Nat) (w : World)
    (h0 : ProgR w (.agg #[.slice A0 n0 c0, .slice A1 n1 c1, .slice A2 n2 c2, .slice A3 n3 c3]) p0) (h1 : ProgR w (.agg #[.slice B0 m0 d0, .slice B1 m1 d1, .slice B2 m2 d2, .slice B3 m3 d3]) p1)
    (hlive : ∀ w, Calls Try.prog 7 #[] w fun e w' => e = .returned (.bool true) ∧ Below w.heap.size w w') :
    Calls Try.prog 3 #[.int .u8 o, .string s, .agg #[.slice A0 n0 c0, .slice A1 n1 c1, .slice A2 n2 c2, .slice A3 n3 c3, .slice B0 m0 d0, .slice B1 m1 d1, .slice B2 m2 d2, .slice B3 m3 d3]] w fun e w' => e = .returned (.bool true) ∧ Below w.heap.size w w' := by
  have HS := hid hs
  have HO := hid ho
  have LV := hid hlive
  have HBX := hid ((Below.refl w.heap.size w).alloc (Nat.le_refl _) (.cells #[.slice A0 n0 c0, .slice A1 n1 c1, .slice A2 n2 c2, .slice A3 n3 c3, .slice B0 m0 d0, .slice B1 m1 d1, .slice B2 m2 d2, .slice B3 m3 d3] 29))
  have hnb := new_blk w (.cells #[.slice A0 n0 c0, .slice A1 n1 c1, .slice A2 n2 c2, .slice A3 n3 c3, .slice B0 m0 d0, .slice B1 m1 d1, .slice B2 m2 d2, .slice B3 m3 d3] 29)
  have HP0 := hid (h0.below HBX.out)
  have HP1 := hid (h1.below HBX.out)
  clear hs ho hlive h0 h1
  have HNB := hid hnb
  clear hnb
  go_enter Try.func3, Try.ntmps3
  go_upto_if 15 with fail
  go_cut [1] from 13 (fun s1 wx => ∃ s' : ByteArray, s1 = .string s' ∧ Hid (s'.size ≤ 9223372036854775807) ∧ wx = w.alloc (.cells #[.slice A0 n0 c0, .slice A1 n1 c1, .slice A2 n2 c2, .slice A3 n3 c3, .slice B0 m0 d0, .slice B1 m1 d1, .slice B2 m2 d2, .slice B3 m3 d3] 29))
  case first =>
    by_cases h20 : 20 < s.size
    · have hl : (20 : Int) < (s.size : Int) := by omega
      have hsl : ∀ W, (Instr.slice 9 (.string s) none (some (.int .i64 20)) none).run Try.prog W = .ok (.string (s.extract 0 20)) W := fun W => by
        have h20' : (20 : Int) ≤ (s.size : Int) := by omega
        simp [Instr.slice, run_underlying Try.underlying9, Instr.sliceBounds, Instr.sliceBound, h20', Result.andThen, asIntOf]
      go_wp2
      go_meet
      case rel => exact ⟨_, rfl, hid (by rw [ByteArray.size_extract]; omega), rfl⟩
    · have hl : ¬ (20 : Int) < (s.size : Int) := by omega
      go_wp2
      go_meet
      case rel => exact ⟨s, rfl, HS, rfl⟩
  case rest =>
    obtain ⟨s', rfl, HS', rfl⟩ := hcut
    generalize hwA : w.alloc (.cells #[.slice A0 n0 c0, .slice A1 n1 c1, .slice A2 n2 c2, .slice A3 n3 c3, .slice B0 m0 d0, .slice B1 m1 d1, .slice B2 m2 d2, .slice B3 m3 d3] 29) = wA at HBX HP0 HP1 HNB ⊢
    clear hwA
    go_wp2_with (first
      | (go_at_call 4; refine (readOp_any _ _ HS'.out).mono ?_; rintro e w1 ⟨rfl, hb1⟩)
      | (go_at_call 5; refine (refReadOp_any _ _).mono ?_; rintro e w2 ⟨rfl, hb2⟩))
    have hb12 := hb1.trans (hb2.mono hb1.size)
    have hblk := (hb12.block _ (blk_lt HNB.out)).trans HNB.out
    have k0 : w2.cell? ⟨w.heap.size, 0, none⟩ = some (.slice A0 n0 c0) := by rw [blk_cell hblk]; rfl
    have k1 : w2.cell? ⟨w.heap.size, 1, none⟩ = some (.slice A1 n1 c1) := by rw [blk_cell hblk]; rfl
    have k2 : w2.cell? ⟨w.heap.size, 2, none⟩ = some (.slice A2 n2 c2) := by rw [blk_cell hblk]; rfl
    have k3 : w2.cell? ⟨w.heap.size, 3, none⟩ = some (.slice A3 n3 c3) := by rw [blk_cell hblk]; rfl
    have k4 : w2.cell? ⟨w.heap.size, 4, none⟩ = some (.slice B0 m0 d0) := by rw [blk_cell hblk]; rfl
    have k5 : w2.cell? ⟨w.heap.size, 5, none⟩ = some (.slice B1 m1 d1) := by rw [blk_cell hblk]; rfl
    have k6 : w2.cell? ⟨w.heap.size, 6, none⟩ = some (.slice B2 m2 d2) := by rw [blk_cell hblk]; rfl
    have k7 : w2.cell? ⟨w.heap.size, 7, none⟩ = some (.slice B3 m3 d3) := by rw [blk_cell hblk]; rfl
    have HQ0 := hid (HP0.out.below hb12)
    have HQ1 := hid (HP1.out.below hb12)
    have HB2 := hid (HBX.out.trans (hb12.mono HBX.out.size))
    clear HNB hblk HP0 HP1 HBX hb1 hb2 hb12
    have hbr : Below w2.heap.size w2 w2.drew := drewB (Below.refl _ _)
    go_cut [11, 12] from 28 to 33 (fun s11 s12 wx => ∃ (b b' : Nat) (x0 x1 x2 x3 y0 y1 y2 y3 : Value) (q q' : ProgM), s11 = .pointer (some ⟨b, 0, none⟩) ∧ s12 = .pointer (some ⟨b', 0, none⟩) ∧ Hid (Below w2.heap.size w2 wx) ∧ Hid (wx.heap[b]? = some (.cells #[x0, x1, x2, x3] 28 (0, 0))) ∧ Hid (wx.heap[b']? = some (.cells #[y0, y1, y2, y3] 28 (0, 0))) ∧ Hid (ProgR wx (.agg #[x0, x1, x2, x3]) q) ∧ Hid (ProgR wx (.agg #[y0, y1, y2, y3]) q'))
    case first =>
      rename_i J KK hJ hK
      refine wp_region_rg 8 (fun w' => Below w2.heap.size w2 w') (post5 w2 w.heap.size (.agg #[.slice A0 n0 c0, .slice A1 n1 c1, .slice A2 n2 c2, .slice A3 n3 c3]) (.agg #[.slice B0 m0 d0, .slice B1 m1 d1, .slice B2 m2 d2, .slice B3 m3 d3]) (partS p0) (partS p1)) (by kernel_rfl) (by kernel_rfl) (by rfl) hbr ?rgO ?rgE
      case rgO =>
        refine ⟨?_, ?_, ?_, ?_, ?_, ?_, ?_, ?_, trivial⟩
        · refine RgOk.val rfl fun a wq hI hD hF => ⟨?_, ?_, ?_⟩
          rotate_left 2
          · exact rfl
          · have s5 : a.tmps.getD 5 undef = _ := hF.get 5 rfl; simp [execOp, go_sem, Act.eval, s5]
        · refine RgOk.val rfl fun a wq hI hD hF => ⟨?_, ?_, ?_⟩
          rotate_left 2
          · exact rfl
          · have d0 : a.tmps.getD 28 undef = _ := hD.get 0 rfl rfl rfl; simp [execOp, go_sem, Act.eval, d0, (cell_keep hI k0), (cell_keep hI k1), (cell_keep hI k2), (cell_keep hI k3)]
        · refine RgOk.call rfl 6 fun a w1 hI hD hF => ?_
          have hI : Below w2.heap.size w2 w1 := hI
          have d1 : a.tmps.getD 29 undef = _ := hD.get 1 rfl rfl rfl
          refine ⟨_, by simp [execOp, go_sem, Act.eval, d1]; rfl, ?_⟩
          refine (part_any p0 _ _ (HQ0.out.below hI)).mono ?_
          rintro e w3 ⟨⟨x0, x1, x2, x3, rfl, hx⟩, hb⟩
          exact ⟨_, rfl, hI.trans (hb.mono hI.size), ⟨x0, x1, x2, x3, rfl, hx _ HQ0.out⟩, fun i u _ h => post5_stab hb h⟩
        · refine RgOk.val rfl fun a wq hI hD hF => ⟨?_, ?_, ?_⟩
          rotate_left 2
          · exact rfl
          · have s5 : a.tmps.getD 5 undef = _ := hF.get 5 rfl; simp [execOp, go_sem, Act.eval, s5]
        · refine RgOk.val rfl fun a wq hI hD hF => ⟨?_, ?_, ?_⟩
          rotate_left 2
          · exact rfl
          · have d3 : a.tmps.getD 31 undef = _ := hD.get 3 rfl rfl rfl; simp [execOp, go_sem, Act.eval, d3, (cell_keep hI k4), (cell_keep hI k5), (cell_keep hI k6), (cell_keep hI k7)]
        · refine RgOk.call rfl 6 fun a w1 hI hD hF => ?_
          have hI : Below w2.heap.size w2 w1 := hI
          have d1 : a.tmps.getD 32 undef = _ := hD.get 4 rfl rfl rfl
          refine ⟨_, by simp [execOp, go_sem, Act.eval, d1]; rfl, ?_⟩
          refine (part_any p1 _ _ (HQ1.out.below hI)).mono ?_
          rintro e w3 ⟨⟨x0, x1, x2, x3, rfl, hx⟩, hb⟩
          exact ⟨_, rfl, hI.trans (hb.mono hI.size), ⟨x0, x1, x2, x3, rfl, hx _ HQ1.out⟩, fun i u _ h => post5_stab hb h⟩
        · refine RgOk.turn rfl fun a w1 hI hD hF => ⟨_, _, by simp [execOp, go_sem]; rfl, Below.alloc hI hI.size _, ⟨_, rfl, hI.size, new_blk _ _⟩, fun i u _ h => post5_stab ((Below.refl _ _).alloc (Nat.le_refl _) _) h⟩
        · refine RgOk.turn rfl fun a w1 hI hD hF => ⟨_, _, by simp [execOp, go_sem]; rfl, Below.alloc hI hI.size _, ⟨_, rfl, hI.size, new_blk _ _⟩, fun i u _ h => post5_stab ((Below.refl _ _).alloc (Nat.le_refl _) _) h⟩
      case rgE =>
        intro vs w1 hI hP
        obtain ⟨x0, x1, x2, x3, e2, hx⟩ := hP 2 _ _ (by omega) rfl rfl
        obtain ⟨y0, y1, y2, y3, e5, hy⟩ := hP 5 _ _ (by omega) rfl rfl
        obtain ⟨b, e6, hb, hblk⟩ := hP 6 _ _ (by omega) rfl rfl
        obtain ⟨b', e7, hb', hblk'⟩ := hP 7 _ _ (by omega) rfl rfl
        have hI : Below w2.heap.size w2 w1 := hI
        have ho0 : (#[x0, x1, x2, x3] : Array Value).all (·.oneCell') = true := by
          obtain ⟨_, _, _, _, _, _, _, _, _, _, _, _, rfl, rfl, rfl, rfl⟩ := hx.slices
          simp [Value.oneCell']
        have ho1 : (#[y0, y1, y2, y3] : Array Value).all (·.oneCell') = true := by
          obtain ⟨_, _, _, _, _, _, _, _, _, _, _, _, rfl, rfl, rfl, rfl⟩ := hy.slices
          simp [Value.oneCell']
        simp only [rgPut, List.take, List.drop, Nat.zero_add, Nat.reduceAdd, e2, e5, e6, e7]
        clear hP e2 e5 e6 e7
        simp only [Act.put, List.setIfInBounds_toArray, List.set_cons_zero, List.set_cons_succ]
        refine wpList_store_row rfl 28 (.tmp 11) (.tmp 30) rfl b #[x0, x1, x2, x3] rfl rfl 28 _ hblk (by kernel_rfl) rfl ho0 ?_
        have hz := setRow_heap w1 b _ #[x0, x1, x2, x3] _ _ hblk
        have hold : ∃ old : Array Value, (w1.setRow b #[x0, x1, x2, x3]).heap[b']? = some (.cells old 28 (0, 0)) ∧ old.size = 4 := by
          by_cases e : b' = b
          · subst e; exact ⟨_, hz, rfl⟩
          · exact ⟨_, (setRow_other _ _ _ _ e).trans hblk', rfl⟩
        obtain ⟨old, hw', hos⟩ := hold
        refine wpList_store_row rfl 28 (.tmp 12) (.tmp 33) rfl b' #[y0, y1, y2, y3] rfl rfl 28 old hw' (by kernel_rfl) hos ho1 ?_
        refine wpList_nil ?_
        have hz2 := setRow_heap _ b' _ #[y0, y1, y2, y3] _ _ hw'
        have hBz := below_setRow (below_setRow hI hb #[x0, x1, x2, x3]) hb' #[y0, y1, y2, y3]
        simp only [Act.put, List.setIfInBounds_toArray, List.set_cons_zero, List.set_cons_succ]
        refine hK _ _ (Met.intro (hJ _ _ ?_))
        (repeat apply Exists.intro)
        refine ⟨?_, rfl⟩
        by_cases e : b' = b
        · subst e
          exact ⟨b', b', _, _, _, _, _, _, _, _, _, _, rfl, rfl, hid hBz, hid hz2, hid hz2, hid (hy.below hBz), hid (hy.below hBz)⟩
        · exact ⟨b, b', _, _, _, _, _, _, _, _, _, _, rfl, rfl, hid hBz, hid ((setRow_other _ _ _ _ (fun h => e h.symm)).trans hz), hid hz2, hid (hx.below hBz), hid (hy.below hBz)⟩
    case rest =>
      obtain ⟨b, b', x0, x1, x2, x3, y0, y1, y2, y3, q, q', rfl, rfl, HBc, HX, HY, HPX, HPY⟩ := hcut
      clear k0 k1 k2 k3 k4 k5 k6 k7 HQ0 HQ1 hbr
      have HSK := hid (show ∀ w', Below wc.heap.size wc w' → (fun w' => Below wc.heap.size wc w' ∧ w'.cell? ⟨b, 0, none⟩ = some x0 ∧ w'.cell? ⟨b, 1, none⟩ = some x1 ∧ w'.cell? ⟨b, 2, none⟩ = some x2 ∧ w'.cell? ⟨b, 3, none⟩ = some x3 ∧ w'.cell? ⟨b', 0, none⟩ = some y0 ∧ w'.cell? ⟨b', 1, none⟩ = some y1 ∧ w'.cell? ⟨b', 2, none⟩ = some y2 ∧ w'.cell? ⟨b', 3, none⟩ = some y3) w' from fun w' hb => ⟨hb, cell_keep hb (by rw [blk_cell HX.out]; rfl), cell_keep hb (by rw [blk_cell HX.out]; rfl), cell_keep hb (by rw [blk_cell HX.out]; rfl), cell_keep hb (by rw [blk_cell HX.out]; rfl), cell_keep hb (by rw [blk_cell HY.out]; rfl), cell_keep hb (by rw [blk_cell HY.out]; rfl), cell_keep hb (by rw [blk_cell HY.out]; rfl), cell_keep hb (by rw [blk_cell HY.out]; rfl)⟩)
      obtain ⟨ow, how⟩ : ∃ ow, opWordS o = ow := ⟨_, rfl⟩
      have HOW := hid how
      obtain ⟨r1, hr1⟩ : ∃ r, (readOpS s').1 = r := ⟨_, rfl⟩
      obtain ⟨r2, hr2⟩ : ∃ r, (readOpS s').2 = r := ⟨_, rfl⟩
      rw [hr1, hr2]
      clear how hr1 hr2
      have HW0 := hid (HB2.out.trans (HBc.out.mono HB2.out.size))
      clear HX HY HBc HB2
      go_wp2
      go_region_held3 (fun w' => Below wc.heap.size wc w' ∧ w'.cell? ⟨b, 0, none⟩ = some x0 ∧ w'.cell? ⟨b, 1, none⟩ = some x1 ∧ w'.cell? ⟨b, 2, none⟩ = some x2 ∧ w'.cell? ⟨b, 3, none⟩ = some x3 ∧ w'.cell? ⟨b', 0, none⟩ = some y0 ∧ w'.cell? ⟨b', 1, none⟩ = some y1 ∧ w'.cell? ⟨b', 2, none⟩ = some y2 ∧ w'.cell? ⟨b', 3, none⟩ = some y3)
        (first | assumption | exact HSK.out _ (drewB (Below.refl _ _)) | exact HSK.out _ (below_next (by assumption) hb6))
        (first
          | (go_at_call 7; refine (LV.out _).mono ?_; rintro e w6 ⟨rfl, hb6⟩)
          | (go_at_call 8; refine (opWord_any _ _ HO.out.1).mono ?_; rw [HOW.out]; rintro e w6 ⟨rfl, hb6⟩)
          | (go_at_call 9; refine (refOpWord_any _ _ HO.out.1 HO.out.2).mono ?_; rw [HOW.out]; rintro e w6 ⟨rfl, hb6⟩)
          | (go_at_call 10; (with_reducible refine (progSame_any q q _ _ _ (HPX.out.below (below_now (by assumption))) (HPX.out.below (below_now (by assumption)))).mono ?_); rintro e w6 ⟨⟨r, rfl, hr⟩, hb6⟩; obtain rfl : r = true := hr.2 rfl; clear hr)
          | (go_at_call 10; (with_reducible refine (progSame_any q q' _ _ _ (HPX.out.below (below_now (by assumption))) (HPY.out.below (below_now (by assumption)))).mono ?_); rintro e w6 ⟨⟨ra, rfl, hra⟩, hb6⟩; have HRA := hid hra; clear hra)
          | (go_at_call 11; (with_reducible refine (refSame_any q q' _ _ _ (HPX.out.below (below_now (by assumption))) (HPY.out.below (below_now (by assumption)))).mono ?_); rintro e w6 ⟨⟨rb, rfl, hrb⟩, hb6⟩; obtain rfl : rb = ra := says_eq HRA.out hrb; clear hrb))
      have HF := hid (HW0.out.trans ((below_now (by assumption)).mono HW0.out.size))
      go_wp2
      go_ret
      exact ⟨rfl, HF.out⟩
end Go.Proofs.Ytlajcmoiopaemaa
