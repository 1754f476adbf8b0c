/- Rows of expressions that are the same, by a function. Printed by gen_same4.py. -/
import Derived.Test.YtlajcmoiopaemaaSame5
set_option linter.unusedVariables false
set_option linter.unusedSimpArgs false
namespace Go.Proofs.Ytlajcmoiopaemaa
open Go.RowKit
set_option maxHeartbeats 1600000 in
set_option maxRecDepth 100000 in
theorem equalStmts_any (a b : List StmtM) (v v2 : Value) (w : World) (h : StmtsR w v a) (h2 : StmtsR w v2 b) :
    Calls Try.prog 18 #[v, v2, .func (.func 19) #[] #[]] w fun e w' => Says (a = b) e ∧ Below w.heap.size w w' := by
  obtain ⟨A1, c1, rfl, hc1, hm1⟩ := Row.slice h
  obtain ⟨A2, c2, rfl, hc2, hm2⟩ := Row.slice h2
  have HD := hid h
  have HD2 := hid h2
  clear h h2
  by_cases hl : a.length = b.length
  · have HL := hid hl
    have hb2 : b.length = a.length := hl.symm
    rw [hb2]
    clear hl hb2
    go_enter Try.func18, Try.ntmps18
    go_wp2
    go_loopw [7, 8, 9, 17] (fun s7 s8 s9 s17 wr => ∃ i : Nat, i ≤ a.length ∧ s17 = .int .i64 (i : Int) ∧ Hid (Below w.heap.size w wr) ∧ Hid (∀ j, j < i → nth a j = nth b j)) (fun s7 s8 s9 s17 _ => a.length - (Go.RowKit.intOf s17).toNat)
    case atStart => exact ⟨0, by omega, rfl, hid (Below.refl _ _), hid (fun j hj => by omega)⟩
    case round =>
      obtain ⟨i, hi, rfl, HB, HN⟩ := hrel
      by_cases hlt : i < a.length
      · have hli : (i : Int) < (a.length : Int) := by omega
        obtain ⟨B, off, cs, rfl, hB, hr, _, hall⟩ := Row.elem HD.out (by omega) hlt
        obtain ⟨B2, off2, cs2, rfl, hB2, hr2, _, hall2⟩ := Row.elem HD2.out (by omega) (show i < b.length by have := HL.out; omega)
        have HNX := hid (show nth a i = nth b i → ∀ j, j < i + 1 → nth a j = nth b j from fun he j hj => (Nat.lt_or_ge j i).elim (fun h => HN.out j h) (fun h => by obtain rfl : j = i := (by omega); exact he))
        have HNE := hid (show nth a i ≠ nth b i → ¬ a = b from fun he e => he (by rw [e]))
        obtain ⟨d, hd⟩ : ∃ d, nth a i = d := ⟨_, rfl⟩
        obtain ⟨d2, hd2⟩ : ∃ d, nth b i = d := ⟨_, rfl⟩
        rw [hd, hd2] at HNX HNE
        rw [hd] at hr
        rw [hd2] at hr2
        obtain ⟨p0, p1, p2, rfl, hp0, hp1, hp2⟩ := hr
        obtain ⟨q0, q1, q2, rfl, hq0, hq1, hq2⟩ := hr2
        obtain ⟨P0, pc0, rfl, _, _⟩ := Row.slice hp0
        obtain ⟨Q0, qc0, rfl, _, _⟩ := Row.slice hq0
        obtain ⟨P1, pc1, rfl, _, _⟩ := Row.slice hp1
        obtain ⟨Q1, qc1, rfl, _, _⟩ := Row.slice hq1
        obtain ⟨P2, pc2, rfl, _, _⟩ := Row.slice hp2
        obtain ⟨Q2, qc2, rfl, _, _⟩ := Row.slice hq2
        have x0 := (HB.out.cell (p := ⟨B, off + i * 8, none⟩) hB).trans (by simpa using hall 0 _ rfl)
        have y0 := (HB.out.cell (p := ⟨B2, off2 + i * 8, none⟩) hB2).trans (by simpa using hall2 0 _ rfl)
        have x1 := (HB.out.cell (p := ⟨B, off + i * 8 + 1, none⟩) hB).trans (by simpa using hall 1 _ rfl)
        have y1 := (HB.out.cell (p := ⟨B2, off2 + i * 8 + 1, none⟩) hB2).trans (by simpa using hall2 1 _ rfl)
        have x2 := (HB.out.cell (p := ⟨B, off + i * 8 + 2, none⟩) hB).trans (by simpa using hall 2 _ rfl)
        have y2 := (HB.out.cell (p := ⟨B2, off2 + i * 8 + 2, none⟩) hB2).trans (by simpa using hall2 2 _ rfl)
        have x3 := (HB.out.cell (p := ⟨B, off + i * 8 + 3, none⟩) hB).trans (by simpa using hall 3 _ rfl)
        have y3 := (HB.out.cell (p := ⟨B2, off2 + i * 8 + 3, none⟩) hB2).trans (by simpa using hall2 3 _ rfl)
        have x4 := (HB.out.cell (p := ⟨B, off + i * 8 + 4, none⟩) hB).trans (by simpa using hall 4 _ rfl)
        have y4 := (HB.out.cell (p := ⟨B2, off2 + i * 8 + 4, none⟩) hB2).trans (by simpa using hall2 4 _ rfl)
        have x5 := (HB.out.cell (p := ⟨B, off + i * 8 + 5, none⟩) hB).trans (by simpa using hall 5 _ rfl)
        have y5 := (HB.out.cell (p := ⟨B2, off2 + i * 8 + 5, none⟩) hB2).trans (by simpa using hall2 5 _ rfl)
        have x6 := (HB.out.cell (p := ⟨B, off + i * 8 + 6, none⟩) hB).trans (by simpa using hall 6 _ rfl)
        have y6 := (HB.out.cell (p := ⟨B2, off2 + i * 8 + 6, none⟩) hB2).trans (by simpa using hall2 6 _ rfl)
        have x7 := (HB.out.cell (p := ⟨B, off + i * 8 + 7, none⟩) hB).trans (by simpa using hall 7 _ rfl)
        have y7 := (HB.out.cell (p := ⟨B2, off2 + i * 8 + 7, none⟩) hB2).trans (by simpa using hall2 7 _ rfl)
        have hBr : B2 < wr.heap.size := Nat.lt_of_lt_of_le hB2 HB.out.size
        have hBn : ¬ B2 = wr.heap.size := by omega
        have hBr1 : B < wr.heap.size := Nat.lt_of_lt_of_le hB HB.out.size
        have hBn1 : ¬ B = wr.heap.size := by omega
        have HP0 := hid (hp0.below HB.out)
        have HQ0 := hid (hq0.below HB.out)
        have HP1 := hid (hp1.below HB.out)
        have HQ1 := hid (hq1.below HB.out)
        have HP2 := hid (hp2.below HB.out)
        have HQ2 := hid (hq2.below HB.out)
        clear hall hall2 hd hd2 HN hp0 hq0 hp1 hq1 hp2 hq2
        by_cases he : EqP d d2
        · have HE := hid he
          clear he
          have HQX := hid (HNX.out HE.out)
          clear HNE HNX
          go_wp2_with (go_at_call 19; refine (sameStmt_any d d2 _ _ _ _ _ _ _ (by exact HP0.out.below (by exact (((Below.refl wr.heap.size wr).alloc (Nat.le_refl _) _).alloc (by simp) _))) (by exact HQ0.out.below (by exact (((Below.refl wr.heap.size wr).alloc (Nat.le_refl _) _).alloc (by simp) _))) (by exact HP1.out.below (by exact (((Below.refl wr.heap.size wr).alloc (Nat.le_refl _) _).alloc (by simp) _))) (by exact HQ1.out.below (by exact (((Below.refl wr.heap.size wr).alloc (Nat.le_refl _) _).alloc (by simp) _))) (by exact HP2.out.below (by exact (((Below.refl wr.heap.size wr).alloc (Nat.le_refl _) _).alloc (by simp) _))) (by exact HQ2.out.below (by exact (((Below.refl wr.heap.size wr).alloc (Nat.le_refl _) _).alloc (by simp) _)))).mono ?_; rintro e w2 ⟨⟨r, rfl, hr⟩, hb2⟩; obtain rfl : r = true := hr.2 HE.out; have HB3 := hid (HB.out.trans ((((Below.refl wr.heap.size wr).alloc (Nat.le_refl _) _).alloc (by simp) _).trans (hb2.mono (by simp; omega)) |>.mono HB.out.size)))
          go_roundw
          case rel => exact ⟨i + 1, by omega, by simp, HB3, HQX⟩
          case measure => simp [Go.RowKit.intOf]; omega
        · have HE := hid he
          clear he
          have HQX := hid (HNE.out HE.out)
          clear HNE HNX
          go_wp2_with (go_at_call 19; refine (sameStmt_any d d2 _ _ _ _ _ _ _ (by exact HP0.out.below (by exact (((Below.refl wr.heap.size wr).alloc (Nat.le_refl _) _).alloc (by simp) _))) (by exact HQ0.out.below (by exact (((Below.refl wr.heap.size wr).alloc (Nat.le_refl _) _).alloc (by simp) _))) (by exact HP1.out.below (by exact (((Below.refl wr.heap.size wr).alloc (Nat.le_refl _) _).alloc (by simp) _))) (by exact HQ1.out.below (by exact (((Below.refl wr.heap.size wr).alloc (Nat.le_refl _) _).alloc (by simp) _))) (by exact HP2.out.below (by exact (((Below.refl wr.heap.size wr).alloc (Nat.le_refl _) _).alloc (by simp) _))) (by exact HQ2.out.below (by exact (((Below.refl wr.heap.size wr).alloc (Nat.le_refl _) _).alloc (by simp) _)))).mono ?_; rintro e w2 ⟨⟨r, rfl, hr⟩, hb2⟩; obtain rfl : r = false := (by cases r with | false => rfl | true => exact (HE.out (hr.1 rfl)).elim); have HB3 := hid (HB.out.trans ((((Below.refl wr.heap.size wr).alloc (Nat.le_refl _) _).alloc (by simp) _).trans (hb2.mono (by simp; omega)) |>.mono HB.out.size)))
          go_ret
          exact ⟨says_false HQX.out, HB3.out⟩
      · have hie : i = a.length := by omega
        subst hie
        have hli : ¬ ((a.length : Int) < (a.length : Int)) := by omega
        have HQ := hid (ext_nth HL.out HN.out)
        clear HN
        go_wp2
        go_ret
        exact ⟨says_true HQ.out, HB.out⟩
  · have hli0 : ¬ ((a.length : Int) = (b.length : Int)) := by omega
    have HQ := hid (show ¬ a = b from fun e => hl (by rw [e]))
    clear hl
    go_enter Try.func18, Try.ntmps18
    go_wp2
    go_ret
    exact ⟨says_false HQ.out, Below.refl _ _⟩
end Go.Proofs.Ytlajcmoiopaemaa
