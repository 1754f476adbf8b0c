/- Lists of numbers, of declarations, of acts that are the same. Printed by gen_same.py. -/
import Derived.Test.YtlajcmoiopaemaaSame2
set_option linter.unusedVariables false
set_option linter.unusedSimpArgs false
namespace Go.Proofs.Ytlajcmoiopaemaa
open Go.RowKit
set_option maxHeartbeats 1600000 in
set_option maxRecDepth 100000 in
theorem equalActs_any (a b : List ActM) (v v2 : Value) (w : World) (h : ActsR w v a) (h2 : ActsR w v2 b) :
    Calls Try.prog 28 #[v, v2] w fun e w' => Says (a = b) e ∧ Below w.heap.size w w' := by
  obtain ⟨A1, c1, rfl, hc1, hm1⟩ := Row.slice h
  obtain ⟨A2, c2, rfl, hc2, hm2⟩ := Row.slice h2
  have HD := hid h
  have HD2 := hid h2
  clear h h2
  by_cases hl : a.length = b.length
  · have HL := hid hl
    have hb2 : b.length = a.length := hl.symm
    rw [hb2]
    clear hl hb2
    go_enter Try.func28, Try.ntmps28
    go_wp2
    go_loopw [5, 13] (fun s5 s13 wr => ∃ i : Nat, i ≤ a.length ∧ s13 = .int .i64 (i : Int) ∧ Hid (Below w.heap.size w wr) ∧ Hid (∀ j, j < i → nth a j = nth b j)) (fun s5 s13 _ => a.length - (Go.RowKit.intOf s13).toNat)
    case atStart => exact ⟨0, by omega, rfl, hid (Below.refl _ _), hid (fun j hj => by omega)⟩
    case round =>
      obtain ⟨i, hi, rfl, HB, HN⟩ := hrel
      by_cases hlt : i < a.length
      · have hli : (i : Int) < (a.length : Int) := by omega
        obtain ⟨B, off, cs, rfl, hB, hr, _, hall⟩ := Row.elem HD.out (by omega) hlt
        obtain ⟨B2, off2, cs2, rfl, hB2, hr2, _, hall2⟩ := Row.elem HD2.out (by omega) (show i < b.length by have := HL.out; omega)
        have hr' : cs = _ := hr
        have hr2' : cs2 = _ := hr2
        subst hr' hr2'
        have x0 := (HB.out.cell (p := ⟨B, off + i * 6, none⟩) hB).trans (by simpa using hall 0 _ rfl)
        have y0 := (HB.out.cell (p := ⟨B2, off2 + i * 6, none⟩) hB2).trans (by simpa using hall2 0 _ rfl)
        have x1 := (HB.out.cell (p := ⟨B, off + i * 6 + 1, none⟩) hB).trans (by simpa using hall 1 _ rfl)
        have y1 := (HB.out.cell (p := ⟨B2, off2 + i * 6 + 1, none⟩) hB2).trans (by simpa using hall2 1 _ rfl)
        have x2 := (HB.out.cell (p := ⟨B, off + i * 6 + 2, none⟩) hB).trans (by simpa using hall 2 _ rfl)
        have y2 := (HB.out.cell (p := ⟨B2, off2 + i * 6 + 2, none⟩) hB2).trans (by simpa using hall2 2 _ rfl)
        have x3 := (HB.out.cell (p := ⟨B, off + i * 6 + 3, none⟩) hB).trans (by simpa using hall 3 _ rfl)
        have y3 := (HB.out.cell (p := ⟨B2, off2 + i * 6 + 3, none⟩) hB2).trans (by simpa using hall2 3 _ rfl)
        have x4 := (HB.out.cell (p := ⟨B, off + i * 6 + 4, none⟩) hB).trans (by simpa using hall 4 _ rfl)
        have y4 := (HB.out.cell (p := ⟨B2, off2 + i * 6 + 4, none⟩) hB2).trans (by simpa using hall2 4 _ rfl)
        have x5 := (HB.out.cell (p := ⟨B, off + i * 6 + 5, none⟩) hB).trans (by simpa using hall 5 _ rfl)
        have y5 := (HB.out.cell (p := ⟨B2, off2 + i * 6 + 5, none⟩) hB2).trans (by simpa using hall2 5 _ rfl)
        have HNX := hid (show nth a i = nth b i → ∀ j, j < i + 1 → nth a j = nth b j from fun he j hj => (Nat.lt_or_ge j i).elim (fun h => HN.out j h) (fun h => by obtain rfl : j = i := (by omega); exact he))
        have HNE := hid (show nth a i ≠ nth b i → ¬ a = b from fun he e => he (by rw [e]))
        obtain ⟨d, hd⟩ : ∃ d, nth a i = d := ⟨_, rfl⟩
        obtain ⟨d2, hd2⟩ : ∃ d, nth b i = d := ⟨_, rfl⟩
        rw [hd, hd2] at HNX HNE
        rw [hd] at x0 x1 x2 x3 x4 x5
        rw [hd2] at y0 y1 y2 y3 y4 y5
        clear hall hall2 hd hd2 HN
        have HB8 := hid (drewB HB.out)
        obtain ⟨dk, dn, dp, di, de, dc⟩ := d
        obtain ⟨ek, en, ep, ei, ee, ec⟩ := d2
        by_cases n0 : dk = ek
        · subst n0
          by_cases n1 : dn = en
          · subst n1
            by_cases n2 : dp = ep
            · subst n2
              by_cases n3 : di = ei
              · subst n3
                by_cases n4 : de = ee
                · subst n4
                  by_cases n5 : dc = ec
                  · subst n5
                    have HQ := hid (HNX.out rfl)
                    clear HNE HNX
                    go_wp2
                    go_region
                    go_wp2
                    go_roundw
                    case rel => exact ⟨i + 1, by omega, by simp, HB8, HQ⟩
                    case measure => simp [Go.RowKit.intOf]; omega
                  · skip
                    have HQ := hid (HNE.out (by intro h; cases h; exact n5 rfl))
                    clear HNE HNX
                    go_wp2
                    go_region
                    go_wp2
                    go_ret
                    exact ⟨says_false HQ.out, HB8.out⟩
                · skip
                  have HQ := hid (HNE.out (by intro h; cases h; exact n4 rfl))
                  clear HNE HNX
                  go_wp2
                  go_region
                  go_wp2
                  go_ret
                  exact ⟨says_false HQ.out, HB8.out⟩
              · skip
                have HQ := hid (HNE.out (by intro h; cases h; exact n3 rfl))
                clear HNE HNX
                obtain ⟨rfl, rfl⟩ | ⟨rfl, rfl⟩ : (di = true ∧ ei = false) ∨ (di = false ∧ ei = true) := by revert n3; cases di <;> cases ei <;> simp
                all_goals clear n3
                all_goals go_wp2
                all_goals go_region
                all_goals go_wp2
                all_goals go_ret
                all_goals exact ⟨says_false HQ.out, HB8.out⟩
            · skip
              have HQ := hid (HNE.out (by intro h; cases h; exact n2 rfl))
              clear HNE HNX
              go_wp2
              go_region
              go_wp2
              go_ret
              exact ⟨says_false HQ.out, HB8.out⟩
          · skip
            have HQ := hid (HNE.out (by intro h; cases h; exact n1 rfl))
            have nl : ¬ dn.toList = en.toList := fun e => n1 (strl.1 e)
            clear HNE HNX n1
            go_wp2
            go_region
            go_wp2
            go_ret
            exact ⟨says_false HQ.out, HB8.out⟩
        · skip
          have HQ := hid (HNE.out (by intro h; cases h; exact n0 rfl))
          clear HNE HNX
          go_wp2
          go_region
          go_wp2
          go_ret
          exact ⟨says_false HQ.out, HB8.out⟩
      · have hie : i = a.length := by omega
        subst hie
        have hli : ¬ ((a.length : Int) < (a.length : Int)) := by omega
        have HQ := hid (ext_nth HL.out HN.out)
        clear HN
        go_wp2
        go_ret
        exact ⟨says_true HQ.out, HB.out⟩
  · have hli0 : ¬ ((a.length : Int) = (b.length : Int)) := by omega
    have HQ := hid (show ¬ a = b from fun e => hl (by rw [e]))
    clear hl
    go_enter Try.func28, Try.ntmps28
    go_wp2
    go_ret
    exact ⟨says_false HQ.out, Below.refl _ _⟩
end Go.Proofs.Ytlajcmoiopaemaa
