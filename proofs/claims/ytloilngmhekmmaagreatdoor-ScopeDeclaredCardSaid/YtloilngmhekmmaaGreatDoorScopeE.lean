/- Is a key among some; are keys, and texts, the same; the reference's kind of a key. -/
import Derived.Test.YtloilngmhekmmaaGreatDoorScopeK
import Derived.Test.YtloilngmhekmmaaGreatDoorLawFresh
set_option linter.unusedVariables false
set_option linter.unusedSimpArgs false
namespace Go.Proofs.YtloilngmhekmmaaGreatDoor
open Go.RowKit
theorem drewB {n : Nat} {w w' : World} (h : Below n w w') : Below n w w'.drew := ⟨h.os, h.tape, h.output, h.size, h.block⟩
theorem hasK_take {l : List KeyM} {k : KeyM} {i : Nat} (h : i < l.length) : hasK (l.take (i + 1)) k = (hasK (l.take i) k || decide (nth l i = k)) := by
  unfold hasK
  rw [take_succ_nth h, List.any_append]; simp
theorem hasK_hit {l : List KeyM} {k : KeyM} {i : Nat} (h : i < l.length) (e : nth l i = k) : hasK l k = true := by
  unfold hasK
  rw [List.any_eq_true]
  exact ⟨_, nth_mem h, by simpa using e⟩
set_option maxHeartbeats 800000 in
set_option maxRecDepth 100000 in
theorem has_any (l : List KeyM) (k : KeyM) (v : Value) (D : Nat → Prop) (w : World) (h : KeysR w D v l) :
    Calls Tryz.prog 23 #[v, .agg #[.string k.1, .int .u8 k.2]] w fun e w' => e = .returned (.bool (hasK l k)) ∧ Below w.heap.size w w' := by
  obtain ⟨A, c, rfl, hc, hcm⟩ := h.slice
  have HD := hid h
  clear h
  obtain ⟨kn, ks⟩ := k
  have HBX := hid ((Below.refl w.heap.size w).alloc (Nat.le_refl _) (.cells #[.string kn, .int .u8 ks] 31))
  have hnb := new_blk w (.cells #[.string kn, .int .u8 ks] 31)
  have K0 := hid (show (w.alloc (.cells #[.string kn, .int .u8 ks] 31)).cell? ⟨w.heap.size, 0, none⟩ = some (.string kn) by rw [blk_cell hnb]; rfl)
  have K1 := hid (show (w.alloc (.cells #[.string kn, .int .u8 ks] 31)).cell? ⟨w.heap.size, 1, none⟩ = some (.int .u8 ks) by rw [blk_cell hnb]; rfl)
  have KS := hid (show w.heap.size < (w.alloc (.cells #[.string kn, .int .u8 ks] 31)).heap.size by rw [World.size_alloc]; omega)
  clear hnb
  go_enter Tryz.func23, Tryz.ntmps23
  go_wp2
  obtain ⟨w1, hw1⟩ : ∃ w1, w.alloc (.cells #[.string kn, .int .u8 ks] 31) = w1 := ⟨_, rfl⟩
  rw [hw1] at HBX K0 K1 KS
  try rw [hw1]
  clear hw1
  go_loopw [5] (fun t5 wr => ∃ i : Nat, i ≤ l.length ∧ t5 = .int .i64 (i : Int) ∧ Hid (Below w1.heap.size w1 wr) ∧ Hid (hasK (l.take i) (kn, ks) = false)) (fun t5 _ => l.length - (Go.RowKit.intOf t5).toNat)
  case atStart => exact ⟨0, by omega, rfl, hid (Below.refl _ _), hid rfl⟩
  case round =>
    obtain ⟨i, hi, rfl, HB, HN⟩ := hrel
    by_cases hlt : i < l.length
    · have hli : (i : Int) < (l.length : Int) := by omega
      obtain ⟨B, off, c', he, _, _, _, hB, hall⟩ := (HD.out.below HBX.out).all (by omega)
      simp only [Value.slice.injEq, true_and] at he
      obtain ⟨rfl, rfl⟩ := he
      obtain ⟨c0, c1⟩ := hall i hlt
      have c0' := (HB.out.cell (p := ⟨B, off + i * 2, none⟩) hB).trans c0
      have c1' := (HB.out.cell (p := ⟨B, off + i * 2 + 1, none⟩) hB).trans c1
      have k0 := (HB.out.cell (p := ⟨w.heap.size, 0, none⟩) KS.out).trans K0.out
      have k1 := (HB.out.cell (p := ⟨w.heap.size, 1, none⟩) KS.out).trans K1.out
      have HT := hid (hasK_take (k := (kn, ks)) hlt)
      have HH := hid (hasK_hit (k := (kn, ks)) hlt)
      obtain ⟨d, hd⟩ : ∃ d, nth l i = d := ⟨_, rfl⟩
      rw [hd] at c0' c1' HT HH
      obtain ⟨dn, ds⟩ := d
      clear c0 c1 hall hd
      have HB8 := hid (drewB HB.out)
      by_cases hn : dn = kn
      · by_cases hs : ds = ks
        · have HQ := hid (HH.out (by rw [hn, hs]))
          subst hn hs
          clear HH HT HN
          go_wp2
          go_region
          go_wp2
          go_ret
          rw [HQ.out]
          exact ⟨rfl, HBX.out.trans (HB8.out.mono HBX.out.size)⟩
        · have hne : ¬ ((dn, ds) = (kn, ks)) := fun e => hs (by cases e; rfl)
          have HQ := hid (HT.out.trans (by rw [HN.out, decide_eq_false hne]))
          subst hn
          clear HH HT HN hne
          go_wp2
          go_region
          go_wp2
          go_roundw
          case rel => exact ⟨i + 1, by omega, by simp, HB8, HQ⟩
          case measure => simp [Go.RowKit.intOf]; omega
      · have hne : ¬ ((dn, ds) = (kn, ks)) := fun e => hn (by cases e; rfl)
        have HQ := hid (HT.out.trans (by rw [HN.out, decide_eq_false hne]))
        have hnl : ¬ dn.toList = kn.toList := fun e => hn (strl.1 e)
        clear HH HT HN hne
        go_wp2
        go_region
        go_wp2
        go_roundw
        case rel => exact ⟨i + 1, by omega, by simp, HB8, HQ⟩
        case measure => simp [Go.RowKit.intOf]; omega
    · have hie : i = l.length := by omega
      subst hie
      have hli : ¬ ((l.length : Int) < (l.length : Int)) := by omega
      go_wp2
      go_ret
      rw [List.take_length] at HN
      rw [HN.out]
      exact ⟨rfl, HBX.out.trans (HB.out.mono HBX.out.size)⟩
set_option maxHeartbeats 800000 in
set_option maxRecDepth 100000 in
theorem sameKeys_same (l : List KeyM) (v v2 : Value) (D D2 : Nat → Prop) (w : World) (h : KeysR w D v l) (h2 : KeysR w D2 v2 l) :
    Calls Tryz.prog 12 #[v, v2] w fun e w' => e = .returned (.bool true) ∧ Below w.heap.size w w' := by
  obtain ⟨A, c, rfl, hc, hcm⟩ := h.slice
  obtain ⟨A2, c2, rfl, hc2, hcm2⟩ := h2.slice
  have HD := hid h
  have HD2 := hid h2
  clear h h2
  go_enter Tryz.func12, Tryz.ntmps12
  go_wp2
  go_loopw [5] (fun t5 wr => ∃ i : Nat, i ≤ l.length ∧ t5 = .int .i64 (i : Int) ∧ Hid (Below w.heap.size w wr)) (fun t5 _ => l.length - (Go.RowKit.intOf t5).toNat)
  case atStart => exact ⟨0, by omega, rfl, hid (Below.refl _ _)⟩
  case round =>
    obtain ⟨i, hi, rfl, HB⟩ := hrel
    by_cases hlt : i < l.length
    · have hli : (i : Int) < (l.length : Int) := by omega
      obtain ⟨B, off, c', he, _, _, _, hB, hall⟩ := HD.out.all (by omega)
      simp only [Value.slice.injEq, true_and] at he
      obtain ⟨rfl, rfl⟩ := he
      obtain ⟨B2, off2, c2', he, _, _, _, hB2, hall2⟩ := HD2.out.all (by omega)
      simp only [Value.slice.injEq, true_and] at he
      obtain ⟨rfl, rfl⟩ := he
      obtain ⟨c0, c1⟩ := hall i hlt
      have c0' := (HB.out.cell (p := ⟨B, off + i * 2, none⟩) hB).trans c0
      have c1' := (HB.out.cell (p := ⟨B, off + i * 2 + 1, none⟩) hB).trans c1
      obtain ⟨e0, e1⟩ := hall2 i hlt
      have e0' := (HB.out.cell (p := ⟨B2, off2 + i * 2, none⟩) hB2).trans e0
      have e1' := (HB.out.cell (p := ⟨B2, off2 + i * 2 + 1, none⟩) hB2).trans e1
      obtain ⟨d, hd⟩ : ∃ d, nth l i = d := ⟨_, rfl⟩
      rw [hd] at c0' c1' e0' e1'
      obtain ⟨dn, ds⟩ := d
      clear c0 c1 hall e0 e1 hall2 hd
      have HB8 := hid (drewB HB.out)
      go_wp2
      go_region
      go_wp2
      go_roundw
      case rel => exact ⟨i + 1, by omega, by simp, HB8⟩
      case measure => simp [Go.RowKit.intOf]; omega
    · have hli : ¬ (i : Int) < (l.length : Int) := by omega
      go_wp2
      go_ret
      exact ⟨rfl, HB.out⟩
set_option maxHeartbeats 800000 in
set_option maxRecDepth 100000 in
theorem sameTexts_same (l : List ByteArray) (v v2 : Value) (D D2 : Nat → Prop) (w : World) (h : Strs w D v l) (h2 : Strs w D2 v2 l) :
    Calls Tryz.prog 14 #[v, v2] w fun e w' => e = .returned (.bool true) ∧ Below w.heap.size w w' := by
  obtain ⟨A, c, rfl, hc, hcm⟩ := Row.slice h
  obtain ⟨A2, c2, rfl, hc2, hcm2⟩ := Row.slice h2
  have HD := hid h
  have HD2 := hid h2
  clear h h2
  go_enter Tryz.func14, Tryz.ntmps14
  go_wp2
  go_loopw [5] (fun t5 wr => ∃ i : Nat, i ≤ l.length ∧ t5 = .int .i64 (i : Int) ∧ Hid (Below w.heap.size w wr)) (fun t5 _ => l.length - (Go.RowKit.intOf t5).toNat)
  case atStart => exact ⟨0, by omega, rfl, hid (Below.refl _ _)⟩
  case round =>
    obtain ⟨i, hi, rfl, HB⟩ := hrel
    by_cases hlt : i < l.length
    · have hli : (i : Int) < (l.length : Int) := by omega
      obtain ⟨B, off, c', he, _, _, _, hB, hall⟩ := HD.out.all (by omega)
      simp only [Value.slice.injEq, true_and] at he
      obtain ⟨rfl, rfl⟩ := he
      obtain ⟨B2, off2, c2', he, _, _, _, hB2, hall2⟩ := HD2.out.all (by omega)
      simp only [Value.slice.injEq, true_and] at he
      obtain ⟨rfl, rfl⟩ := he
      have c0 := (HB.out.cell (p := ⟨B, off + i, none⟩) hB).trans (hall i hlt)
      have e0 := (HB.out.cell (p := ⟨B2, off2 + i, none⟩) hB2).trans (hall2 i hlt)
      obtain ⟨d, hd⟩ : ∃ d, nth l i = d := ⟨_, rfl⟩
      rw [hd] at c0 e0
      clear hall hall2 hd
      have HB8 := hid (drewB HB.out)
      go_wp2
      go_region
      go_wp2
      go_roundw
      case rel => exact ⟨i + 1, by omega, by simp, HB8⟩
      case measure => simp [Go.RowKit.intOf]; omega
    · have hli : ¬ (i : Int) < (l.length : Int) := by omega
      go_wp2
      go_ret
      exact ⟨rfl, HB.out⟩
set_option maxHeartbeats 1600000 in
set_option maxRecDepth 100000 in
theorem kind10_any (kn : ByteArray) (ks : Int) (l : List DeclM) (v : Value) (D : Nat → Prop) (w : World) (h : Decls w D v l) :
    Calls Tryz.prog 13 #[v, .agg #[.string kn, .int .u8 ks]] w fun e w' => e = .returned (.int .u8 (kindS kn ks l)) ∧ Below w.heap.size w w' := by
  obtain ⟨A, c, rfl, hc, hcm⟩ := h.slice
  have HD := hid h
  clear h
  have HBX := hid ((Below.refl w.heap.size w).alloc (Nat.le_refl _) (.cells #[.string kn, .int .u8 ks] 31))
  have hnb := new_blk w (.cells #[.string kn, .int .u8 ks] 31)
  have K0 := hid (show (w.alloc (.cells #[.string kn, .int .u8 ks] 31)).cell? ⟨w.heap.size, 0, none⟩ = some (.string kn) by rw [blk_cell hnb]; rfl)
  have K1 := hid (show (w.alloc (.cells #[.string kn, .int .u8 ks] 31)).cell? ⟨w.heap.size, 1, none⟩ = some (.int .u8 ks) by rw [blk_cell hnb]; rfl)
  have KS := hid (show w.heap.size < (w.alloc (.cells #[.string kn, .int .u8 ks] 31)).heap.size by rw [World.size_alloc]; omega)
  clear hnb
  go_enter Tryz.func13, Tryz.ntmps13
  go_wp2
  obtain ⟨w1, hw1⟩ : ∃ w1, w.alloc (.cells #[.string kn, .int .u8 ks] 31) = w1 := ⟨_, rfl⟩
  rw [hw1] at HBX K0 K1 KS
  try rw [hw1]
  clear hw1
  go_loopw [5] (fun t5 wr => ∃ i : Nat, i ≤ l.length ∧ t5 = .int .i64 (i : Int) ∧ Hid (Below w1.heap.size w1 wr) ∧ Hid (∀ k, k < i → hitS kn ks (nth l k) = false)) (fun t5 _ => l.length - (Go.RowKit.intOf t5).toNat)
  case atStart => exact ⟨0, by omega, rfl, hid (Below.refl _ _), hid (fun k hk => by omega)⟩
  case round =>
    obtain ⟨i, hi, rfl, HB, HN⟩ := hrel
    by_cases hlt : i < l.length
    · have hli : (i : Int) < (l.length : Int) := by omega
      obtain ⟨B, off, c', he, _, _, _, hB, hall⟩ := (HD.out.below HBX.out).all (by omega)
      simp only [Value.slice.injEq, true_and] at he
      obtain ⟨rfl, rfl⟩ := he
      obtain ⟨c0, c1, c2⟩ := hall i hlt
      have c0' := (HB.out.cell (p := ⟨B, off + i * 3, none⟩) hB).trans c0
      have c1' := (HB.out.cell (p := ⟨B, off + i * 3 + 1, none⟩) hB).trans c1
      have c2' := (HB.out.cell (p := ⟨B, off + i * 3 + 2, none⟩) hB).trans c2
      have k0 := (HB.out.cell (p := ⟨w.heap.size, 0, none⟩) KS.out).trans K0.out
      have k1 := (HB.out.cell (p := ⟨w.heap.size, 1, none⟩) KS.out).trans K1.out
      have HH := hid (fun h => findS_some (name := kn) (side := ks) hlt h HN.out)
      have HNX := hid (fun (h : hitS kn ks (nth l i) = false) (k : Nat) (hk : k < i + 1) => show hitS kn ks (nth l k) = false by
        by_cases e : k = i
        · rw [e]; exact h
        · exact HN.out k (by omega))
      obtain ⟨d, hd⟩ : ∃ d, nth l i = d := ⟨_, rfl⟩
      rw [hd] at c0' c1' c2' HH HNX
      obtain ⟨dn, ds, dk⟩ := d
      dsimp only at c0' c1' c2' HH HNX
      clear c0 c1 c2 hall hd
      have HB8 := hid (drewB HB.out)
      by_cases hn : dn = kn
      · by_cases hs : ds = ks
        · have HQ := hid (HH.out (by unfold hitS; simp [hn, hs]))
          subst hn hs
          clear HH HNX HN
          go_wp2
          go_region
          have c2'' := (HB8.out.cell (p := ⟨B, off + i * 3 + 2, none⟩) hB).trans ((HB.out.cell (p := ⟨B, off + i * 3 + 2, none⟩) hB).symm.trans c2')
          go_wp2
          go_ret
          rw [HQ.out]
          exact ⟨rfl, HBX.out.trans (HB8.out.mono HBX.out.size)⟩
        · have HQ := hid (HNX.out (by unfold hitS; simp [hs]))
          subst hn
          clear HH HNX HN
          go_wp2
          go_region
          go_wp2
          go_roundw
          case rel => exact ⟨i + 1, by omega, by simp, HB8, HQ⟩
          case measure => simp [Go.RowKit.intOf]; omega
      · have HQ := hid (HNX.out (by unfold hitS; simp [hn]))
        have hnl : (dn.toList == kn.toList) = false := beq_eq_false_iff_ne.2 (fun e => hn (strl.1 e))
        clear HH HNX HN
        go_wp2
        go_region
        go_wp2
        go_roundw
        case rel => exact ⟨i + 1, by omega, by simp, HB8, HQ⟩
        case measure => simp [Go.RowKit.intOf]; omega
    · have hie : i = l.length := by omega
      subst hie
      have hli : ¬ ((l.length : Int) < (l.length : Int)) := by omega
      have HQ := hid (findS_none HN.out)
      go_wp2
      go_ret
      rw [HQ.out]
      exact ⟨rfl, HBX.out.trans (HB.out.mono HBX.out.size)⟩
end Go.Proofs.YtloilngmhekmmaaGreatDoor
