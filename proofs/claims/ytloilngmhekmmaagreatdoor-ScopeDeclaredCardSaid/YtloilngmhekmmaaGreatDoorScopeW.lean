/- Declared, the program's. -/
import Derived.Test.YtloilngmhekmmaaGreatDoorScopeD
set_option linter.unusedVariables false
set_option linter.unusedSimpArgs false
namespace Go.Proofs.YtloilngmhekmmaaGreatDoor
open Go.RowKit Go.WideMaps
theorem two_below (w : World) (o1 o2 : Obj) : Below w.heap.size w ((w.alloc o1).alloc o2) := ((Below.refl _ _).alloc (Nat.le_refl _) o1).alloc (by rw [World.size_alloc]; omega) o2
structure TwoBlk (w W : World) (dn : ByteArray) (ds dk : Int) : Prop where
  below : Below w.heap.size w W
  size : W.heap.size = w.heap.size + 2
  d0 : W.cell? ⟨w.heap.size, 0, none⟩ = some (.string dn)
  d1 : W.cell? ⟨w.heap.size, 1, none⟩ = some (.int .u8 ds)
  d2 : W.cell? ⟨w.heap.size, 2, none⟩ = some (.int .u8 dk)
  k0 : W.cell? ⟨w.heap.size + 1, 0, none⟩ = some (.string dn)
  k1 : W.cell? ⟨w.heap.size + 1, 1, none⟩ = some (.int .u8 ds)
theorem twoBlk (w : World) (dn : ByteArray) (ds dk : Int) (t1 t2 : TypeId) : TwoBlk w ((w.alloc (.cells #[.string dn, .int .u8 ds, .int .u8 dk] t1)).alloc (.cells #[.string dn, .int .u8 ds] t2)) dn ds dk := by
  have hn1 := new_blk w (.cells #[.string dn, .int .u8 ds, .int .u8 dk] t1)
  have hn2 := new_blk (w.alloc (.cells #[.string dn, .int .u8 ds, .int .u8 dk] t1)) (.cells #[.string dn, .int .u8 ds] t2)
  rw [World.size_alloc] at hn2
  have hold : ((w.alloc (.cells #[.string dn, .int .u8 ds, .int .u8 dk] t1)).alloc (.cells #[.string dn, .int .u8 ds] t2)).heap[w.heap.size]? = _ := (Below.heap_alloc _ (.cells #[.string dn, .int .u8 ds] t2) w.heap.size (by rw [World.size_alloc]; omega)).trans hn1
  exact ⟨two_below _ _ _, by rw [World.size_alloc, World.size_alloc], by rw [blk_cell hold]; rfl, by rw [blk_cell hold]; rfl, by rw [blk_cell hold]; rfl, by rw [blk_cell hn2]; rfl, by rw [blk_cell hn2]; rfl⟩
theorem TwoBlk.after {w W W' : World} {dn : ByteArray} {ds dk : Int} (h : TwoBlk w W dn ds dk) (hb : Below W.heap.size W W') :
    W'.cell? ⟨w.heap.size, 0, none⟩ = some (.string dn) ∧ W'.cell? ⟨w.heap.size, 1, none⟩ = some (.int .u8 ds) ∧ W'.cell? ⟨w.heap.size, 2, none⟩ = some (.int .u8 dk) ∧ W'.cell? ⟨w.heap.size + 1, 0, none⟩ = some (.string dn) ∧ W'.cell? ⟨w.heap.size + 1, 1, none⟩ = some (.int .u8 ds) := by
  have hs := h.size
  exact ⟨(hb.cell (p := ⟨w.heap.size, 0, none⟩) (show w.heap.size < W.heap.size by omega)).trans h.d0, (hb.cell (p := ⟨w.heap.size, 1, none⟩) (show w.heap.size < W.heap.size by omega)).trans h.d1, (hb.cell (p := ⟨w.heap.size, 2, none⟩) (show w.heap.size < W.heap.size by omega)).trans h.d2, (hb.cell (p := ⟨w.heap.size + 1, 0, none⟩) (show w.heap.size + 1 < W.heap.size by omega)).trans h.k0, (hb.cell (p := ⟨w.heap.size + 1, 1, none⟩) (show w.heap.size + 1 < W.heap.size by omega)).trans h.k1⟩
theorem grow_cell {w w' : World} {row : Option Nat} (hg : w.grownBy w' row) {a : Addr} {v : Value} (h : w.cell? a = some v) (hne : some a.block ≠ row) : w'.cell? a = some v :=
  (World.cell?_of_block (hg.block a.block (World.block_lt_of_cell? w a h) hne)).trans h
theorem rightD_bad {d : DeclM} (h : rightD d = false) : nameS d.name = false ∨ (nameS d.name = true ∧ (¬ 1 ≤ d.side ∨ (1 ≤ d.side ∧ (¬ d.side ≤ 3 ∨ (d.side ≤ 3 ∧ (¬ 1 ≤ d.kind ∨ (1 ≤ d.kind ∧ ¬ d.kind ≤ 2))))))) := by
  unfold rightD at h
  cases hn : nameS d.name with
  | false => exact .inl rfl
  | true =>
    rw [hn] at h
    simp only [Bool.true_and, Bool.and_eq_false_iff, decide_eq_false_iff_not] at h
    refine .inr ⟨rfl, ?_⟩
    omega
theorem rightD_ok {d : DeclM} (h : rightD d = true) : nameS d.name = true ∧ 1 ≤ d.side ∧ d.side ≤ 3 ∧ 1 ≤ d.kind ∧ d.kind ≤ 2 := by
  unfold rightD at h
  simp only [Bool.and_eq_true, decide_eq_true_eq] at h
  exact ⟨h.1.1, h.1.2.1, h.1.2.2, h.2.1, h.2.2⟩
set_option maxHeartbeats 3200000 in
set_option maxRecDepth 100000 in
theorem declared_any (l : List DeclM) (v : Value) (D : Nat → Prop) (w : World) (h : Decls w D v l) (hl : l.length ≤ 40) (hn : ∀ d ∈ l, KeyIn (keyD d)) :
    Calls Tryz.prog 10 #[v] w fun e w' => DeclPost l w e w' := by
  have hmm := @run_makeMap Tryz.prog
  have HN := hid hn
  clear hn
  have hnew := kset_new w Tryz.prog 31 4 w.heap.size rfl
  have HBm := (Below.refl w.heap.size w).alloc (Nat.le_refl _) (.map #[] 0)
  obtain ⟨A, c, rfl, hc, hcm⟩ := h.slice
  have HD := hid h
  clear h
  have hz : ∀ W, (zeroValue 4).run Tryz.prog W = .ok (.bool false) W := fun W => by kernel_rfl
  have HZ := hid hz
  clear hz
  go_enter Tryz.func10, Tryz.ntmps10
  go_wp2
  clear hmm
  have HNEW := hid hnew
  have HBM := hid HBm
  clear hnew HBm
  go_loopw [6, 14] (fun t6 t14 wr => ∃ i : Nat, i ≤ l.length ∧ t14 = .int .i64 (i : Int) ∧ Hid (Own wr 31 2 KeyR t6 (keysT l i)) ∧ Hid (KSet wr Tryz.prog 31 4 w.heap.size (keysB l i)) ∧ Hid (Below w.heap.size w wr) ∧ Hid (∀ j, j < i → stopS l j = 0) ∧ Hid (∀ g, t6.ownBlock = some g → w.heap.size < g)) (fun _ t14 _ => l.length - (Go.RowKit.intOf t14).toNat)
  case atStart => exact ⟨0, by omega, rfl, hid (Own.nil _ _ _ _), HNEW, HBM, hid (fun j hj => by omega), hid (fun g hg => by cases hg)⟩
  case round =>
    clear HNEW HBM
    obtain ⟨i, hi, rfl, HO, HS, HB, HG, HL⟩ := hrel
    obtain ⟨A8, c8, rfl, hc8, hcm8⟩ := HO.out.slice
    rw [keysT_len hi] at hc8
    have hki := keysT_len hi
    rw [hki] at HO HL
    rw [hki]
    by_cases hlt : i < l.length
    · have hli : (i : Int) < (l.length : Int) := by omega
      obtain ⟨B, off, c', he, _, _, _, hB, hall⟩ := HD.out.all (by omega)
      simp only [Value.slice.injEq, true_and] at he
      obtain ⟨rfl, rfl⟩ := he
      obtain ⟨c0, c1, c2⟩ := hall i hlt
      have c0' := (HB.out.cell (p := ⟨B, off + i * 3, none⟩) hB).trans c0
      have c1' := (HB.out.cell (p := ⟨B, off + i * 3 + 1, none⟩) hB).trans c1
      have c2' := (HB.out.cell (p := ⟨B, off + i * 3 + 2, none⟩) hB).trans c2
      have HKI := hid (HN.out _ (nth_mem hlt))
      have HT1 := hid (keysT_succ hlt)
      have HT2 := hid (keysB_succ hlt)
      have HT3 := hid (keysB_any (i := i) HKI.out HN.out)
      have HT4 := hid (keysB_len hi)
      have HNO := fun (x : Int) (W : World) (hs : stopS l i = x) (hx : x ≠ 0) (hb : Below w.heap.size w W) => DeclPost.no hlt hs hx HG.out hb
      have HNX := hid HNO
      have HMO := hid (stop_more HG.out)
      have hst : stopS l i = if 24 ≤ i then 4 else if rightD (nth l i) = false then 3 else if hasK (keysT l i) (keyD (nth l i)) = true then 6 else 0 := rfl
      have HST := hid hst
      clear hst HNO
      obtain ⟨d, hd⟩ : ∃ d, nth l i = d := ⟨_, rfl⟩
      rw [hd] at c0' c1' c2' HKI HT1 HT2 HT3 HST
      obtain ⟨dn, ds, dk⟩ := d
      dsimp only at c0' c1' c2'
      clear c0 c1 c2 hall hd
      have hsz := HKI.out.1
      have HSZ := hid hsz
      clear hsz
      have HTB := hid (twoBlk wr dn ds dk 43 31)
      have HW2 := hid (HB.out.trans (HTB.out.below.mono HB.out.size))
      by_cases h24 : 24 ≤ i
      · have h24i : (24 : Int) ≤ (i : Int) := by omega
        have HQ := hid (HST.out.trans (by rw [if_pos h24]))
        clear HST HT1 HT2 HT3 HT4 HMO h24
        cases hnm : nameS dn with
        | false =>
          have HNM := hid hnm
          clear hnm
          go_wp2_with (go_at_call 22; refine (scopeNamed_any dn _ HSZ.out).mono ?_; rw [HNM.out]; rintro e w2 ⟨rfl, hb⟩; obtain ⟨a0, a1, a2, a3, a4⟩ := HTB.out.after hb)
          all_goals (go_ret3; exact HNX.out 4 _ HQ.out (by omega) (HW2.out.trans (hb.mono HW2.out.size)))
        | true =>
          have HNM := hid hnm
          clear hnm
          go_wp2_with (go_at_call 22; refine (scopeNamed_any dn _ HSZ.out).mono ?_; rw [HNM.out]; rintro e w2 ⟨rfl, hb⟩; obtain ⟨a0, a1, a2, a3, a4⟩ := HTB.out.after hb)
          all_goals (go_ret3; exact HNX.out 4 _ HQ.out (by omega) (HW2.out.trans (hb.mono HW2.out.size)))
      · have h24i : ¬ (24 : Int) ≤ (i : Int) := by omega
        have HST2 := hid (HST.out.trans (by rw [if_neg h24]))
        clear HST h24
        cases hr : rightD ⟨dn, ds, dk⟩ with
        | false =>
          have HQ := hid (HST2.out.trans (by rw [if_pos hr]))
          have hbad := rightD_bad hr
          dsimp only at hbad
          clear HST2 hr HT1 HT2 HT3 HT4 HMO
          rcases hbad with hnm | ⟨hnm, hs⟩
          · have HNM := hid hnm
            clear hnm
            go_wp2_with (go_at_call 22; refine (scopeNamed_any dn _ HSZ.out).mono ?_; rw [HNM.out]; rintro e w2 ⟨rfl, hb⟩; obtain ⟨a0, a1, a2, a3, a4⟩ := HTB.out.after hb)
            go_ret3
            exact HNX.out 3 _ HQ.out (by omega) (HW2.out.trans (hb.mono HW2.out.size))
          · have HNM := hid hnm
            clear hnm
            rcases hs with hs | ⟨hs1, hs | ⟨hs2, hs | ⟨hs3, hs⟩⟩⟩
            all_goals
              go_wp2_with (go_at_call 22; refine (scopeNamed_any dn _ HSZ.out).mono ?_; rw [HNM.out]; rintro e w2 ⟨rfl, hb⟩; obtain ⟨a0, a1, a2, a3, a4⟩ := HTB.out.after hb)
              all_goals first
                | (exfalso; omega)
                | (exfalso; have hx : (!decide (dk ≤ 2)) = false := by assumption
                   simp only [Bool.not_eq_false', decide_eq_true_eq] at hx; omega)
                | (go_ret3; exact HNX.out 3 _ HQ.out (by omega) (HW2.out.trans (hb.mono HW2.out.size)))
        | true =>
          have HST3 := hid (HST2.out.trans (by rw [if_neg (by rw [hr]; exact Bool.noConfusion)]))
          obtain ⟨hnm, hs1, hs2, hs3, hs4⟩ := rightD_ok hr
          dsimp only at hnm hs1 hs2 hs3 hs4
          have HNM := hid hnm
          clear HST2 hr hnm
          have HSL := hid HS.out.lt
          have HKO := hid (keyOf_key HKI.out)
          have HSB := hid (HTB.out.below)
          cases hh : hasK (keysT l i) (keyD ⟨dn, ds, dk⟩) with
          | true =>
            have HQ := hid (HST3.out.trans (by rw [if_pos hh]))
            have HHK := hid (HT3.out.trans hh)
            have HASK := hid (fun (W : World) (hS : KSet W Tryz.prog 31 4 w.heap.size (keysB l i)) => show (Instr.lookup 55 (.map (some w.heap.size)) (.agg #[.string dn, .int .u8 ds]) false).run Tryz.prog W = .ok (.bool true) W by
              have := hS.ask ty_kset (HZ.out W) (.agg #[.string dn, .int .u8 ds]) (keyB (keyD ⟨dn, ds, dk⟩)) HKO.out
              rw [HHK.out] at this
              exact this)
            clear HST3 hh HT1 HT2 HT3 HMO
            go_wp2_with (go_at_call 22; refine (scopeNamed_any dn _ HSZ.out).mono ?_; rw [HNM.out]; rintro e w2 ⟨rfl, hb⟩; obtain ⟨a0, a1, a2, a3, a4⟩ := HTB.out.after hb; have hask := HASK.out w2 ((HS.out.kept (HSB.out.block _ HSL.out)).kept (hb.block _ (Nat.lt_of_lt_of_le HSL.out HSB.out.size))))
            go_ret3
            exact HNX.out 6 _ HQ.out (by omega) (HW2.out.trans (hb.mono HW2.out.size))
          | false =>
            have HQ := hid (HST3.out.trans (by rw [if_neg (by rw [hh]; exact Bool.noConfusion)]))
            have HHK := hid (HT3.out.trans hh)
            have HASK := hid (fun (W : World) (hS : KSet W Tryz.prog 31 4 w.heap.size (keysB l i)) => show (Instr.lookup 55 (.map (some w.heap.size)) (.agg #[.string dn, .int .u8 ds]) false).run Tryz.prog W = .ok (.bool false) W by
              have := hS.ask ty_kset (HZ.out W) (.agg #[.string dn, .int .u8 ds]) (keyB (keyD ⟨dn, ds, dk⟩)) HKO.out
              rw [HHK.out] at this
              exact this)
            have HL40 := hid hl
            have HQN : Hid (∀ W' e', Own W' 31 2 KeyR e' (keysT l i ++ [(dn, ds)]) → Own W' 31 2 KeyR e' (keysT l (i + 1))) := hid (fun W' e' h => by rw [HT1.out]; exact h)
            have HSN : Hid (∀ W', KSet W' Tryz.prog 31 4 w.heap.size (keyB (dn, ds) :: keysB l i) → KSet W' Tryz.prog 31 4 w.heap.size (keysB l (i + 1))) := hid (fun W' h => by rw [HT2.out]; exact h)
            clear HST3 hh HT3 HT1 HT2
            go_wp2_with (first | (go_at_call 22; refine (scopeNamed_any dn _ HSZ.out).mono ?_; rw [HNM.out]; rintro e w2 ⟨rfl, hb⟩; obtain ⟨a0, a1, a2, a3, a4⟩ := HTB.out.after hb; have hask := HASK.out w2 ((HS.out.kept (HSB.out.block _ HSL.out)).kept (hb.block _ (Nat.lt_of_lt_of_le HSL.out HSB.out.size))); have HS2 := hid ((HS.out.kept (HSB.out.block _ HSL.out)).kept (hb.block _ (Nat.lt_of_lt_of_le HSL.out HSB.out.size))); have HO2 := hid ((HO.out.below HSB.out).below hb)) | (refine wpList_kset_put ty_kset rfl _ _ _ rfl w.heap.size (keysB l i) rfl HS2.out (by rw [HT4.out]; unfold maxLen; omega) (.agg #[.string dn, .int .u8 ds]) (keyB (dn, ds)) rfl rfl HKO.out ?_; intro w5 hM1 hg1; have b3 := grow_cell hg1 a3 (by have := HSL.out; simp; omega); have b4 := grow_cell hg1 a4 (by have := HSL.out; simp; omega); have HM1 := hid hM1; have HO5 := hid (HO2.out.imp (R' := KeyR) (w' := w5) (fun _ _ _ h => h) (fun g hg hlt2 => hg1.block g hlt2 (fun e => by cases e; have := HL.out _ hg; omega))); clear hM1) | (at_builtin; refine wpList_append_one ty_keys rfl _ _ rfl (R := KeyR) (.slice A8 i c8) (keysT l i) rfl _ (dn, ds) [.string dn, .int .u8 ds] rfl rfl rfl HO5.out rfl rfl (by simp [Value.oneCell']) (by rw [hki]; omega) (by rw [hki]; omega) ?_; intro g cap w6 hG))
            go_roundw
            case rel => exact ⟨i + 1, by omega, by simp, hid (HQN.out _ _ (by have := hG.own; simpa [hki] using this)), hid (HSN.out _ (HM1.out.kept (hG.grown.block _ HM1.out.lt (fun e => by have := HL.out _ e.symm; omega)))), hid (((HW2.out.trans (hb.mono HW2.out.size)).grown hg1 (by have := HSL.out; have := HSB.out.size; have := hb.size; omega) (fun k e => by cases e; exact Nat.le_refl _)).grown hG.grown (by have := HSL.out; have := HSB.out.size; have := hb.size; have := hg1.size; omega) (fun k e => Nat.le_of_lt (HL.out k e))), hid (HMO.out HQ.out), hid (fun g1 e => by
              cases e
              rcases hG.lies with h | h
              · exact HL.out _ h
              · have := HM1.out.lt; show w.heap.size < g; omega)⟩
            case measure => simp [Go.RowKit.intOf]; omega
    · have hie : i = l.length := by omega
      subst hie
      have hli : ¬ ((l.length : Int) < (l.length : Int)) := by omega
      go_wp2
      go_ret3
      exact DeclPost.yes HG.out HO.out HB.out
end Go.Proofs.YtloilngmhekmmaaGreatDoor
