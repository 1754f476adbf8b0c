/- Declared, the reference's. -/
import Derived.Test.YtloilngmhekmmaaGreatDoorScopeW
set_option linter.unusedVariables false
set_option linter.unusedSimpArgs false
namespace Go.Proofs.YtloilngmhekmmaaGreatDoor
open Go.RowKit Go.WideMaps
theorem rightD_bad' {d : DeclM} (h : rightD d = false) (h0 : 0 ≤ d.side) (h1 : 0 ≤ d.kind) : nameS d.name = false ∨ (nameS d.name = true ∧ (d.side = 0 ∨ (¬ d.side = 0 ∧ (3 < d.side ∨ (¬ 3 < d.side ∧ (d.kind = 0 ∨ (¬ d.kind = 0 ∧ 2 < d.kind))))))) := by
  rcases rightD_bad h with h | ⟨h, hh⟩
  · exact .inl h
  · exact .inr ⟨h, by omega⟩
set_option maxHeartbeats 3200000 in
set_option maxRecDepth 100000 in
theorem declared10_any (l : List DeclM) (v : Value) (D : Nat → Prop) (w : World) (h : Decls w D v l) (hl : l.length ≤ 40) (hn : ∀ d ∈ l, KeyIn (keyD d) ∧ 0 ≤ d.kind) :
    Calls Tryz.prog 11 #[v] w fun e w' => DeclPost l w e w' := by
  have HN := hid hn
  clear hn
  obtain ⟨A, c, rfl, hc, hcm⟩ := h.slice
  have HD := hid h
  clear h
  go_enter Tryz.func11, Tryz.ntmps11
  go_wp2
  go_loopw [5, 6] (fun t5 t6 wr => ∃ i : Nat, i ≤ l.length ∧ t6 = .int .i64 (i : Int) ∧ Hid (Own wr 31 2 KeyR t5 (keysT l i)) ∧ Hid (Below w.heap.size w wr) ∧ Hid (∀ j, j < i → stopS l j = 0) ∧ Hid (∀ g, t5.ownBlock = some g → w.heap.size ≤ g)) (fun _ t6 _ => l.length - (Go.RowKit.intOf t6).toNat)
  case atStart => exact ⟨0, by omega, rfl, hid (Own.nil _ _ _ _), hid (Below.refl _ _), hid (fun j hj => by omega), hid (fun g hg => by cases hg)⟩
  case round =>
    obtain ⟨i, hi, rfl, HO, HB, HG, HL⟩ := hrel
    obtain ⟨A8, c8, rfl, hc8, hcm8⟩ := HO.out.slice
    rw [keysT_len hi] at hc8
    have hki := keysT_len hi
    rw [hki] at HO HL
    rw [hki]
    by_cases hlt : i < l.length
    · have hli : (i : Int) < (l.length : Int) := by omega
      obtain ⟨B, off, c', he, _, _, _, hB, hall⟩ := HD.out.all (by omega)
      simp only [Value.slice.injEq, true_and] at he
      obtain ⟨rfl, rfl⟩ := he
      obtain ⟨c0, c1, c2⟩ := hall i hlt
      have c0' := (HB.out.cell (p := ⟨B, off + i * 3, none⟩) hB).trans c0
      have c1' := (HB.out.cell (p := ⟨B, off + i * 3 + 1, none⟩) hB).trans c1
      have c2' := (HB.out.cell (p := ⟨B, off + i * 3 + 2, none⟩) hB).trans c2
      have HKI := hid (HN.out _ (nth_mem hlt))
      have HT1 := hid (keysT_succ hlt)
      have HNX := hid (fun (x : Int) (W : World) (hs : stopS l i = x) (hx : x ≠ 0) (hb : Below w.heap.size w W) => DeclPost.no hlt hs hx HG.out hb)
      have HMO := hid (stop_more HG.out)
      have HST := hid (show stopS l i = if 24 ≤ i then 4 else if rightD (nth l i) = false then 3 else if hasK (keysT l i) (keyD (nth l i)) = true then 6 else 0 from rfl)
      obtain ⟨d, hd⟩ : ∃ d, nth l i = d := ⟨_, rfl⟩
      rw [hd] at c0' c1' c2' HKI HT1 HST
      obtain ⟨dn, ds, dk⟩ := d
      dsimp only at c0' c1' c2'
      clear c0 c1 c2 hall hd
      have HSZ := hid (show dn.size ≤ 9223372036854775807 from HKI.out.1.1)
      have HD0 := hid (show 0 ≤ ds from HKI.out.1.2.1)
      have HD1 := hid (show 0 ≤ dk from HKI.out.2)
      have HTB := hid (twoBlk wr dn ds dk 43 31)
      have HW2 := hid (HB.out.trans (HTB.out.below.mono HB.out.size))
      by_cases h24 : 24 ≤ i
      · have h24i : (24 : Int) ≤ (i : Int) := by omega
        have HQ := hid (HST.out.trans (by rw [if_pos h24]))
        clear HST HT1 HMO h24
        go_wp2
        go_ret3
        exact HNX.out 4 _ HQ.out (by omega) HW2.out
      · have h24i : ¬ (24 : Int) ≤ (i : Int) := by omega
        have HST2 := hid (HST.out.trans (by rw [if_neg h24]))
        clear HST h24
        cases hr : rightD ⟨dn, ds, dk⟩ with
        | false =>
          have HQ := hid (HST2.out.trans (by rw [if_pos hr]))
          have hbad := rightD_bad' hr HD0.out HD1.out
          dsimp only at hbad
          clear HST2 hr HT1 HMO
          rcases hbad with hnm | ⟨hnm, hs⟩
          · have HNM := hid hnm
            clear hnm
            go_wp2_with (go_at_call 7; refine (name04_any dn _ HSZ.out).mono ?_; rw [HNM.out]; rintro e w2 ⟨rfl, rfl⟩)
            go_ret3
            exact HNX.out 3 _ HQ.out (by omega) HW2.out
          · have HNM := hid hnm
            clear hnm
            rcases hs with rfl | ⟨hs1, hs | ⟨hs2, rfl | ⟨hs3, hs⟩⟩⟩
            all_goals
              go_wp2_with (go_at_call 7; refine (name04_any dn _ HSZ.out).mono ?_; rw [HNM.out]; rintro e w2 ⟨rfl, rfl⟩)
              all_goals first
                | (exfalso; omega)
                | (exfalso; simp only [decide_eq_false_iff_not, decide_eq_true_eq] at *; omega)
                | (go_ret3; exact HNX.out 3 _ HQ.out (by omega) HW2.out)
        | true =>
          have HST3 := hid (HST2.out.trans (by rw [if_neg (by rw [hr]; exact Bool.noConfusion)]))
          obtain ⟨hnm, hs1, hs2, hs3, hs4⟩ := rightD_ok hr
          dsimp only at hnm hs1 hs2 hs3 hs4
          have hs1' : ¬ ds = 0 := by omega
          have hs2' : ¬ 3 < ds := by omega
          have hs3' : ¬ dk = 0 := by omega
          have hs4' : ¬ 2 < dk := by omega
          have HNM := hid hnm
          clear HST2 hr hnm
          have HRW := hid (HO.out.row (D := fun _ => True) (fun _ _ h => h.len) (fun _ _ => trivial))
          have HRW2 := hid (show KeysR _ _ _ _ from (KeysR.below HRW.out HTB.out.below))
          cases hh : hasK (keysT l i) (keyD ⟨dn, ds, dk⟩) with
          | true =>
            have HQ := hid (HST3.out.trans (by rw [if_pos hh]))
            have HHK := hid (show hasK (keysT l i) (dn, ds) = true from hh)
            clear HST3 hh HT1 HMO
            go_wp2_with (first | (go_at_call 7; refine (name04_any dn _ HSZ.out).mono ?_; rw [HNM.out]; rintro e w2 ⟨rfl, rfl⟩) | (go_at_call 23; refine (has_any (keysT l i) (dn, ds) _ _ _ HRW2.out).mono ?_; rw [HHK.out]; rintro e w3 ⟨rfl, hb⟩))
            all_goals first
              | (exfalso; have hx : (((ds == 0) = true ∨ 3 < ds) ∨ (dk == 0) = true) ∨ 2 < dk := by assumption
                 simp only [beq_iff_eq] at hx; omega)
              | (exfalso; have hx : 2 < dk := by assumption
                 omega)
              | (go_ret3; exact HNX.out 6 _ HQ.out (by omega) (HW2.out.trans (hb.mono HW2.out.size)))
          | false =>
            have HQ := hid (HST3.out.trans (by rw [if_neg (by rw [hh]; exact Bool.noConfusion)]))
            have HHK := hid (show hasK (keysT l i) (dn, ds) = false from hh)
            have HL40 := hid hl
            have HQN : Hid (∀ W' e', Own W' 31 2 KeyR e' (keysT l i ++ [(dn, ds)]) → Own W' 31 2 KeyR e' (keysT l (i + 1))) := hid (fun W' e' h => by rw [HT1.out]; exact h)
            clear HST3 hh HT1
            go_wp2_with (first | (go_at_call 7; refine (name04_any dn _ HSZ.out).mono ?_; rw [HNM.out]; rintro e w2 ⟨rfl, rfl⟩) | (go_at_call 23; refine (has_any (keysT l i) (dn, ds) _ _ _ HRW2.out).mono ?_; rw [HHK.out]; rintro e w3 ⟨rfl, hb⟩; have HB3 := hid (HW2.out.trans (hb.mono HW2.out.size)); have HO5 := hid ((HO.out.below HTB.out.below).below hb); obtain ⟨a0, a1, a2, a3, a4⟩ := HTB.out.after hb) | (at_builtin; refine wpList_append_one ty_keys rfl _ _ rfl (R := KeyR) (.slice A8 i c8) (keysT l i) rfl _ (dn, ds) [.string dn, .int .u8 ds] rfl rfl rfl HO5.out rfl rfl (by simp [Value.oneCell']) (by rw [hki]; omega) (by rw [hki]; omega) ?_; intro g cap w6 hG))
            all_goals first
              | (exfalso; have hx : (((ds == 0) = true ∨ 3 < ds) ∨ (dk == 0) = true) ∨ 2 < dk := by assumption
                 simp only [beq_iff_eq] at hx; omega)
              | (exfalso; have hx : 2 < dk := by assumption
                 omega)
              | (refine ⟨⟨i + 1, by omega, by simp, hid (HQN.out _ _ (by have := hG.own; simpa [hki] using this)), hid (HB3.out.grown hG.grown HB3.out.size (fun k e => HL.out k e)), hid (HMO.out HQ.out), hid (fun g1 e => by
                  cases e
                  rcases hG.lies with h | h
                  · exact HL.out _ h
                  · have := HB3.out.size; show w.heap.size ≤ g; omega)⟩, ?_⟩
                 simp [Go.RowKit.intOf]; omega)
              | (go_roundw
                 case rel => exact ⟨i + 1, by omega, by simp, hid (HQN.out _ _ (by have := hG.own; simpa [hki] using this)), hid (HB3.out.grown hG.grown HB3.out.size (fun k e => HL.out k e)), hid (HMO.out HQ.out), hid (fun g1 e => by
                  cases e
                  rcases hG.lies with h | h
                  · exact HL.out _ h
                  · have := HB3.out.size; show w.heap.size ≤ g; omega)⟩
                 case measure => simp [Go.RowKit.intOf]; omega)
    · have hie : i = l.length := by omega
      subst hie
      have hli : ¬ ((l.length : Int) < (l.length : Int)) := by omega
      go_wp2
      go_ret3
      exact DeclPost.yes HG.out HO.out HB.out
end Go.Proofs.YtloilngmhekmmaaGreatDoor
