/- Fresh, the reference's. -/
import Derived.Test.YtloilngmhekmmaaGreatDoorScopeQ
import Derived.BigQuiet
set_option linter.unusedVariables false
set_option linter.unusedSimpArgs false
namespace Go.Proofs.YtloilngmhekmmaaGreatDoor
open Go.RowKit
theorem taken_take {l : List DeclM} {i : Nat} (h : i < l.length) (s : ByteArray) : taken (l.take (i + 1)) s = (taken (l.take i) s || decide ((nth l i).name = s)) := by
  unfold taken
  rw [take_succ_nth h, List.any_append]; simp
theorem str_dec (a b : ByteArray) : (a.toList == b.toList) = decide (a = b) := by
  rw [Bool.eq_iff_iff]; simp only [beq_iff_eq, decide_eq_true_eq]; exact strl
set_option maxHeartbeats 1600000 in
set_option maxRecDepth 100000 in
theorem fresh10_any (l : List DeclM) (v : Value) (D : Nat → Prop) (many : Int) (w : World) (h : Decls w D v l) (hl : l.length ≤ 40) (hm : -9223372036854775808 ≤ many ∧ many ≤ 9223372036854775807) :
    Calls Tryz.prog 15 #[v, .int .i64 many] w fun e w' => ∃ v' n, e = .returned v' ∧ Own w' 9 1 StrR v' (outS l n) ∧ (outS l n).length = mostS many ∧ n ≤ 104 ∧ Below w.heap.size w w' := by
  obtain ⟨A, c, rfl, hc, hcm⟩ := h.slice
  have HD := hid h
  have HM := hid hm
  clear h hm
  go_enter Tryz.func15, Tryz.ntmps15
  go_wp2
  go_loopw [5, 6] (fun t5 t6 w2 => ∃ n : Nat, t6 = .int .i64 (n : Int) ∧ Hid (Own w2 9 1 StrR t5 (outS l n)) ∧ Hid (Below w.heap.size w w2) ∧ Hid ((outS l n).length ≤ mostS many) ∧ Hid (∀ g, t5.ownBlock = some g → w.heap.size ≤ g)) (fun _ t6 _ => 200 - (Go.RowKit.intOf t6).toNat)
  case atStart => exact ⟨0, rfl, hid (Own.nil _ _ _ _), hid (Below.refl _ _), hid (by simp [outS]), hid (fun g hg => by cases hg)⟩
  case round =>
    obtain ⟨n, rfl, HO, HB, HC, HG⟩ := hrel
    rename World => w2
    have hcnt := outS_count l n
    have hms := mostS_le many
    have HC2 := HC.out
    have hn : n ≤ 104 := by omega
    obtain ⟨A8, c8, rfl, hc8, hcm8⟩ := HO.out.slice
    by_cases hlt : (outS l n).length < mostS many
    · have h1 : ((outS l n).length : Int) < many := by unfold mostS at hlt; omega
      have h2 : ((outS l n).length : Int) < 64 := by omega
      have h3 : (n : Int) < (l.length : Int) + 64 := by omega
      have HOS := hid (outS_succ l n)
      have HLT := hid hlt
      obtain ⟨K, hK⟩ : ∃ K, (outS l n).length = K := ⟨_, rfl⟩
      rw [hK] at h1 h2 hc8 HLT
      have HKE := hid hK
      rw [hK] at HO HG
      rw [hK]
      clear hcnt hms HC2 hlt hK
      go_wp2
      go_loopw [7, 8] (fun t7 t8 wr => ∃ i : Nat, i ≤ l.length ∧ t8 = .int .i64 (i : Int) ∧ t7 = .bool (taken (l.take i) (qS n)) ∧ Hid (Below w2.heap.size w2 wr)) (fun _ t8 _ => l.length - (Go.RowKit.intOf t8).toNat)
      case atStart => exact ⟨0, by omega, rfl, rfl, hid (Below.refl _ _)⟩
      case round =>
        obtain ⟨i, hi, rfl, rfl, HB9⟩ := hrel
        by_cases hlt : i < l.length
        · have hli : (i : Int) < (l.length : Int) := by omega
          obtain ⟨B, off, c', he, _, _, _, hB, hall⟩ := HD.out.all (by omega)
          simp only [Value.slice.injEq, true_and] at he
          obtain ⟨rfl, rfl⟩ := he
          obtain ⟨c0, c1, c2⟩ := hall i hlt
          have HB2 := hid (HB.out.trans (HB9.out.mono HB.out.size))
          have c0' := (HB2.out.cell (p := ⟨B, off + i * 3, none⟩) hB).trans c0
          have HTK := hid (taken_take hlt (qS n))
          obtain ⟨d, hd⟩ : ∃ d, nth l i = d := ⟨_, rfl⟩
          rw [hd] at c0' HTK
          obtain ⟨dn, ds, dk⟩ := d
          dsimp only at c0' HTK
          clear c0 c1 c2 hall hd
          cases ht : taken (l.take i) (qS n) with
          | true =>
            have HQ := hid (HTK.out.trans (by rw [ht]))
            clear HTK ht
            go_wp2_with fail
            go_quiet (fail)
            go_wp2
            refine ⟨⟨i + 1, by omega, by simp, by rw [HQ.out]; rfl, hid (below_drewN HB9.out _)⟩, ?_⟩
            simp [Go.RowKit.intOf]; omega
          | false =>
            have HQ := hid (HTK.out.trans (by rw [ht]))
            clear HTK ht
            go_wp2_with fail
            go_quiet ((go_at_call 24; exact Calls.quiet_of_same (q_any n (by omega) _)))
            go_wp2
            refine ⟨⟨i + 1, by omega, by simp, by rw [HQ.out, Bool.false_or, str_dec], hid (below_drewN HB9.out _)⟩, ?_⟩
            simp [Go.RowKit.intOf]; omega
        · have hli : ¬ (i : Int) < (l.length : Int) := by omega
          have hie : i = l.length := by omega
          subst hie
          rw [List.take_length]
          have HB2 := hid (HB.out.trans (HB9.out.mono HB.out.size))
          have HOW := hid (HO.out.below HB9.out)
          cases ht : taken l (qS n) with
          | true =>
            have HTK := hid ht
            clear ht
            go_wp2
            go_roundw
            case rel => exact ⟨n + 1, by simp, hid (by rw [HOS.out, HTK.out]; exact HOW.out), HB2, hid (by rw [HOS.out, HTK.out]; exact HC.out), HG⟩
            case measure => simp [Go.RowKit.intOf]; omega
          | false =>
            have HTK := hid ht
            clear ht
            go_wp2_with (first | (go_at_call 24; refine (q_any n (by omega) _).mono ?_; rintro e w' ⟨rfl, rfl⟩) | (at_builtin; refine wpList_append_one ty_str rfl _ _ rfl (R := StrR) (.slice A8 K c8) (outS l n) rfl _ (qS n) [.string (qS n)] rfl rfl rfl HOW.out rfl rfl (by simp [Value.oneCell']) (by rw [HKE.out]; omega) (by rw [HKE.out]; omega) ?_; intro g cap w6 hG))
            go_roundw
            case rel => exact ⟨n + 1, by simp, hid (by rw [HOS.out, HTK.out]; have := hG.own; simpa [HKE.out] using this), hid (HB2.out.grown hG.grown HB2.out.size (fun k e => HG.out k e)), hid (by rw [HOS.out, HTK.out]; have := HKE.out; have := HLT.out; simp; omega), hid (fun g1 e => by
              cases e
              rcases hG.lies with h | h
              · exact HG.out _ h
              · have := HB2.out.size; show w.heap.size ≤ g; omega)⟩
            case measure => simp [Go.RowKit.intOf]; omega
    · have HEQ := hid (show (outS l n).length = mostS many by omega)
      by_cases h1 : ((outS l n).length : Int) < many
      · have h2 : ¬ ((outS l n).length : Int) < 64 := by have := HEQ.out; unfold mostS at this; omega
        clear hcnt hms HC2 hlt
        go_wp2
        go_ret
        exact ⟨_, rfl, n, HO.out, HEQ.out, hn, HB.out⟩
      · clear hcnt hms HC2 hlt
        go_wp2
        go_ret
        exact ⟨_, rfl, n, HO.out, HEQ.out, hn, HB.out⟩
end Go.Proofs.YtloilngmhekmmaaGreatDoor
