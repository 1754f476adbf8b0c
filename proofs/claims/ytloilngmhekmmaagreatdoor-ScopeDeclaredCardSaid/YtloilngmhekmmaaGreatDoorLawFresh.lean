/- Fresh names can be declared, each once: the law's walk. -/
import Derived.Test.YtloilngmhekmmaaGreatDoorScope3
import Derived.Test.YtloilngmhekmmaaGreatDoorProg
set_option linter.unusedVariables false
set_option linter.unusedSimpArgs false
namespace Go.Proofs.YtloilngmhekmmaaGreatDoor
open Go.RowKit
def Strs (w : World) (D : Nat → Prop) (v : Value) (l : List ByteArray) : Prop := Row w D StrR 1 v l
theorem Strs.all {w : World} {D : Nat → Prop} {v : Value} {l : List ByteArray} (h : Strs w D v l) (h0 : 0 < l.length) :
    ∃ b off c, v = .slice (some ⟨b, off, none⟩) l.length c ∧ l.length ≤ c ∧ c ≤ 9223372036854775807 ∧ D b ∧ b < w.heap.size ∧ ∀ k, k < l.length → w.cell? ⟨b, off + k, none⟩ = some (.string (nth l k)) := by
  obtain ⟨A, c, h1, h2, h3, h4⟩ := h.out
  obtain ⟨b, off, hA, hD, hall⟩ := h4 h0
  subst hA
  have key : ∀ k, k < l.length → w.cell? ⟨b, off + k, none⟩ = some (.string (nth l k)) := by
    intro k hk
    obtain ⟨cs, hr, _, hc⟩ := hall k hk
    have hr' : cs = [.string (nth l k)] := hr
    subst hr'
    have hcell := hc 0 _ rfl
    simpa only [Nat.mul_one, Nat.add_zero] using hcell
  exact ⟨b, off, c, h1, h2, h3, hD, World.block_lt_of_cell? w _ (key 0 h0), key⟩
set_option maxHeartbeats 1600000 in
set_option maxRecDepth 100000 in
theorem lawFresh (l : List DeclM) (v : Value) (D : Nat → Prop) (m : Int) (w : World) (h : Decls w D v l) (hn : ∀ d ∈ l, d.name.size ≤ 9223372036854775807) (hm : 0 ≤ m ∧ m ≤ 255) (htab : TabW w) (hlive : ∀ w, Calls Tryz.prog 9 #[] w fun e w' => e = .returned (.bool true) ∧ Below w.heap.size w w') :
    Calls Tryz.prog 3 #[v, .int .u8 m] w fun e w' => e = .returned (.bool true) ∧ Below w.heap.size w w' := by
  have C1 := hid (few_any w D v l h)
  have HL := hid (show (l.take 40).length ≤ 40 by rw [List.length_take]; omega)
  have HN := hid (fun d (hd : d ∈ l.take 40) => hn d (List.mem_of_mem_take hd))
  obtain ⟨l40, h40⟩ : ∃ l40, l.take 40 = l40 := ⟨_, rfl⟩
  rw [h40] at C1 HL HN
  have HT := hid htab
  have LV := hid hlive
  have hw1 : IntKind.i64.wrap m = m := i64w (by omega) (by omega)
  have hmI : mostI m = if (64 : Int) < m then 64 else m := rfl
  have HMI := hid hmI
  clear hmI h hn htab h40 hlive
  go_enter Tryz.func3, Tryz.ntmps3
  go_wp2_with (first | (go_at_call 5; refine C1.out.mono ?_; rintro e w' ⟨v1, rfl, hD1, rfl⟩; have HD1 := hid hD1; clear hD1) | (go_at_call 6; refine (fresh_any l40 v1 D m _ HD1.out HL.out HN.out (by omega) HT.out).mono ?_; rintro e w3 ⟨v2, n, rfl, hO, hlen, hn104, hB3, hG⟩; have HO := hid hO; have HLN := hid hlen; have HB3 := hid hB3; clear hO hlen hB3 hG))
  all_goals
    obtain ⟨A8, c8, rfl, hc8, hcm8⟩ := HO.out.slice
    have HR := hid (HO.out.row (D := fun _ => True) (fun _ _ h => h.len) (fun _ _ => trivial))
    have HAT := hid (fun k (hk : k < (outS l40 n).length) => outS_at hk)
    have HNE := hid (fun j k (hk : k < (outS l40 n).length) (hj : j < k) => outS_ne hk hj)
    obtain ⟨O, hO⟩ : ∃ O, outS l40 n = O := ⟨_, rfl⟩
    rw [hO] at HR HAT HNE HLN HO hc8
    rw [hO]
    clear hO
    go_loopw [7] (fun t7 wr => ∃ i : Nat, i ≤ O.length ∧ t7 = .int .i64 (i : Int) ∧ Hid (Below w3.heap.size w3 wr)) (fun t7 _ => O.length - (Go.RowKit.intOf t7).toNat)
    case atStart => exact ⟨0, by omega, rfl, hid (Below.refl _ _)⟩
    case round =>
      obtain ⟨i, hi, rfl, HB⟩ := hrel
      by_cases hlt : i < O.length
      · have hli : (i : Int) < (O.length : Int) := by omega
        obtain ⟨b, off, c', he, _, _, _, hb, hall⟩ := (show Strs w3 (fun _ => True) _ O from HR.out).all (by omega)
        simp only [Value.slice.injEq, true_and] at he
        obtain ⟨rfl, rfl⟩ := he
        have HALL := hid hall
        have hci := (HB.out.cell (p := ⟨b, off + i, none⟩) hb).trans (hall i hlt)
        obtain ⟨q, hq1, hq2, hq3⟩ := HAT.out i hlt
        rw [hq2] at hci
        have HQ1 := hid hq1
        have HQ2 := hid hq2
        have HQ3 := hid (fun sd => kind_free hq3 sd)
        have HQS := hid (qS_small (show q ≤ 104 by omega))
        have HQN := hid (qS_name (show q < 10000000 by omega))
        clear hall hq1 hq2 hq3
        go_wp2_with (go_at_call 7; refine (name04_any (qS q) _ HQS.out).mono ?_; rw [HQN.out]; rintro e w4 ⟨rfl, rfl⟩)
        go_loopw [8] (fun t8 w5 => ∃ s : Nat, 1 ≤ s ∧ s ≤ 4 ∧ t8 = .int .u8 (s : Int) ∧ Hid (Below w3.heap.size w3 w5)) (fun t8 _ => 5 - (Go.RowKit.intOf t8).toNat)
        case atStart => exact ⟨1, by omega, by omega, rfl, HB⟩
        case round =>
          obtain ⟨s, hs1, hs4, rfl, HB5⟩ := hrel
          by_cases hs : s ≤ 3
          · have hsi : (s : Int) ≤ 3 := by omega
            have hci := (HB5.out.cell (p := ⟨b, off + i, none⟩) hb).trans (HALL.out i hlt)
            rw [HQ2.out] at hci
            have hwu : IntKind.u8.wrap ((s : Int) + 1) = (s : Int) + 1 := by simp [IntKind.wrap, IntKind.signed, IntKind.bits]; omega
            have HBW := hid (HB3.out.trans (HB5.out.mono HB3.out.size))
            go_wp2_with (go_at_call 8; refine (kindOf_any (qS q) (s : Int) l40 v1 D _ (HD1.out.below HBW.out)).mono ?_; rw [HQ3.out]; rintro e w6 ⟨rfl, hb6⟩)
            go_roundw
            case rel => exact ⟨s + 1, by omega, by omega, by simp, hid (HB5.out.trans (hb6.mono HB5.out.size))⟩
            case measure => simp [Go.RowKit.intOf]; omega
          · have hsi : ¬ (s : Int) ≤ 3 := by omega
            go_wp2
            go_loopw [9] (fun t9 w7 => ∃ k : Nat, k ≤ i ∧ t9 = .int .i64 (k : Int) ∧ Hid (Below w3.heap.size w3 w7)) (fun t9 _ => O.length - (Go.RowKit.intOf t9).toNat)
            case atStart => exact ⟨0, by omega, rfl, HB5⟩
            case round =>
              obtain ⟨k, hk, rfl, HB7⟩ := hrel
              by_cases hki : k < i
              · have hkl : (k : Int) < (i : Int) := by omega
                have hkO : (k : Int) < (O.length : Int) := by omega
                have hci := (HB7.out.cell (p := ⟨b, off + i, none⟩) hb).trans (HALL.out i hlt)
                have hck := (HB7.out.cell (p := ⟨b, off + k, none⟩) hb).trans (HALL.out k (by omega))
                have HNEK := hid (HNE.out k i hlt hki)
                obtain ⟨x, hx⟩ : ∃ x, nth O k = x := ⟨_, rfl⟩
                obtain ⟨y, hy⟩ : ∃ y, nth O i = y := ⟨_, rfl⟩
                rw [hx, hy] at HNEK
                rw [hx] at hck
                rw [hy] at hci
                clear hx hy
                go_wp2
                go_region
                have HB8 := hid (show Below w3.heap.size w3 wr.drew from ⟨HB7.out.os, HB7.out.tape, HB7.out.output, HB7.out.size, HB7.out.block⟩)
                have hxy : ¬ x.toList = y.toList := fun e => HNEK.out (strl.1 e)
                go_wp2
                all_goals first
                  | (exfalso; rename_i he; exact hxy (by simpa using he))
                  | (refine ⟨⟨k + 1, by omega, by simp, HB8⟩, ?_⟩; simp [Go.RowKit.intOf]; omega)
                  | (go_roundw
                     case rel => refine ⟨k + 1, by omega, ?_⟩; first | exact ⟨by simp, HB8⟩ | omega
                     case measure => simp [Go.RowKit.intOf]; omega)
              · have hkl : ¬ (k : Int) < (i : Int) := by omega
                go_wp2
                go_roundw
                case rel => refine ⟨i + 1, by omega, ?_⟩; first | exact ⟨by simp, HB7⟩ | omega
                case measure => simp [Go.RowKit.intOf]; omega
      · have hli : ¬ (i : Int) < (O.length : Int) := by omega
        have hie : i = O.length := by omega
        subst hie
        have hll : (O.length : Int) = mostI m := by rw [HLN.out]; unfold mostI mostS; split <;> omega
        rw [HMI.out] at hll
        have HBB := hid (HB3.out.trans (HB.out.mono HB3.out.size))
        go_wp2_with (go_at_call 9; refine (LV.out _).mono ?_; rintro e w6 ⟨rfl, hb6⟩)
        all_goals go_ret
        all_goals exact ⟨rfl, HBB.out.trans (hb6.mono HBB.out.size)⟩
end Go.Proofs.YtloilngmhekmmaaGreatDoor
