/- A program's keys; a key's kind; names that nobody has declared: the law's walk. -/
import Derived.Test.YtloilngmhekmmaaGreatDoorScopeX
import Derived.Test.YtloilngmhekmmaaGreatDoorScopeG
import Derived.Deep.RegionHeld3
set_option linter.unusedVariables false
set_option linter.unusedSimpArgs false
namespace Go.Proofs.YtloilngmhekmmaaGreatDoor
open Go.RowKit Go.WideMaps
theorem outS_more (l : List DeclM) (n : Nat) : ∀ k, ∃ r, outS l (n + k) = outS l n ++ r
  | 0 => ⟨[], by simp⟩
  | k + 1 => by
    obtain ⟨r, hr⟩ := outS_more l n k
    rw [← Nat.add_assoc, outS_succ]
    split
    · exact ⟨r, hr⟩
    · exact ⟨r ++ [qS (n + k)], by rw [hr, List.append_assoc]⟩
theorem outS_le {l : List DeclM} {n m : Nat} (h : n ≤ m) (hl : (outS l n).length = (outS l m).length) : outS l n = outS l m := by
  obtain ⟨r, hr⟩ := outS_more l n (m - n)
  rw [show n + (m - n) = m by omega] at hr
  rw [hr, List.length_append] at hl
  have : r = [] := List.eq_nil_of_length_eq_zero (by omega)
  rw [hr, this, List.append_nil]
theorem outS_one {l : List DeclM} {n m : Nat} (hl : (outS l n).length = (outS l m).length) : outS l n = outS l m := by
  rcases Nat.le_total n m with h | h
  · exact outS_le h hl
  · exact (outS_le h hl.symm).symm
theorem held_next {W0 w w' : World} {p q : Addr} {a b : Value} (h : Below W0.heap.size W0 w ∧ w.cell? p = some a ∧ w.cell? q = some b) (hb : Below w.heap.size w w') : Below W0.heap.size W0 w' ∧ w'.cell? p = some a ∧ w'.cell? q = some b :=
  ⟨h.1.trans (hb.mono h.1.size), (hb.cell (World.block_lt_of_cell? w p h.2.1)).trans h.2.1, (hb.cell (World.block_lt_of_cell? w q h.2.2)).trans h.2.2⟩
theorem held_b {W0 w : World} {p q : Addr} {a b : Value} (h : Below W0.heap.size W0 w ∧ w.cell? p = some a ∧ w.cell? q = some b) : Below W0.heap.size W0 w := h.1
set_option maxHeartbeats 3200000 in
set_option maxRecDepth 100000 in
theorem lawDecl (l : List DeclM) (v : Value) (D : Nat → Prop) (kn : ByteArray) (ks m : Int) (w : World) (h : Decls w D v l) (hn : ∀ d ∈ l, KeyIn (keyD d) ∧ 0 ≤ d.kind) (hm : -9223372036854775808 ≤ m ∧ m ≤ 9223372036854775807) (htab : TabW w) (hlive : ∀ w, Calls Tryz.prog 9 #[] w fun e w' => e = .returned (.bool true) ∧ Below w.heap.size w w') :
    Calls Tryz.prog 4 #[v, .agg #[.string kn, .int .u8 ks], .int .i64 m] w fun e w' => e = .returned (.bool true) ∧ Below w.heap.size w w' := by
  have HBX := hid ((Below.refl w.heap.size w).alloc (Nat.le_refl _) (.cells #[.string kn, .int .u8 ks] 31))
  have hnb := new_blk w (.cells #[.string kn, .int .u8 ks] 31)
  have K0 := hid (show (w.alloc (.cells #[.string kn, .int .u8 ks] 31)).cell? ⟨w.heap.size, 0, none⟩ = some (.string kn) by rw [blk_cell hnb]; rfl)
  have K1 := hid (show (w.alloc (.cells #[.string kn, .int .u8 ks] 31)).cell? ⟨w.heap.size, 1, none⟩ = some (.int .u8 ks) by rw [blk_cell hnb]; rfl)
  have KS := hid (show w.heap.size < (w.alloc (.cells #[.string kn, .int .u8 ks] 31)).heap.size by rw [World.size_alloc]; omega)
  clear hnb
  have C1 := hid (few_any (w.alloc (.cells #[.string kn, .int .u8 ks] 31)) D v l (h.below HBX.out))
  have HL := hid (show (l.take 40).length ≤ 40 by rw [List.length_take]; omega)
  have HN := hid (fun d (hd : d ∈ l.take 40) => hn d (List.mem_of_mem_take hd))
  obtain ⟨l40, h40⟩ : ∃ l40, l.take 40 = l40 := ⟨_, rfl⟩
  rw [h40] at C1 HL HN
  have HT := hid htab
  have LV := hid hlive
  have HM := hid hm
  clear h hn htab h40 hlive hm
  go_enter Tryz.func4, Tryz.ntmps4
  go_wp2_with (first | (go_at_call 5; refine C1.out.mono ?_; rintro e w' ⟨v1, rfl, hD1, rfl⟩; have HD1 := hid hD1; clear hD1) | (go_at_call 10; refine (declared_any l40 v1 D _ HD1.out HL.out (fun d hd => (HN.out d hd).1)).mono ?_; rintro e w2 ⟨vA, iA, xA, kA, rfl, hPA, hKA, hB2⟩; have HPA := hid hPA; have HKA := hid hKA; have HB2 := hid hB2; clear hPA hKA hB2) | (go_at_call 11; refine (declared10_any l40 v1 D _ (HD1.out.below HB2.out) HL.out HN.out).mono ?_; rintro e w3 ⟨vB, iB, xB, kB, rfl, hPB, hKB, hB3⟩; obtain ⟨rfl, rfl, rfl⟩ := HPA.out.one hPB; have HKB := hid hKB; have HB3 := hid hB3; clear hPB hKB hB3))
  have HDL := hid ((HD1.out.below HB2.out).below HB3.out)
  have HKA3 := hid (HKA.out.below HB3.out)
  have HB23 := hid (HB2.out.trans (HB3.out.mono HB2.out.size))
  have q0 := (HB23.out.cell (p := ⟨w.heap.size, 0, none⟩) KS.out).trans K0.out
  have q1 := (HB23.out.cell (p := ⟨w.heap.size, 1, none⟩) KS.out).trans K1.out
  have HBW := hid (HBX.out.trans (HB23.out.mono HBX.out.size))
  have HT3 := hid (HT.out.below HBW.out)
  have HN2 := hid (fun d (hd : d ∈ l40) => (HN.out d hd).1.1)
  obtain ⟨kd, hkd⟩ : ∃ kd, kindS kn ks l40 = kd := ⟨_, rfl⟩
  have HKD := hid hkd
  have hb0 : Below w3.heap.size w3 w3.drew := drewB (Below.refl _ _)
  clear hkd K0 K1 KS HBX C1 HT HD1 HB2 HB3 HKA HPA HN HB23
  go_region_held3 (fun w' => Below w3.heap.size w3 w' ∧ w'.cell? ⟨w.heap.size, 0, none⟩ = some (.string kn) ∧ w'.cell? ⟨w.heap.size, 1, none⟩ = some (.int .u8 ks))
    (first | assumption | exact ⟨hb0, q0, q1⟩ | exact held_next (by assumption) hb6)
    (first
      | (go_at_call 9; refine (LV.out _).mono ?_; rintro e w6 ⟨rfl, hb6⟩)
      | (go_at_call 12; refine (sameKeys_same kA vA vB _ _ _ (HKA3.out.below (held_b (by assumption))) (HKB.out.below (held_b (by assumption)))).mono ?_; rintro e w6 ⟨rfl, hb6⟩)
      | (go_at_call 8; refine (kindOf_any kn ks l40 v1 D _ (HDL.out.below (held_b (by assumption)))).mono ?_; rw [HKD.out]; rintro e w6 ⟨rfl, hb6⟩)
      | (go_at_call 13; refine (kind10_any kn ks l40 v1 D _ (HDL.out.below (held_b (by assumption)))).mono ?_; rw [HKD.out]; rintro e w6 ⟨rfl, hb6⟩)
      | (go_at_call 6; refine (fresh_any l40 v1 D m _ (HDL.out.below (held_b (by assumption))) HL.out HN2.out HM.out (HT3.out.below (held_b (by assumption)))).mono ?_; rintro e wF ⟨vF, nF, rfl, hOF, hlF, hnF, hb6, hgF⟩; have HOF := hid hOF; have HLF := hid hlF; clear hOF hlF hnF hgF)
      | (go_at_call 15; refine (fresh10_any l40 v1 D m _ (HDL.out.below (held_b (by assumption))) HL.out HM.out).mono ?_; rintro e w6 ⟨vG, nG, rfl, hOG, hlG, hnG, hb6⟩; have HRF := hid (HOF.out.below hb6); have HOG := hid hOG; have HEQ := hid (outS_one (l := l40) (n := nF) (m := nG) (HLF.out.trans hlG.symm)); clear hOG hlG hnG)
      | (go_at_call 14; refine (sameTexts_same (outS l40 nG) vF vG (fun _ => True) (fun _ => True) _ (by have := HRF.out.row (D := fun _ => True) (fun _ _ h => h.len) (fun _ _ => trivial); rw [HEQ.out] at this; exact this) (HOG.out.row (D := fun _ => True) (fun _ _ h => h.len) (fun _ _ => trivial))).mono ?_; rintro e w6 ⟨rfl, hb6⟩))
  have HF := hid (HBW.out.trans ((held_b (by assumption)).mono HBW.out.size))
  go_wp2
  go_ret
  exact ⟨rfl, HF.out⟩
end Go.Proofs.YtloilngmhekmmaaGreatDoor
