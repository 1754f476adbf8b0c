/- What the small functions of the program's lexer come to. -/
import Derived.Test.YtloilngmhekmmaaGreatDoorNumP
import Derived.Laws.RangeAny
import Derived.Laws.RangeString
set_option linter.unusedVariables false
set_option linter.unusedSimpArgs false
namespace Go.Proofs.YtloilngmhekmmaaGreatDoor.Lx
open Go.RowKit
def spacedC (c : Int) : Bool := c == 32 || c == 9 || c == 10
theorem spaced_any (c : Int) (w : World) : Calls Tryz.prog 36 #[.int .u8 c] w fun e w' => e = .returned (.bool (spacedC c)) ∧ w = w' := by
  go_enter Tryz.func36, Tryz.ntmps36
  go_wp2
  all_goals (go_ret; refine ⟨?_, rfl⟩; simp only [spacedC, *]; rfl)
def letterC (c : Int) : Bool := decide (97 ≤ c ∧ c ≤ 122)
def digitC (c : Int) : Bool := decide (48 ≤ c ∧ c ≤ 57)
def nameC : Bool → List UInt8 → Bool
  | _, [] => true
  | first, c :: r => (letterC c.toNat || (!first && digitC c.toNat)) && nameC false r
def lexName (s : ByteArray) : Bool := nameC true s.data.toList && decide (s.size ≠ 0 ∧ s.size ≤ 8)
theorem nameC_at {s : ByteArray} {k : Nat} (h : k < s.size) (b : Bool) : nameC b (s.data.toList.drop k) = ((letterC s[k].toNat || (!b && digitC s[k].toNat)) && nameC false (s.data.toList.drop (k + 1))) := by
  rw [drop_nth (by rw [sz]; exact h), get_nth s k h]; rfl
theorem dec_high (s : ByteArray) (pos : Nat) (h : pos < s.size) (ha : 128 ≤ (s[pos]'h).toNat) : 128 ≤ (Utf8.decode s pos).1 := (decode_high s pos h ha).1
theorem lexName_bad {s : ByteArray} {pos : Nat} (hR : nameC true s.data.toList = nameC (pos == 0) (s.data.toList.drop pos)) (h : pos < s.size) (c : Int) (hc : (s[pos].toNat : Int) = c) (hb : ¬ (97 ≤ c ∧ c ≤ 122) ∧ (pos = 0 ∨ ¬ (48 ≤ c ∧ c ≤ 57))) : lexName s = false := by
  unfold lexName
  rw [hR, nameC_at h]
  subst hc
  have h1 : letterC s[pos].toNat = false := decide_eq_false hb.1
  have h2 : (!(pos == 0) && digitC s[pos].toNat) = false := by
    rcases hb.2 with rfl | h3
    · rfl
    · have : digitC s[pos].toNat = false := decide_eq_false h3
      rw [this]; simp
  rw [h1, h2]; rfl
theorem lexName_good {s : ByteArray} {pos : Nat} (hR : nameC true s.data.toList = nameC (pos == 0) (s.data.toList.drop pos)) (h : pos < s.size) (c : Int) (hc : (s[pos].toNat : Int) = c) (hb : (97 ≤ c ∧ c ≤ 122) ∨ (0 < pos ∧ 48 ≤ c ∧ c ≤ 57)) : nameC true s.data.toList = nameC (pos + 1 == 0) (s.data.toList.drop (pos + 1)) := by
  rw [hR, nameC_at h]
  subst hc
  have h1 : (letterC s[pos].toNat || (!(pos == 0) && digitC s[pos].toNat)) = true := by
    rcases hb with hb | ⟨h3, hb⟩
    · have : letterC s[pos].toNat = true := decide_eq_true hb
      rw [this]; rfl
    · have : digitC s[pos].toNat = true := decide_eq_true hb
      have h4 : (pos == 0) = false := by simp; omega
      rw [this, h4]; simp
  rw [h1]; rfl
theorem name_end (s : ByteArray) {pos : Nat} (hR : nameC true s.data.toList = nameC (pos == 0) (s.data.toList.drop pos)) (h : ¬ pos < s.size) : lexName s = decide (s.size ≠ 0 ∧ s.size ≤ 8) := by
  unfold lexName
  rw [hR, List.drop_of_length_le (by rw [sz]; omega)]
  cases (pos == 0) <;> simp [nameC]
set_option maxHeartbeats 800000 in
set_option maxRecDepth 100000 in
theorem named_any (s : ByteArray) (w : World) (hs : s.size ≤ 9223372036854775807) : Calls Tryz.prog 53 #[.string s] w fun e w' => e = .returned (.bool (lexName s)) ∧ Below w.heap.size w w' := by
  have hie : s.toList.isEmpty = decide (s.size = 0) := by
    rw [ByteArray.toList_eq, Bool.eq_iff_iff]
    simp only [List.isEmpty_iff, decide_eq_true_eq]
    rw [← List.length_eq_zero_iff, sz]
  have HIE := hid hie; clear hie
  go_enter Tryz.func53, Tryz.ntmps53
  go_wp2
  go_loopw [3] (fun _ wr => ∃ pos : Nat, pos ≤ s.size ∧ wr = w.iter s pos ∧ Hid (nameC true s.data.toList = nameC (pos == 0) (s.data.toList.drop pos))) (fun _ wr => s.size - wr.iterPos w.heap.size)
  case atStart => exact ⟨0, by omega, rfl, hid rfl⟩
  case round =>
    obtain ⟨pos, hp, rfl, hR⟩ := hrel
    by_cases hlt : pos < s.size
    · have hnx : ∀ ty, (Instr.next (.pointer (some ⟨w.heap.size, 0, none⟩)) true ty).run Tryz.prog (w.iter s pos) = _ := fun ty => run_next_any w s pos ty hlt
      have bad := fun c hc => hid (lexName_bad hR.out hlt c hc)
      have good := fun c hc => hid (lexName_good hR.out hlt c hc)
      by_cases ha : s[pos].toNat < 128
      · have hdec := decode_ascii s pos hlt ha
        rw [hdec] at hnx
        dsimp only at hnx
        have bad' := bad _ rfl; have good' := good _ rfl
        clear hdec bad good
        generalize hc : s[pos].toNat = c at *
        have HC := hid hc; clear hc hR
        go_wp2
        all_goals (try simp only [Bool.not_eq_true', Bool.not_eq_false', decide_eq_true_eq, decide_eq_false_iff_not] at *)
        all_goals first
          | (exfalso; omega)
          | (go_ret; rw [bad'.out (by omega)]; exact ⟨rfl, (Below.refl _ _).alloc (Nat.le_refl _) _⟩)
          | (go_roundw
             case rel => exact ⟨pos + 1, by omega, rfl, good'.out (by omega)⟩
             case measure => simp; omega)
      · have hdec := dec_high s pos hlt (by omega)
        have bad' := hid ((bad _ rfl).out (by omega))
        generalize hr : (Utf8.decode s pos) = r at *
        have HR := hid hr; clear hr bad good hR
        obtain ⟨r1, r2⟩ := r
        dsimp only at hdec hnx
        go_wp2
        all_goals (try simp only [Bool.not_eq_true', Bool.not_eq_false', decide_eq_true_eq, decide_eq_false_iff_not] at *)
        all_goals first
          | (exfalso; omega)
          | (go_ret; rw [bad'.out]; exact ⟨rfl, (Below.refl _ _).alloc (Nat.le_refl _) _⟩)
    · have hnx : ∀ ty, (Instr.next (.pointer (some ⟨w.heap.size, 0, none⟩)) true ty).run Tryz.prog (w.iter s pos) = _ := fun ty => run_next_end w s pos ty hlt
      have hN := hid (name_end s hR.out hlt)
      clear hR
      go_wp2
      all_goals (go_ret; refine ⟨?_, (Below.refl _ _).alloc (Nat.le_refl _) _⟩; rw [hN.out])
      · have h : s.toList = [] := by assumption
        have h2 : s.toList.isEmpty = true := by rw [h]; rfl
        rw [HIE.out] at h2
        have h3 := of_decide_eq_true h2
        exact ret_bool (by simp [h3])
      · refine ret_bool ?_
        rw [HIE.out, Bool.eq_iff_iff]
        simp
        omega
/-- the signs that are words -/
def isSign (s : ByteArray) : Bool := s.toList == [43] || s.toList == [45] || s.toList == [42] || s.toList == [47] || s.toList == [37] || s.toList == [38] || s.toList == [124] || s.toList == [94] || s.toList == [61] || s.toList == [60]
/-- what kind of token a word is -/
def wordKind (s : ByteArray) : Int := if (parseW s).isSome then 4 else if isSign s || lexName s then 3 else 0
set_option maxHeartbeats 800000 in
theorem wordKind_any (s : ByteArray) (w : World) (hs : s.size ≤ 9223372036854775807) : Calls Tryz.prog 34 #[.string s] w fun e w' => e = .returned (.int .u8 (wordKind s)) ∧ Below w.heap.size w w' := by
  cases hp : parseW s with
  | some v =>
    have HP := hid hp; clear hp
    go_enter Tryz.func34, Tryz.ntmps34
    go_wp2_with (go_at_call 52; refine (parse_any s _ hs).mono ?_; rintro e w' ⟨rfl, hb⟩; rw [HP.out]; dsimp only [parseV])
    go_ret
    exact ⟨by unfold wordKind; rw [HP.out]; rfl, hb⟩
  | none =>
    have HP := hid hp; clear hp
    go_enter Tryz.func34, Tryz.ntmps34
    go_wp2_with (first | (go_at_call 52; refine (parse_any s _ hs).mono ?_; rintro e w' ⟨rfl, hb⟩; rw [HP.out]; dsimp only [parseV]) | (go_at_call 53; refine (named_any s _ hs).mono ?_; rintro e w' ⟨rfl, hb2⟩))
    all_goals (go_ret; refine ⟨ret_int ?_, by first | exact hb | exact hb.trans (hb2.mono hb.size)⟩; unfold wordKind isSign; rw [HP.out]; clear HP; simp_all)
end Go.Proofs.YtloilngmhekmmaaGreatDoor.Lx
