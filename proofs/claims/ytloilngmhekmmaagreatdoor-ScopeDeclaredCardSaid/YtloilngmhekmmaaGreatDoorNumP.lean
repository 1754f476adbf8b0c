/- What the program's num.Parse comes to. -/
import Derived.Test.YtloilngmhekmmaaGreatDoorNum
set_option linter.unusedVariables false
set_option linter.unusedSimpArgs false
namespace Go.Proofs.YtloilngmhekmmaaGreatDoor
open Go.RowKit
/-- A number's text. -/
def digs (w : Int) : ByteArray := ⟨(Lib.itoa w).toArray⟩
def InW (w : Int) : Prop := -9223372036854775808 ≤ w ∧ w ≤ 9223372036854775807
theorem wrap64_inW (w : Int) : InW (wrap64 w) := by unfold InW wrap64; omega
theorem digs_any (a : Int) (w : World) (h : InW a) : Calls Tryz.prog 76 #[.int .i64 a] w fun e w' => e = .returned (.string (digs a)) ∧ Below w.heap.size w w' := digits_any a w h.1 h.2
def pstep (w : Int) (c : UInt8) : Int := wrap64 (wrap64 (w * 10) - ((c.toNat : Int) - 48))
def pgo : List UInt8 → Int → Option Int
  | [], w => some w
  | c :: r, w => if (c.toNat : Int) < 48 ∨ 57 < (c.toNat : Int) then none else pgo r (pstep w c)
def pbody (l : List UInt8) : Option Int := if l.head? = some 45 then pgo l.tail 0 else (pgo l 0).map fun w => wrap64 (-w)
def parseW (s : ByteArray) : Option Int := if s.size = 0 ∨ 20 < s.size then none else (pbody s.data.toList).bind fun w => if digs w = s then some w else none
def parseV : Option Int → Value
  | some w => .tuple #[.int .i64 w, .int .i64 0]
  | none => .tuple #[.int .i64 0, .int .i64 3]
theorem pgo_cons {l : List UInt8} {k : Nat} (h : k < l.length) (w : Int) : pgo (l.drop k) w = if ((nth l k).toNat : Int) < 48 ∨ 57 < ((nth l k).toNat : Int) then none else pgo (l.drop (k + 1)) (pstep w (nth l k)) := by
  rw [drop_nth h]; rfl
theorem pgo_in : ∀ (l : List UInt8) (w v : Int), InW w → pgo l w = some v → InW v
  | [], w, v, hw, h => by simp [pgo] at h; subst h; exact hw
  | c :: r, w, v, hw, h => by
    simp only [pgo] at h
    split at h
    · cases h
    · exact pgo_in r _ v (wrap64_inW _) h
theorem pbody_in (l : List UInt8) (v : Int) (h : pbody l = some v) : InW v := by
  unfold pbody at h
  split at h
  · exact pgo_in _ _ _ ⟨by omega, by omega⟩ h
  · obtain ⟨x, _, rfl⟩ := Option.map_eq_some_iff.1 h
    exact wrap64_inW _
theorem parseW_in {s : ByteArray} {v : Int} (h : parseW s = some v) : InW v := by
  unfold parseW at h
  split at h
  · cases h
  · obtain ⟨x, hx, h2⟩ := Option.bind_eq_some_iff.1 h
    split at h2
    · cases h2; exact pbody_in _ _ hx
    · cases h2
theorem str_eq (s t : ByteArray) : (s.toList == t.toList) = decide (s = t) := by
  rw [Bool.eq_iff_iff]
  simp only [beq_iff_eq, decide_eq_true_eq, ByteArray.toList_eq]
  constructor
  · intro h
    have h2 := Array.toList_inj.1 h
    cases s; cases t; simp_all
  · intro h; rw [h]
theorem sz (s : ByteArray) : s.data.toList.length = s.size := by rw [Array.length_toList]; rfl
theorem ne_empty {s : ByteArray} (h : 0 < s.size) : s.toList.isEmpty = false := by
  rw [ByteArray.toList_eq, List.isEmpty_eq_false_iff]
  intro he
  have := sz s
  rw [he] at this; simp at this; omega
theorem get_nth (s : ByteArray) (k : Nat) (h : k < s.size) : s[k] = nth s.data.toList k := by
  rw [nth_eq (by simpa using h)]; rfl
theorem parse_empty (s : ByteArray) (w : World) (h : s.size = 0 ∨ 20 < s.size) (hs : s.size ≤ 9223372036854775807) : Calls Tryz.prog 52 #[.string s] w fun e w' => e = .returned (parseV (parseW s)) ∧ Below w.heap.size w w' := by
  have hp : parseW s = none := by unfold parseW; rw [if_pos h]
  rw [hp]; clear hp
  rcases h with h | h
  · have he : s.toList = [] := by rw [ByteArray.toList_eq]; exact List.eq_nil_of_length_eq_zero (by simpa using h)
    have hz : s.toList.isEmpty = true := by rw [he]; rfl
    go_enter Tryz.func52, Tryz.ntmps52
    go_wp2
    all_goals (go_ret2; exact ⟨rfl, Below.refl _ _⟩)
  · have hz := ne_empty (s := s) (by omega)
    go_enter Tryz.func52, Tryz.ntmps52
    go_wp2
    all_goals (go_ret2; exact ⟨rfl, Below.refl _ _⟩)
set_option maxHeartbeats 800000 in
set_option maxRecDepth 100000 in
theorem parse_some (s : ByteArray) (w : World) (h0 : 0 < s.size) (h1 : s.size ≤ 20) : Calls Tryz.prog 52 #[.string s] w fun e w' => e = .returned (parseV (parseW s)) ∧ Below w.heap.size w w' := by
  have hz := ne_empty h0
  have h20 : decide (20 < (s.size : Int)) = false := by simp; omega
  obtain ⟨R, HR⟩ : ∃ R, Hid (R = if s[0] = 45 then pgo (s.data.toList.drop 1) 0 else pgo s.data.toList 0) := ⟨_, hid rfl⟩
  have hpp : parseW s = (if s[0] = 45 then R else R.map fun w => wrap64 (-w)).bind fun w => if digs w = s then some w else none := by
    unfold parseW pbody
    rw [if_neg (by omega), HR.out]
    have hh : s.data.toList.head? = some s[0] := by
      rw [List.head?_eq_getElem?, nth_some (by rw [sz]; exact h0), ← get_nth s 0 h0]
    rw [hh]
    by_cases h : s[0] = 45
    · simp [h]
    · simp [h]
  have HP := hid hpp; clear hpp
  obtain ⟨b, hb⟩ : ∃ b : Bool, b = decide (s[0] = 45) := ⟨_, rfl⟩
  have hb2 : ((s[0].toNat : Int) == 45) = b := by
    rw [hb, Bool.eq_iff_iff]; simp [← UInt8.toNat_inj]; omega
  have HB := hid hb; clear hb
  go_enter Tryz.func52, Tryz.ntmps52
  go_wp2
  clear hb2
  go_loop [4, 19] (fun t4 t19 => ∃ (k : Nat) (x : Int), k ≤ s.size ∧ t19 = .int .i64 k ∧ t4 = .int .i64 x ∧ InW x ∧ Hid ((k = 0 ∧ x = 0) ∨ (0 < k ∧ R = pgo (s.data.toList.drop k) x))) (fun _ t19 => s.size - (intOf t19).toNat)
  case atStart => exact ⟨0, 0, by omega, rfl, rfl, ⟨by omega, by omega⟩, .inl ⟨rfl, rfl⟩⟩
  case round =>
    obtain ⟨k, x, hk, rfl, rfl, hx, hR⟩ := hrel
    have HX := hid hx; clear hx
    by_cases hlt : k < s.size
    · have hc := get_nth s k hlt
      have HC := hid hc; clear hc
      have hc255 : (s[k].toNat : Int) ≤ 255 := by have := s[k].toNat_lt; omega
      have hR' : Hid ((k = 0 → b = false) → R = pgo (s.data.toList.drop k) x) := by
        intro hkb
        rcases hR.out with ⟨rfl, rfl⟩ | h
        · have hbf := hkb rfl
          rw [HB.out] at hbf
          rw [HR.out, if_neg (of_decide_eq_false hbf)]
          rfl
        · exact h.2
      have bad : Hid ((k = 0 → b = false) → ((s[k].toNat : Int) < 48 ∨ 57 < (s[k].toNat : Int)) → parseW s = none) := by
        intro hkb h
        have h2 := hR'.out hkb
        rw [pgo_cons (by rw [sz]; exact hlt), ← HC.out, if_pos h] at h2
        rw [HP.out, h2]
        split <;> rfl
      have good : Hid ((k = 0 → b = false) → ¬ ((s[k].toNat : Int) < 48 ∨ 57 < (s[k].toNat : Int)) → R = pgo (s.data.toList.drop (k + 1)) (wrap64 (wrap64 (x * 10) - ((s[k].toNat : Int) - 48)))) := by
        intro hkb h
        have h2 := hR'.out hkb
        rw [pgo_cons (by rw [sz]; exact hlt), ← HC.out, if_neg h] at h2
        exact h2
      by_cases hk0 : k = 0
      · subst hk0
        cases b with
        | true =>
          go_wp2
          go_round
          case rel =>
            refine ⟨1, x, by omega, rfl, rfl, HX.out, .inr ⟨by omega, ?_⟩⟩
            rcases hR.out with ⟨_, rfl⟩ | h
            · have hbt := HB.out
              rw [HR.out, if_pos (of_decide_eq_true hbt.symm)]
            · omega
          case measure => simp [intOf]; omega
        | false =>
          go_wp2
          all_goals first
            | (go_ret2; rw [bad.out (by simp) (by omega)]; exact ⟨rfl, Below.refl _ _⟩)
            | (go_round
               case rel => exact ⟨1, _, by omega, rfl, rfl, wrap64_inW _, .inr ⟨by omega, good.out (by simp) (by omega)⟩⟩
               case measure => simp [intOf]; omega)
      · have hk1 : ((k : Int) == 0) = false := by simp; omega
        go_wp2
        all_goals first
          | (go_ret2; rw [bad.out (by simp [hk0]) (by omega)]; exact ⟨rfl, Below.refl _ _⟩)
          | (go_round
             case rel => exact ⟨k + 1, _, by omega, by go_num, rfl, wrap64_inW _, .inr ⟨by omega, good.out (by simp [hk0]) (by omega)⟩⟩
             case measure => simp [intOf]; omega)
    · have hRx : R = some x := by
        rcases hR.out with ⟨rfl, rfl⟩ | h
        · omega
        · rw [h.2, List.drop_of_length_le (by rw [sz]; omega)]; rfl
      have HRX := hid hRx; clear hRx
      cases b with
      | true =>
        have hpp : parseW s = if digs x = s then some x else none := by
          have hbt := HB.out
          rw [HP.out, HRX.out, if_pos (of_decide_eq_true hbt.symm)]; rfl
        have HPP := hid hpp; clear hpp
        have hse := str_eq (digs x) s
        go_wp2_with (go_at_call 76; refine (digs_any _ _ HX.out).mono ?_; rintro e w' ⟨rfl, hb⟩)
        all_goals (go_ret2)
        · have h : (!decide (digs x = s)) = true := by assumption
          rw [HPP.out, if_neg (by simpa using h)]
          exact ⟨rfl, hb⟩
        · have h : (!decide (digs x = s)) = false := by assumption
          rw [HPP.out, if_pos (by simpa using h)]
          exact ⟨rfl, hb⟩
      | false =>
        have hpp : parseW s = if digs (wrap64 (-x)) = s then some (wrap64 (-x)) else none := by
          have hbt := HB.out
          rw [HP.out, HRX.out, if_neg (of_decide_eq_false hbt.symm)]; rfl
        have HPP := hid hpp; clear hpp
        have hse := str_eq (digs (wrap64 (-x))) s
        go_wp2_with (go_at_call 76; refine (digs_any _ _ (wrap64_inW _)).mono ?_; rintro e w' ⟨rfl, hb⟩)
        all_goals (go_ret2)
        · have h : (!decide (digs (wrap64 (-x)) = s)) = true := by assumption
          rw [HPP.out, if_neg (by simpa using h)]
          exact ⟨rfl, hb⟩
        · have h : (!decide (digs (wrap64 (-x)) = s)) = false := by assumption
          rw [HPP.out, if_pos (by simpa using h)]
          exact ⟨rfl, hb⟩
theorem parse_any (s : ByteArray) (w : World) (hs : s.size ≤ 9223372036854775807) : Calls Tryz.prog 52 #[.string s] w fun e w' => e = .returned (parseV (parseW s)) ∧ Below w.heap.size w w' := by
  by_cases h : s.size = 0 ∨ 20 < s.size
  · exact parse_empty s w h hs
  · exact parse_some s w (by omega) (by omega)
end Go.Proofs.YtloilngmhekmmaaGreatDoor
