/- What the program's num.Parse comes to. -/
import Derived.Test.YtgaginegcjpddaaQt1
import Derived.Laws.RangeAny
import Derived.Laws.RangeString
import Derived.Shelf.Strings.Builder1
import Derived.Shelf.Small.Strs
import Derived.Shelf.Strings.BuilderF
import Derived.Shelf.Strings.BuilderK
import Derived.Shelf.Strings.Search1
import Derived.Shelf.Strings.BuilderCap
import Derived.Shelf.Slices.Equal
import Derived.Shelf.Slices.Empties2
import Derived.Test.YtgaginegcjpddaaProg
import Derived.Lib.IndexBytes
import Derived.Deep.DeepCutAuto
set_option linter.unusedVariables false
set_option linter.unusedSimpArgs false
namespace Go.Proofs.Ytgaginegcjpddaa
open Go.RowKit
/-- A number's text. -/
def digs (w : Int) : ByteArray := ⟨(Lib.itoa w).toArray⟩
def InW (w : Int) : Prop := -9223372036854775808 ≤ w ∧ w ≤ 9223372036854775807
theorem wrap64_inW (w : Int) : InW (wrap64 w) := by unfold InW wrap64; omega
theorem digs_any (a : Int) (w : World) (h : InW a) : Calls Try.prog 87 #[.int .i64 a] w fun e w' => e = .returned (.string (digs a)) ∧ Below w.heap.size w w' := digits_any a w h.1 h.2
def pstep (w : Int) (c : UInt8) : Int := wrap64 (wrap64 (w * 10) - ((c.toNat : Int) - 48))
def pgo : List UInt8 → Int → Option Int
  | [], w => some w
  | c :: r, w => if (c.toNat : Int) < 48 ∨ 57 < (c.toNat : Int) then none else pgo r (pstep w c)
def pbody (l : List UInt8) : Option Int := if l.head? = some 45 then pgo l.tail 0 else (pgo l 0).map fun w => wrap64 (-w)
def parseW (s : ByteArray) : Option Int := if s.size = 0 ∨ 20 < s.size then none else (pbody s.data.toList).bind fun w => if digs w = s then some w else none
def parseV : Option Int → Value
  | some w => .tuple #[.int .i64 w, .int .i64 0]
  | none => .tuple #[.int .i64 0, .int .i64 3]
theorem pgo_cons {l : List UInt8} {k : Nat} (h : k < l.length) (w : Int) : pgo (l.drop k) w = if ((nth l k).toNat : Int) < 48 ∨ 57 < ((nth l k).toNat : Int) then none else pgo (l.drop (k + 1)) (pstep w (nth l k)) := by
  rw [drop_nth h]; rfl
theorem pgo_in : ∀ (l : List UInt8) (w v : Int), InW w → pgo l w = some v → InW v
  | [], w, v, hw, h => by simp [pgo] at h; subst h; exact hw
  | c :: r, w, v, hw, h => by
    simp only [pgo] at h
    split at h
    · cases h
    · exact pgo_in r _ v (wrap64_inW _) h
theorem pbody_in (l : List UInt8) (v : Int) (h : pbody l = some v) : InW v := by
  unfold pbody at h
  split at h
  · exact pgo_in _ _ _ ⟨by omega, by omega⟩ h
  · obtain ⟨x, _, rfl⟩ := Option.map_eq_some_iff.1 h
    exact wrap64_inW _
theorem parseW_in {s : ByteArray} {v : Int} (h : parseW s = some v) : InW v := by
  unfold parseW at h
  split at h
  · cases h
  · obtain ⟨x, hx, h2⟩ := Option.bind_eq_some_iff.1 h
    split at h2
    · cases h2; exact pbody_in _ _ hx
    · cases h2
theorem str_eq (s t : ByteArray) : (s.toList == t.toList) = decide (s = t) := by
  rw [Bool.eq_iff_iff]
  simp only [beq_iff_eq, decide_eq_true_eq, ByteArray.toList_eq]
  constructor
  · intro h
    have h2 := Array.toList_inj.1 h
    cases s; cases t; simp_all
  · intro h; rw [h]
theorem sz (s : ByteArray) : s.data.toList.length = s.size := by rw [Array.length_toList]; rfl
theorem ne_empty {s : ByteArray} (h : 0 < s.size) : s.toList.isEmpty = false := by
  rw [ByteArray.toList_eq, List.isEmpty_eq_false_iff]
  intro he
  have := sz s
  rw [he] at this; simp at this; omega
theorem get_nth (s : ByteArray) (k : Nat) (h : k < s.size) : s[k] = nth s.data.toList k := by
  rw [nth_eq (by simpa using h)]; rfl
theorem parse_empty (s : ByteArray) (w : World) (h : s.size = 0 ∨ 20 < s.size) (hs : s.size ≤ 9223372036854775807) : Calls Try.prog 73 #[.string s] w fun e w' => e = .returned (parseV (parseW s)) ∧ Below w.heap.size w w' := by
  have hp : parseW s = none := by unfold parseW; rw [if_pos h]
  rw [hp]; clear hp
  rcases h with h | h
  · have he : s.toList = [] := by rw [ByteArray.toList_eq]; exact List.eq_nil_of_length_eq_zero (by simpa using h)
    have hz : s.toList.isEmpty = true := by rw [he]; rfl
    go_enter Try.func73, Try.ntmps73
    go_wp2
    all_goals (go_ret2; exact ⟨rfl, Below.refl _ _⟩)
  · have hz := ne_empty (s := s) (by omega)
    go_enter Try.func73, Try.ntmps73
    go_wp2
    all_goals (go_ret2; exact ⟨rfl, Below.refl _ _⟩)
set_option maxHeartbeats 800000 in
set_option maxRecDepth 100000 in
theorem parse_some (s : ByteArray) (w : World) (h0 : 0 < s.size) (h1 : s.size ≤ 20) : Calls Try.prog 73 #[.string s] w fun e w' => e = .returned (parseV (parseW s)) ∧ Below w.heap.size w w' := by
  have hz := ne_empty h0
  have h20 : decide (20 < (s.size : Int)) = false := by simp; omega
  obtain ⟨R, HR⟩ : ∃ R, Hid (R = if s[0] = 45 then pgo (s.data.toList.drop 1) 0 else pgo s.data.toList 0) := ⟨_, hid rfl⟩
  have hpp : parseW s = (if s[0] = 45 then R else R.map fun w => wrap64 (-w)).bind fun w => if digs w = s then some w else none := by
    unfold parseW pbody
    rw [if_neg (by omega), HR.out]
    have hh : s.data.toList.head? = some s[0] := by
      rw [List.head?_eq_getElem?, nth_some (by rw [sz]; exact h0), ← get_nth s 0 h0]
    rw [hh]
    by_cases h : s[0] = 45
    · simp [h]
    · simp [h]
  have HP := hid hpp; clear hpp
  obtain ⟨b, hb⟩ : ∃ b : Bool, b = decide (s[0] = 45) := ⟨_, rfl⟩
  have hb2 : ((s[0].toNat : Int) == 45) = b := by
    rw [hb, Bool.eq_iff_iff]; simp [← UInt8.toNat_inj]; omega
  have HB := hid hb; clear hb
  go_enter Try.func73, Try.ntmps73
  go_wp2
  clear hb2
  go_loop [4, 19] (fun t4 t19 => ∃ (k : Nat) (x : Int), k ≤ s.size ∧ t19 = .int .i64 k ∧ t4 = .int .i64 x ∧ InW x ∧ Hid ((k = 0 ∧ x = 0) ∨ (0 < k ∧ R = pgo (s.data.toList.drop k) x))) (fun _ t19 => s.size - (intOf t19).toNat)
  case atStart => exact ⟨0, 0, by omega, rfl, rfl, ⟨by omega, by omega⟩, .inl ⟨rfl, rfl⟩⟩
  case round =>
    obtain ⟨k, x, hk, rfl, rfl, hx, hR⟩ := hrel
    have HX := hid hx; clear hx
    by_cases hlt : k < s.size
    · have hc := get_nth s k hlt
      have HC := hid hc; clear hc
      have hc255 : (s[k].toNat : Int) ≤ 255 := by have := s[k].toNat_lt; omega
      have hR' : Hid ((k = 0 → b = false) → R = pgo (s.data.toList.drop k) x) := by
        intro hkb
        rcases hR.out with ⟨rfl, rfl⟩ | h
        · have hbf := hkb rfl
          rw [HB.out] at hbf
          rw [HR.out, if_neg (of_decide_eq_false hbf)]
          rfl
        · exact h.2
      have bad : Hid ((k = 0 → b = false) → ((s[k].toNat : Int) < 48 ∨ 57 < (s[k].toNat : Int)) → parseW s = none) := by
        intro hkb h
        have h2 := hR'.out hkb
        rw [pgo_cons (by rw [sz]; exact hlt), ← HC.out, if_pos h] at h2
        rw [HP.out, h2]
        split <;> rfl
      have good : Hid ((k = 0 → b = false) → ¬ ((s[k].toNat : Int) < 48 ∨ 57 < (s[k].toNat : Int)) → R = pgo (s.data.toList.drop (k + 1)) (wrap64 (wrap64 (x * 10) - ((s[k].toNat : Int) - 48)))) := by
        intro hkb h
        have h2 := hR'.out hkb
        rw [pgo_cons (by rw [sz]; exact hlt), ← HC.out, if_neg h] at h2
        exact h2
      by_cases hk0 : k = 0
      · subst hk0
        cases b with
        | true =>
          go_wp2
          go_round
          case rel =>
            refine ⟨1, x, by omega, rfl, rfl, HX.out, .inr ⟨by omega, ?_⟩⟩
            rcases hR.out with ⟨_, rfl⟩ | h
            · have hbt := HB.out
              rw [HR.out, if_pos (of_decide_eq_true hbt.symm)]
            · omega
          case measure => simp [intOf]; omega
        | false =>
          go_wp2
          all_goals first
            | (go_ret2; rw [bad.out (by simp) (by omega)]; exact ⟨rfl, Below.refl _ _⟩)
            | (go_round
               case rel => exact ⟨1, _, by omega, rfl, rfl, wrap64_inW _, .inr ⟨by omega, good.out (by simp) (by omega)⟩⟩
               case measure => simp [intOf]; omega)
      · have hk1 : ((k : Int) == 0) = false := by simp; omega
        go_wp2
        all_goals first
          | (go_ret2; rw [bad.out (by simp [hk0]) (by omega)]; exact ⟨rfl, Below.refl _ _⟩)
          | (go_round
             case rel => exact ⟨k + 1, _, by omega, by go_num, rfl, wrap64_inW _, .inr ⟨by omega, good.out (by simp [hk0]) (by omega)⟩⟩
             case measure => simp [intOf]; omega)
    · have hRx : R = some x := by
        rcases hR.out with ⟨rfl, rfl⟩ | h
        · omega
        · rw [h.2, List.drop_of_length_le (by rw [sz]; omega)]; rfl
      have HRX := hid hRx; clear hRx
      cases b with
      | true =>
        have hpp : parseW s = if digs x = s then some x else none := by
          have hbt := HB.out
          rw [HP.out, HRX.out, if_pos (of_decide_eq_true hbt.symm)]; rfl
        have HPP := hid hpp; clear hpp
        have hse := str_eq (digs x) s
        go_wp2_with (go_at_call 87; refine (digs_any _ _ HX.out).mono ?_; rintro e w' ⟨rfl, hb⟩)
        all_goals (go_ret2)
        · have h : (!decide (digs x = s)) = true := by assumption
          rw [HPP.out, if_neg (by simpa using h)]
          exact ⟨rfl, hb⟩
        · have h : (!decide (digs x = s)) = false := by assumption
          rw [HPP.out, if_pos (by simpa using h)]
          exact ⟨rfl, hb⟩
      | false =>
        have hpp : parseW s = if digs (wrap64 (-x)) = s then some (wrap64 (-x)) else none := by
          have hbt := HB.out
          rw [HP.out, HRX.out, if_neg (of_decide_eq_false hbt.symm)]; rfl
        have HPP := hid hpp; clear hpp
        have hse := str_eq (digs (wrap64 (-x))) s
        go_wp2_with (go_at_call 87; refine (digs_any _ _ (wrap64_inW _)).mono ?_; rintro e w' ⟨rfl, hb⟩)
        all_goals (go_ret2)
        · have h : (!decide (digs (wrap64 (-x)) = s)) = true := by assumption
          rw [HPP.out, if_neg (by simpa using h)]
          exact ⟨rfl, hb⟩
        · have h : (!decide (digs (wrap64 (-x)) = s)) = false := by assumption
          rw [HPP.out, if_pos (by simpa using h)]
          exact ⟨rfl, hb⟩
theorem parse_any (s : ByteArray) (w : World) (hs : s.size ≤ 9223372036854775807) : Calls Try.prog 73 #[.string s] w fun e w' => e = .returned (parseV (parseW s)) ∧ Below w.heap.size w w' := by
  by_cases h : s.size = 0 ∨ 20 < s.size
  · exact parse_empty s w h hs
  · exact parse_some s w (by omega) (by omega)
end Go.Proofs.Ytgaginegcjpddaa
/- What the small functions of the program's lexer come to. -/
namespace Go.Proofs.Ytgaginegcjpddaa
open Go.RowKit
def spacedC (c : Int) : Bool := c == 32 || c == 9 || c == 10
theorem spaced_any (c : Int) (w : World) : Calls Try.prog 46 #[.int .u8 c] w fun e w' => e = .returned (.bool (spacedC c)) ∧ w = w' := by
  go_enter Try.func46, Try.ntmps46
  go_wp2
  all_goals (go_ret; refine ⟨?_, rfl⟩; simp only [spacedC, *]; rfl)
def letterC (c : Int) : Bool := decide (97 ≤ c ∧ c ≤ 122)
def digitC (c : Int) : Bool := decide (48 ≤ c ∧ c ≤ 57)
def nameC : Bool → List UInt8 → Bool
  | _, [] => true
  | first, c :: r => (letterC c.toNat || (!first && digitC c.toNat)) && nameC false r
def lexName (s : ByteArray) : Bool := nameC true s.data.toList && decide (s.size ≠ 0 ∧ s.size ≤ 8)
theorem nameC_at {s : ByteArray} {k : Nat} (h : k < s.size) (b : Bool) : nameC b (s.data.toList.drop k) = ((letterC s[k].toNat || (!b && digitC s[k].toNat)) && nameC false (s.data.toList.drop (k + 1))) := by
  rw [drop_nth (by rw [sz]; exact h), get_nth s k h]; rfl
theorem dec_high (s : ByteArray) (pos : Nat) (h : pos < s.size) (ha : 128 ≤ (s[pos]'h).toNat) : 128 ≤ (Utf8.decode s pos).1 := (decode_high s pos h ha).1
theorem lexName_bad {s : ByteArray} {pos : Nat} (hR : nameC true s.data.toList = nameC (pos == 0) (s.data.toList.drop pos)) (h : pos < s.size) (c : Int) (hc : (s[pos].toNat : Int) = c) (hb : ¬ (97 ≤ c ∧ c ≤ 122) ∧ (pos = 0 ∨ ¬ (48 ≤ c ∧ c ≤ 57))) : lexName s = false := by
  unfold lexName
  rw [hR, nameC_at h]
  subst hc
  have h1 : letterC s[pos].toNat = false := decide_eq_false hb.1
  have h2 : (!(pos == 0) && digitC s[pos].toNat) = false := by
    rcases hb.2 with rfl | h3
    · rfl
    · have : digitC s[pos].toNat = false := decide_eq_false h3
      rw [this]; simp
  rw [h1, h2]; rfl
theorem lexName_good {s : ByteArray} {pos : Nat} (hR : nameC true s.data.toList = nameC (pos == 0) (s.data.toList.drop pos)) (h : pos < s.size) (c : Int) (hc : (s[pos].toNat : Int) = c) (hb : (97 ≤ c ∧ c ≤ 122) ∨ (0 < pos ∧ 48 ≤ c ∧ c ≤ 57)) : nameC true s.data.toList = nameC (pos + 1 == 0) (s.data.toList.drop (pos + 1)) := by
  rw [hR, nameC_at h]
  subst hc
  have h1 : (letterC s[pos].toNat || (!(pos == 0) && digitC s[pos].toNat)) = true := by
    rcases hb with hb | ⟨h3, hb⟩
    · have : letterC s[pos].toNat = true := decide_eq_true hb
      rw [this]; rfl
    · have : digitC s[pos].toNat = true := decide_eq_true hb
      have h4 : (pos == 0) = false := by simp; omega
      rw [this, h4]; simp
  rw [h1]; rfl
theorem name_end (s : ByteArray) {pos : Nat} (hR : nameC true s.data.toList = nameC (pos == 0) (s.data.toList.drop pos)) (h : ¬ pos < s.size) : lexName s = decide (s.size ≠ 0 ∧ s.size ≤ 8) := by
  unfold lexName
  rw [hR, List.drop_of_length_le (by rw [sz]; omega)]
  cases (pos == 0) <;> simp [nameC]
set_option maxHeartbeats 800000 in
set_option maxRecDepth 100000 in
theorem named_any (s : ByteArray) (w : World) (hs : s.size ≤ 9223372036854775807) : Calls Try.prog 79 #[.string s] w fun e w' => e = .returned (.bool (lexName s)) ∧ Below w.heap.size w w' := by
  have hie : s.toList.isEmpty = decide (s.size = 0) := by
    rw [ByteArray.toList_eq, Bool.eq_iff_iff]
    simp only [List.isEmpty_iff, decide_eq_true_eq]
    rw [← List.length_eq_zero_iff, sz]
  have HIE := hid hie; clear hie
  go_enter Try.func79, Try.ntmps79
  go_wp2
  go_loopw [3] (fun _ wr => ∃ pos : Nat, pos ≤ s.size ∧ wr = w.iter s pos ∧ Hid (nameC true s.data.toList = nameC (pos == 0) (s.data.toList.drop pos))) (fun _ wr => s.size - wr.iterPos w.heap.size)
  case atStart => exact ⟨0, by omega, rfl, hid rfl⟩
  case round =>
    obtain ⟨pos, hp, rfl, hR⟩ := hrel
    by_cases hlt : pos < s.size
    · have hnx : ∀ ty, (Instr.next (.pointer (some ⟨w.heap.size, 0, none⟩)) true ty).run Try.prog (w.iter s pos) = _ := fun ty => run_next_any w s pos ty hlt
      have bad := fun c hc => hid (lexName_bad hR.out hlt c hc)
      have good := fun c hc => hid (lexName_good hR.out hlt c hc)
      by_cases ha : s[pos].toNat < 128
      · have hdec := decode_ascii s pos hlt ha
        rw [hdec] at hnx
        dsimp only at hnx
        have bad' := bad _ rfl; have good' := good _ rfl
        clear hdec bad good
        generalize hc : s[pos].toNat = c at *
        have HC := hid hc; clear hc hR
        go_wp2
        all_goals (try simp only [Bool.not_eq_true', Bool.not_eq_false', decide_eq_true_eq, decide_eq_false_iff_not] at *)
        all_goals first
          | (exfalso; omega)
          | (go_ret; rw [bad'.out (by omega)]; exact ⟨rfl, (Below.refl _ _).alloc (Nat.le_refl _) _⟩)
          | (go_roundw
             case rel => exact ⟨pos + 1, by omega, rfl, good'.out (by omega)⟩
             case measure => simp; omega)
      · have hdec := dec_high s pos hlt (by omega)
        have bad' := hid ((bad _ rfl).out (by omega))
        generalize hr : (Utf8.decode s pos) = r at *
        have HR := hid hr; clear hr bad good hR
        obtain ⟨r1, r2⟩ := r
        dsimp only at hdec hnx
        go_wp2
        all_goals (try simp only [Bool.not_eq_true', Bool.not_eq_false', decide_eq_true_eq, decide_eq_false_iff_not] at *)
        all_goals first
          | (exfalso; omega)
          | (go_ret; rw [bad'.out]; exact ⟨rfl, (Below.refl _ _).alloc (Nat.le_refl _) _⟩)
    · have hnx : ∀ ty, (Instr.next (.pointer (some ⟨w.heap.size, 0, none⟩)) true ty).run Try.prog (w.iter s pos) = _ := fun ty => run_next_end w s pos ty hlt
      have hN := hid (name_end s hR.out hlt)
      clear hR
      go_wp2
      all_goals (go_ret; refine ⟨?_, (Below.refl _ _).alloc (Nat.le_refl _) _⟩; rw [hN.out])
      · have h : s.toList = [] := by assumption
        have h2 : s.toList.isEmpty = true := by rw [h]; rfl
        rw [HIE.out] at h2
        have h3 := of_decide_eq_true h2
        exact ret_bool (by simp [h3])
      · refine ret_bool ?_
        rw [HIE.out, Bool.eq_iff_iff]
        simp
        omega
/-- the signs that are words -/
def isSign (s : ByteArray) : Bool := s.toList == [43] || s.toList == [45] || s.toList == [42] || s.toList == [47] || s.toList == [37] || s.toList == [38] || s.toList == [124] || s.toList == [94] || s.toList == [61] || s.toList == [60]
/-- what kind of token a word is -/
def wordKind (s : ByteArray) : Int := if (parseW s).isSome then 4 else if isSign s || lexName s then 3 else 0
set_option maxHeartbeats 800000 in
theorem wordKind_any (s : ByteArray) (w : World) (hs : s.size ≤ 9223372036854775807) : Calls Try.prog 60 #[.string s] w fun e w' => e = .returned (.int .u8 (wordKind s)) ∧ Below w.heap.size w w' := by
  cases hp : parseW s with
  | some v =>
    have HP := hid hp; clear hp
    go_enter Try.func60, Try.ntmps60
    go_wp2_with (go_at_call 73; refine (parse_any s _ hs).mono ?_; rintro e w' ⟨rfl, hb⟩; rw [HP.out]; dsimp only [parseV])
    go_ret
    exact ⟨by unfold wordKind; rw [HP.out]; rfl, hb⟩
  | none =>
    have HP := hid hp; clear hp
    go_enter Try.func60, Try.ntmps60
    go_wp2_with (first | (go_at_call 73; refine (parse_any s _ hs).mono ?_; rintro e w' ⟨rfl, hb⟩; rw [HP.out]; dsimp only [parseV]) | (go_at_call 79; refine (named_any s _ hs).mono ?_; rintro e w' ⟨rfl, hb2⟩))
    all_goals (go_ret; refine ⟨ret_int ?_, by first | exact hb | exact hb.trans (hb2.mono hb.size)⟩; unfold wordKind isSign; rw [HP.out]; clear HP; simp_all)
end Go.Proofs.Ytgaginegcjpddaa
/-
  DERIVED: THE SHELF's CONTRACTS AT THIS DUMP, IN PLAIN WORDS (tools/lay-plain.mjs out of 'TryShelf.lean', which tools/lay-shelf.mjs wrote): THE SAME DECLARATIONS UNDER THE SAME NAMES: 'import', 'namespace', 'open', 'def', 'theorem' AND NOTHING ELSE: no command of the shelf's: FOR A HAND-IN. Each laying: the table of numbers ('.._ren') and one theorem, a field a fact of the dump's own or the kernel's comparison; each contract: ONE APPLICATION.
-/
namespace Go.Proofs
open Go.Shelf
def Try.lays169_ren : Go.Shelf.Ren := ⟨fun | 169 => 45 | n => n, fun | 70 => 107 | 9 => 9 | 0 => 0 | 72 => 110 | 37 => 108 | 127 => 157 | 3 => 3 | 5 => 5 | n => n, fun | n => n⟩
theorem Try.lays169 : Go.Proofs.Lays.n169 Try.prog Try.lays169_ren := {
  mixed := by kernel_rfl
  f169 := Try.func45.trans (congrArg some (by kernel_rfl))
  t0 := Try.underlying0
  a0 := Try.isAgg0
  z0 := Try.sizeOf0
  v0 := Try.zeroValue0
  t3 := Try.underlying3
  a3 := Try.isAgg3
  z3 := Try.sizeOf3
  v3 := Try.zeroValue3
  t9 := Try.underlying9
  a9 := Try.isAgg9
  z9 := Try.sizeOf9
  v9 := Try.zeroValue9
  t37 := Try.underlying108
  a37 := Try.isAgg108
  z37 := Try.sizeOf108
  v37 := Try.zeroValue108
  t70 := Try.underlying107
  a70 := Try.isAgg107
  z70 := Try.sizeOf107
  v70 := Try.zeroValue107
  t72 := Try.underlying110
  a72 := Try.isAgg110
  z72 := Try.sizeOf110
  v72 := Try.zeroValue110
  t127 := Try.underlying157
  a127 := Try.isAgg157
  z127 := Try.sizeOf157
  v127 := Try.zeroValue157 }
theorem Try.Builder_Extra_169 : Builder.Extra Try.prog Try.lays169_ren := {
  sizeBuilder := by kernel_rfl
  liesBuilder := by kernel_rfl
  t5 := Try.underlying5
  a5 := Try.isAgg5
  z5 := Try.sizeOf5
  v5 := Try.zeroValue5
  infoByte := by kernel_rfl
  cellsByte := by kernel_rfl
  sizeByte := by kernel_rfl
  neB5 := by decide }
open Go.RowKit in
/-- (*strings.Builder).String: "String returns the accumulated string.": WHATEVER THE BUILDER HOLDS. (LAID: no walk: one application.) -/
theorem Try.Builder_String_any (B b : Nat) (l : List UInt8) (w : World) (h : Lib.IsBuilder 110 5 B b (Lib.byteCells l) w) (hBw : B ≤ w.heap.size) :
    Calls Try.prog 45 #[.pointer (some ⟨b, 0, none⟩)] w fun e w' => e = .returned (.string ⟨l.toArray⟩) ∧ Below B w w' := Any.Builder_String_any Try.lays169 Try.Builder_Extra_169 B b l w h hBw
def Try.lays137_ren : Go.Shelf.Ren := ⟨fun | 137 => 72 | 217 => 90 | 266 => 91 | n => n, fun | 9 => 9 | 5 => 5 | 3 => 3 | n => n, fun | n => n⟩
theorem Try.lays137 : Go.Proofs.Lays.n137 Try.prog Try.lays137_ren := {
  mixed := by kernel_rfl
  f137 := Try.func72.trans (congrArg some (by kernel_rfl))
  f217 := Try.func90.trans (congrArg some (by kernel_rfl))
  f266 := Try.func91.trans (congrArg some (by kernel_rfl))
  t3 := Try.underlying3
  a3 := Try.isAgg3
  z3 := Try.sizeOf3
  v3 := Try.zeroValue3
  t5 := Try.underlying5
  a5 := Try.isAgg5
  z5 := Try.sizeOf5
  v5 := Try.zeroValue5
  t9 := Try.underlying9
  a9 := Try.isAgg9
  z9 := Try.sizeOf9
  v9 := Try.zeroValue9 }
open Go.RowKit in
/-- strings.IndexByte: "IndexByte returns the index of the first instance of c in s, or -1 if c is not present in s.": IT RETURNS 'Lib.indexByte s c'; the world is as it was. (LAID: no walk: one application.) -/
theorem Try.strings_IndexByte (s : ByteArray) (c : Int) (w : World) :
    Calls Try.prog 72 #[.string s, .int .u8 c] w fun e w' => e = .returned (.int .i64 (Lib.indexByte s.data.toList c.toNat.toUInt8)) ∧ w' = w := Any.strings_IndexByte Try.lays137 s c w
end Go.Proofs
/- What the program's lexer comes to. -/
namespace Go.Proofs.Ytgaginegcjpddaa
open Go.RowKit
def dropS (s : ByteArray) (k : Nat) : List UInt8 := s.data.toList.drop k
/-- A lexer in memory. -/
def LexAt (w : World) (lb : Nat) (s : ByteArray) (k : Nat) (ov : Value) : Prop := w.heap[lb]? = some (.cells #[.string s, .int .i64 (k : Int), ov] 120 (0, 0))
theorem LexAt.c0 {w : World} {lb : Nat} {s : ByteArray} {k : Nat} {ov : Value} (h : LexAt w lb s k ov) : w.cell? ⟨lb, 0, none⟩ = some (.string s) := blk_cell h 0
theorem LexAt.c1 {w : World} {lb : Nat} {s : ByteArray} {k : Nat} {ov : Value} (h : LexAt w lb s k ov) : w.cell? ⟨lb, 1, none⟩ = some (.int .i64 (k : Int)) := blk_cell h 1
theorem LexAt.c2 {w : World} {lb : Nat} {s : ByteArray} {k : Nat} {ov : Value} (h : LexAt w lb s k ov) : w.cell? ⟨lb, 2, none⟩ = some ov := blk_cell h 2
theorem LexAt.fr {w : World} {lb : Nat} {s : ByteArray} {k : Nat} {ov : Value} (h : LexAt w lb s k ov) (j : Nat) : w.frozen? ⟨lb, j, none⟩ = false := blk_free h j
theorem LexAt.lt {w : World} {lb : Nat} {s : ByteArray} {k : Nat} {ov : Value} (h : LexAt w lb s k ov) : lb < w.heap.size := blk_lt h
/-- where a byte stands behind a place of a text, from there on; -1: nowhere -/
def idxB (s : ByteArray) (k : Nat) (c : UInt8) : Int := Lib.indexByte (dropS s k) c
theorem ext_data (s : ByteArray) (k : Nat) : (s.extract k s.size).data.toList = dropS s k := by
  rw [Lib.extract_data, List.take_of_length_le]
  · rfl
  · rw [List.length_drop, sz]; omega
theorem idx_tail (s : ByteArray) (k : Nat) (c : Int) (w : World) :
    Calls Try.prog 72 #[.string (s.extract k s.size), .int .u8 c] w fun e w' => e = .returned (.int .i64 (idxB s k c.toNat.toUInt8)) ∧ w' = w := by
  have h := Try.strings_IndexByte (s.extract k s.size) c w
  rw [ext_data] at h
  exact h
def remarkLen (s : ByteArray) (k : Nat) : Int := if idxB s k 10 < 0 then (s.size : Int) - k else idxB s k 10
set_option maxHeartbeats 800000 in
theorem remark_any (lb : Nat) (s : ByteArray) (k : Nat) (ov : Value) (w : World) (h : LexAt w lb s k ov) (hk : k ≤ s.size) (hs : s.size ≤ 3000) :
    Calls Try.prog 47 #[.pointer (some ⟨lb, 0, none⟩)] w fun e w' => e = .returned (.int .i64 (remarkLen s k)) ∧ ∃ n, w' = w.drewN n := by
  have c0 := h.c0; have c1 := h.c1
  obtain ⟨r, hr⟩ : ∃ r, idxB s k 10 = r := ⟨_, rfl⟩
  have hrl : remarkLen s k = if r < 0 then (s.size : Int) - k else r := by unfold remarkLen; rw [hr]
  have HR := hid hr; have HRL := hid hrl; clear hr hrl h
  go_enter Try.func47, Try.ntmps47
  go_wp2
  go_quiet ((go_at_call 72; exact Calls.quiet_of_same (by have h := idx_tail s k 10; rw [show (10 : Int).toNat.toUInt8 = (10 : UInt8) from rfl, HR.out] at h; exact h _)))
  go_wp2
  · have hlt : r < 0 := by assumption
    go_quiet (fail)
    go_wp2
    go_ret
    rw [HRL.out, if_pos hlt]
    exact ⟨rfl, drawn2 rfl⟩
  · have hlt : 0 ≤ r := by assumption
    go_ret
    rw [HRL.out, if_neg (by omega)]
    exact ⟨rfl, _, rfl⟩
/-- does a byte end a word? -/
def endsC (c : Int) : Bool := spacedC c || (c == 40 || c == 41 || c == 59)
/-- how many bytes a word has -/
def wordLen : List UInt8 → Nat
  | [] => 0
  | c :: r => if endsC c.toNat then 0 else wordLen r + 1
def pieceLen (s : ByteArray) (k : Nat) : Nat := if nth s.data.toList k = 40 ∨ nth s.data.toList k = 41 then 1 else wordLen (dropS s k)
theorem brackets (c : UInt8) (w : World) : Calls Try.prog 72 #[.string ⟨#[40, 41, 59]⟩, .int .u8 c.toNat] w fun e w' => ∃ r : Int, e = .returned (.int .i64 r) ∧ decide (0 ≤ r) = ((c.toNat : Int) == 40 || (c.toNat : Int) == 41 || (c.toNat : Int) == 59) ∧ w' = w := by
  refine (Try.strings_IndexByte ⟨#[40, 41, 59]⟩ c.toNat w).mono ?_
  rintro e w' ⟨rfl, rfl⟩
  refine ⟨_, rfl, ?_, rfl⟩
  rw [show ((c.toNat : Int)).toNat.toUInt8 = c by simp]
  have e1 : ∀ d : UInt8, ((c.toNat : Int) == (d.toNat : Int)) = decide (c = d) := by
    intro d
    rw [Bool.eq_iff_iff]; simp [← UInt8.toNat_inj]; omega
  rw [show (40 : Int) = ((40 : UInt8).toNat : Int) from rfl, show (41 : Int) = ((41 : UInt8).toNat : Int) from rfl, show (59 : Int) = ((59 : UInt8).toNat : Int) from rfl, e1, e1, e1]
  by_cases h1 : c = 40
  · subst h1; rfl
  · by_cases h2 : c = 41
    · subst h2; rfl
    · by_cases h3 : c = 59
      · subst h3; rfl
      · have n1 : ((40 : UInt8) == c) = false := by simp [Ne.symm h1]
        have n2 : ((41 : UInt8) == c) = false := by simp [Ne.symm h2]
        have n3 : ((59 : UInt8) == c) = false := by simp [Ne.symm h3]
        simp [Lib.indexByte, n1, n2, n3, h1, h2, h3]
theorem wordLen_at {s : ByteArray} {k j : Nat} (h : k + j < s.size) : wordLen (dropS s (k + j)) = if endsC s[k + j].toNat then 0 else wordLen (dropS s (k + (j + 1))) + 1 := by
  unfold dropS
  rw [drop_nth (by rw [sz]; exact h), get_nth s (k + j) h]; rfl
set_option maxHeartbeats 800000 in
theorem length_any (lb : Nat) (s : ByteArray) (k : Nat) (ov : Value) (w : World) (h : LexAt w lb s k ov) (hk : k < s.size) (hs : s.size ≤ 3000) :
    Calls Try.prog 48 #[.pointer (some ⟨lb, 0, none⟩)] w fun e w' => e = .returned (.int .i64 (pieceLen s k : Nat)) ∧ ∃ n, w' = w.drewN n := by
  have c0 := h.c0; have c1 := h.c1
  clear h
  go_enter Try.func48, Try.ntmps48
  go_wp2
  go_quiet (fail)
  have hsz : (s.extract k s.size).size = s.size - k := by simp
  have hget : ∀ j (h : j < (s.extract k s.size).size), (s.extract k s.size)[j] = nth s.data.toList (k + j) := by
    intro j h
    have h' := h
    rw [hsz] at h'
    rw [← get_nth s (k + j) (by omega)]
    exact ByteArray.getElem_extract h
  have hn : (nth s.data.toList k).toNat = (nth s.data.toList k).toNat := rfl
  generalize hrest : s.extract k s.size = rest at *
  have HS := hid hsz
  have hsp : 0 < rest.size := by omega
  have h3000 : rest.size ≤ 3000 := by omega
  have hg0 := hget 0 hsp
  have HG := hid hget
  have HG0 := hid hg0
  have hp1 : ((nth s.data.toList k).toNat = 40 ∨ (nth s.data.toList k).toNat = 41) → pieceLen s k = 1 := by
    intro h
    unfold pieceLen
    rw [if_pos (h.imp (fun h => UInt8.toNat_inj.1 h) (fun h => UInt8.toNat_inj.1 h))]
  have hp2 : ¬ ((nth s.data.toList k).toNat = 40 ∨ (nth s.data.toList k).toNat = 41) → pieceLen s k = wordLen (dropS s k) := by
    intro h
    unfold pieceLen
    rw [if_neg (by rintro (h' | h') <;> (rw [h'] at h; simp at h))]
  have HP1 := hid hp1; have HP2 := hid hp2
  clear hrest hsz hget hg0 hn hp1 hp2
  by_cases hb : (rest[0].toNat : Int) = 40 ∨ (rest[0].toNat : Int) = 41
  · have hp := HP1.out (by rw [← Nat.add_zero k, ← HG0.out]; omega)
    have HP := hid hp
    clear hp
    rcases hb with hb | hb
    · have hb1 : ((rest[0].toNat : Int) == 40) = true := by simp; omega
      clear hb
      go_wp2
      all_goals (go_ret; rw [HP.out]; exact ⟨rfl, _, rfl⟩)
    · have hb1 : ((rest[0].toNat : Int) == 40) = false := by simp; omega
      have hb2 : ((rest[0].toNat : Int) == 41) = true := by simp; omega
      clear hb
      go_wp2
      all_goals (go_ret; rw [HP.out]; exact ⟨rfl, _, rfl⟩)
  · have hp := HP2.out (by rw [← Nat.add_zero k, ← HG0.out]; omega)
    have HP := hid hp
    have hb1 : ((rest[0].toNat : Int) == 40) = false := by simp; omega
    have hb2 : ((rest[0].toNat : Int) == 41) = false := by simp; omega
    clear hp hb
    go_wp2
    clear hb1 hb2
    go_loop [4, 24] (fun _ t24 => ∃ j : Nat, j ≤ rest.size ∧ t24 = .int .i64 j ∧ Hid (wordLen (dropS s k) = wordLen (dropS s (k + j)) + j)) (fun _ t24 => rest.size - (intOf t24).toNat)
    case atStart => exact ⟨0, by omega, rfl, hid (by simp)⟩
    case round =>
      obtain ⟨j, hj, rfl, hR⟩ := hrel
      by_cases hlt : j < rest.size
      · have he : (rest[j].toNat : Int) = (nth s.data.toList (k + j)).toNat := by rw [HG.out j hlt]
        have hkj : k + j < s.size := by have := HS.out; omega
        have hw := wordLen_at hkj
        rw [get_nth s (k + j) hkj] at hw
        have HE := hid he; have HW := hid hw
        clear he hw
        go_wp2_with (first | (go_at_call 46; refine (spaced_any _ _).mono ?_; rintro e w' ⟨rfl, rfl⟩) | (go_at_call 72; refine (brackets _ _).mono ?_; rintro e w' ⟨r, rfl, hr, rfl⟩))
        · have h : spacedC (rest[j].toNat : Int) = true := by assumption
          go_ret
          rw [HP.out, hR.out, HW.out, if_pos (by rw [← HE.out]; unfold endsC; rw [h]; rfl)]
          exact ⟨ret_int (by omega), _, rfl⟩
        · have h : (((rest[j].toNat : Int) == 40) = true ∨ ((rest[j].toNat : Int) == 41) = true) ∨ ((rest[j].toNat : Int) == 59) = true := by assumption
          go_ret
          rw [HP.out, hR.out, HW.out, if_pos (by rw [← HE.out]; unfold endsC; rcases h with (h | h) | h <;> rw [h] <;> simp)]
          exact ⟨ret_int (by omega), _, rfl⟩
        · have h1 : ¬ spacedC (rest[j].toNat : Int) = true := by assumption
          have h : (((rest[j].toNat : Int) == 40) = false ∧ ((rest[j].toNat : Int) == 41) = false) ∧ ((rest[j].toNat : Int) == 59) = false := by assumption
          go_round
          case rel =>
            refine ⟨j + 1, by omega, by go_num, ?_⟩
            have h2 := hR.out
            rw [HW.out, if_neg (by rw [← HE.out]; unfold endsC; rw [h.1.1, h.1.2, h.2]; simpa using h1)] at h2
            exact hid (by omega)
          case measure => simp [intOf]; omega
      · have hw : wordLen (dropS s (k + j)) = 0 := by
          unfold dropS; rw [List.drop_of_length_le (by rw [sz]; have := HS.out; omega)]; rfl
        have HW := hid hw; clear hw
        go_wp2
        go_ret
        rw [HP.out, hR.out, HW.out]
        exact ⟨ret_int (by omega), _, rfl⟩
end Go.Proofs.Ytgaginegcjpddaa
/- What the program's lexer comes to: tokens. -/
namespace Go.Proofs.Ytgaginegcjpddaa
open Go.RowKit
structure Token where
  kind : Int
  text : ByteArray
  num : Int
  pos : Int
  deriving Inhabited
def Token.val (t : Token) : Value := .agg #[.int .u8 t.kind, .string t.text, .int .i64 t.num, .int .i64 t.pos]
def tokenOf (s : ByteArray) (pos : Int) : Token :=
  { kind := if s.toList = [40] then 1 else if s.toList = [41] then 2 else wordKind s, text := s, num := if s.toList = [40] ∨ s.toList = [41] then 0 else (parseW s).getD 0, pos := pos }
set_option maxHeartbeats 800000 in
theorem token_any (s : ByteArray) (pos : Int) (w : World) (hs : s.size ≤ 3000) : Calls Try.prog 49 #[.string s, .int .i64 pos] w fun e w' => e = .returned (tokenOf s pos).val ∧ Below w.heap.size w w' := by
  by_cases h1 : s.toList = [40]
  · have hT : (tokenOf s pos).val = .agg #[.int .u8 1, .string s, .int .i64 0, .int .i64 pos] := by simp [Token.val, tokenOf, h1]
    have HT := hid hT
    have b1 : (s.toList == [40]) = true := by rw [h1]; rfl
    clear hT h1
    go_enter Try.func49, Try.ntmps49
    go_wp2
    refine bodyPost_ret (v := .agg #[.int .u8 1, .string s, .int .i64 0, .int .i64 pos]) (by simp [results, Try.results49, go_sem]) rfl ⟨by rw [HT.out], ?_⟩
    exact (((Below.refl _ _).alloc (Nat.le_refl _) _).alloc (by simp) _)
  · have b1 : (s.toList == [40]) = false := by simpa using h1
    by_cases h2 : s.toList = [41]
    · have hT : (tokenOf s pos).val = .agg #[.int .u8 2, .string s, .int .i64 0, .int .i64 pos] := by simp [Token.val, tokenOf, h2]
      have HT := hid hT
      have b2 : (s.toList == [41]) = true := by rw [h2]; rfl
      clear hT h1 h2
      go_enter Try.func49, Try.ntmps49
      go_wp2
      refine bodyPost_ret (v := .agg #[.int .u8 2, .string s, .int .i64 0, .int .i64 pos]) (by simp [results, Try.results49, go_sem]) rfl ⟨by rw [HT.out], ?_⟩
      exact (((Below.refl _ _).alloc (Nat.le_refl _) _).alloc (by simp) _)
    · have b2 : (s.toList == [41]) = false := by simpa using h2
      have hT : (tokenOf s pos).val = .agg #[.int .u8 (wordKind s), .string s, .int .i64 ((parseW s).getD 0), .int .i64 pos] := by simp [Token.val, tokenOf, h1, h2]
      cases hp : parseW s with
      | some v =>
        have hk : wordKind s = 4 := by unfold wordKind; rw [hp]; rfl
        rw [hk, hp] at hT
        have HT := hid hT; have HK := hid hk; have HP := hid hp
        clear hT h1 h2 hk hp
        go_enter Try.func49, Try.ntmps49
        go_wp2_with (first | (go_at_call 60; refine (wordKind_any s _ (by omega)).mono ?_; rintro e w1 ⟨rfl, hb⟩; rw [HK.out]; obtain ⟨hc, hf⟩ := bcell hb; have hz : w.heap.size + 1 < w1.heap.size := (by have := hb.size; simp at this; omega); have hz0 : w.heap.size < w1.heap.size := (by omega)) | (go_at_call 73; refine (parse_any s _ (by omega)).mono ?_; rintro e w2 ⟨rfl, hb2⟩; rw [HP.out]; dsimp only [parseV]; obtain ⟨hc2, hf2⟩ := bcell hb2))
        have k0 : ∀ j, w2.cell? ⟨w.heap.size, j, none⟩ = (#[.int .u8 0, .string ⟨#[]⟩, .int .i64 0, .int .i64 0] : Array Value)[j]? := by
          exact blk_cell (keep_blk hb2 (set_blk (keep_blk hb (old_blk (new_blk w _) _)) _ _ (by simp)))
        clear hc hc2 hf hf2
        refine bodyPost_ret (v := .agg #[.int .u8 4, .string s, .int .i64 v, .int .i64 pos]) (by simp [results, Try.results49, go_sem, k0]) rfl ⟨by rw [HT.out]; rfl, ?_⟩
        have b1 : Below w.heap.size w w1 := (((Below.refl _ _).alloc (Nat.le_refl _) _).alloc (by simp) _).trans (hb.mono (by simp; omega))
        have b2 := (b1.setCell (p := ⟨w.heap.size + 1, 0, none⟩) (by simp) (.int .u8 4)).trans (hb2.mono (by simp; omega))
        exact ((((b2.setCell (by simp) _).setCell (Nat.le_refl _) _).setCell (Nat.le_refl _) _).setCell (Nat.le_refl _) _).setCell (Nat.le_refl _) _
      | none =>
        have hk : wordKind s ≠ 4 := by unfold wordKind; rw [hp]; simp; split <;> omega
        have hk4 : (wordKind s == 4) = false := by simpa using hk
        rw [hp] at hT
        obtain ⟨kk, hkk⟩ : ∃ kk, wordKind s = kk := ⟨_, rfl⟩
        rw [hkk] at hT hk4
        have HT := hid hT; have HK := hid hkk
        clear hT h1 h2 hk hkk hp
        go_enter Try.func49, Try.ntmps49
        go_wp2_with (go_at_call 60; refine (wordKind_any s _ (by omega)).mono ?_; rintro e w1 ⟨rfl, hb⟩; rw [HK.out]; obtain ⟨hc, hf⟩ := bcell hb; have hz : w.heap.size + 1 < w1.heap.size := (by have := hb.size; simp at this; omega); have hz0 : w.heap.size < w1.heap.size := (by omega))
        have k0 : ∀ j, w1.cell? ⟨w.heap.size, j, none⟩ = (#[.int .u8 0, .string ⟨#[]⟩, .int .i64 0, .int .i64 0] : Array Value)[j]? := by
          exact blk_cell (keep_blk hb (old_blk (new_blk w _) _))
        clear hc hf
        refine bodyPost_ret (v := .agg #[.int .u8 kk, .string s, .int .i64 0, .int .i64 pos]) (by simp [results, Try.results49, go_sem, k0]) rfl ⟨by rw [HT.out]; rfl, ?_⟩
        have b1 : Below w.heap.size w w1 := (((Below.refl _ _).alloc (Nat.le_refl _) _).alloc (by simp) _).trans (hb.mono (by simp; omega))
        exact ((((b1.setCell (by simp) _).setCell (Nat.le_refl _) _).setCell (Nat.le_refl _) _).setCell (Nat.le_refl _) _).setCell (Nat.le_refl _) _
end Go.Proofs.Ytgaginegcjpddaa
/- What the program's lex.Tokens comes to. -/
namespace Go.Proofs.Ytgaginegcjpddaa
open Go.RowKit
def TokenR (t : Token) (cs : List Value) : Prop := cs = [.int .u8 t.kind, .string t.text, .int .i64 t.num, .int .i64 t.pos]
theorem TokenR.len {t : Token} {cs : List Value} (h : TokenR t cs) : cs.length = 4 := by subst h; rfl
theorem ty_Token : AppTy Try.prog 57 124 4 40 := AppTy.mk' (.agg #[.int .u8 0, .string ⟨#[]⟩, .int .i64 0, .int .i64 0]) 4 40 Try.underlying57 (by kernel_rfl) rfl (by decide)
def lexGo : Nat → ByteArray → Nat → List Token → List Token × Int × Int
  | 0, _, _, _ => ([], 0, 0)
  | f + 1, s, k, acc =>
    if s.size ≤ k then (acc, 0, 0)
    else if spacedC (nth s.data.toList k).toNat then lexGo f s (k + 1) acc
    else if nth s.data.toList k = 59 then lexGo f s (k + (remarkLen s k).toNat) acc
    else
      let t := tokenOf (s.extract k (k + pieceLen s k)) k
      if t.kind = 0 then ([], k, 8) else if 600 ≤ acc.length then ([], k, 4) else lexGo f s (k + pieceLen s k) (acc ++ [t])
def tokensS (s : ByteArray) : List Token × Int × Int := if 3000 < s.size then ([], 0, 4) else lexGo (s.size + 1) s 0 []
def Tokens (w : World) (D : Nat → Prop) (v : Value) (l : List Token) : Prop := Row w D TokenR 4 v l
theorem idx_lt : ∀ (l : List UInt8) (c : UInt8), Lib.indexByte l c < l.length ∨ l = []
  | [], _ => .inr rfl
  | b :: r, c => by
    left
    simp only [Lib.indexByte, List.length_cons]
    split
    · omega
    · split
      · omega
      · rcases idx_lt r c with h | h
        · omega
        · subst h; rename_i h2; simp [Lib.indexByte] at h2
theorem remark_pos {s : ByteArray} {k : Nat} (h : k < s.size) (hc : nth s.data.toList k = 59) : 1 ≤ remarkLen s k ∧ remarkLen s k ≤ (s.size : Int) - k := by
  have hd : dropS s k = 59 :: dropS s (k + 1) := by unfold dropS; rw [drop_nth (by rw [sz]; exact h), hc]
  have hl : (dropS s k).length = s.size - k := by unfold dropS; rw [List.length_drop, sz]
  have h1 := idx_lt (dropS s k) 10
  have h2 := Lib.indexByte_ge (dropS s (k + 1)) 10
  unfold remarkLen idxB
  rw [hl] at h1
  split
  · omega
  · rename_i h3
    have h5 : Lib.indexByte (dropS s k) 10 ≤ (s.size : Int) - k := by
      rcases h1 with h1 | h1
      · omega
      · rw [h1] at hd; cases hd
    refine ⟨?_, h5⟩
    rw [hd] at h3 ⊢
    simp only [Lib.indexByte, show ((59 : UInt8) == 10) = false from rfl, Bool.false_eq_true, if_false] at h3 ⊢
    split
    · rename_i h4; rw [if_pos h4] at h3; omega
    · rename_i h4
      have h6 : Lib.indexByte (dropS s (k + 1)) 10 ≠ -1 := by simpa using h4
      omega
theorem wordLen_le : ∀ l : List UInt8, wordLen l ≤ l.length
  | [] => Nat.le_refl _
  | c :: r => by
    have := wordLen_le r
    simp only [wordLen, List.length_cons]
    split <;> omega
theorem piece_pos {s : ByteArray} {k : Nat} (h : k < s.size) (hs : spacedC (nth s.data.toList k).toNat = false) (hc : nth s.data.toList k ≠ 59) : 1 ≤ pieceLen s k ∧ k + pieceLen s k ≤ s.size := by
  have hd : dropS s k = nth s.data.toList k :: dropS s (k + 1) := by unfold dropS; rw [drop_nth (by rw [sz]; exact h)]
  have hl : (dropS s k).length = s.size - k := by unfold dropS; rw [List.length_drop, sz]
  have := wordLen_le (dropS s k)
  unfold pieceLen
  split
  · omega
  · rename_i h2
    refine ⟨?_, by omega⟩
    rw [hd]
    have hne : ∀ d : UInt8, nth s.data.toList k ≠ d → (((nth s.data.toList k).toNat : Int) == (d.toNat : Int)) = false := by
      intro d h
      simp only [beq_eq_false_iff_ne, ne_eq]
      intro e; apply h; apply UInt8.toNat_inj.1; omega
    have e1 := hne 40 (fun e => h2 (.inl e)); have e2 := hne 41 (fun e => h2 (.inr e)); have e3 := hne 59 hc
    have : endsC (nth s.data.toList k).toNat = false := by
      unfold endsC
      rw [hs, show ((40 : Int)) = ((40 : UInt8).toNat : Int) from rfl, e1, show ((41 : Int)) = ((41 : UInt8).toNat : Int) from rfl, e2, show ((59 : Int)) = ((59 : UInt8).toNat : Int) from rfl, e3]; rfl
    rw [wordLen, if_neg (by rw [this]; simp)]
    omega
/-- the lexer as its loop goes on -/
def LexInv (B lb : Nat) (s : ByteArray) (w wr : World) : Prop := ∃ (f k : Nat) (ov : Value) (acc : List Token), LexAt wr lb s k ov ∧ Own wr 124 4 TokenR ov acc ∧ ov.ownBlock ≠ some lb ∧ (∀ g, ov.ownBlock = some g → B ≤ g) ∧ k ≤ s.size ∧ s.size - k < f ∧ acc.length ≤ 600 ∧ Below B w wr ∧ Hid (tokensS s = lexGo f s k acc)
def lexPos (lb : Nat) (wr : World) : Nat := match wr.cell? ⟨lb, 1, none⟩ with | some (.int _ k) => k.toNat | _ => 0
theorem lexPos_at {w : World} {lb : Nat} {s : ByteArray} {k : Nat} {ov : Value} (h : LexAt w lb s k ov) : lexPos lb w = k := by unfold lexPos; rw [h.c1]; rfl
theorem LexAt.setPos {w : World} {lb : Nat} {s : ByteArray} {k : Nat} {ov : Value} (h : LexAt w lb s k ov) (x : Int) (k' : Nat) (hx : x = k') : LexAt (w.setCell ⟨lb, 1, none⟩ (.int .i64 x)) lb s k' ov := by
  subst hx; exact blk_set h _
theorem LexAt.setOut {w : World} {lb : Nat} {s : ByteArray} {k : Nat} {ov : Value} (h : LexAt w lb s k ov) (v : Value) : LexAt (w.setCell ⟨lb, 2, none⟩ v) lb s k v := blk_set h _
theorem LexInv.of_draw {B lb : Nat} {s : ByteArray} {w wr wr' : World} (h : LexInv B lb s w wr) (he : wr'.heap = wr.heap) (ho : wr'.os = wr.os) (ht : wr'.tape = wr.tape) (hu : wr'.output = wr.output) : LexInv B lb s w wr' := by
  obtain ⟨f, k, ov, acc, hL, hO, hne, hfr, hk, hf, hacc, hB, hR⟩ := h
  exact ⟨f, k, ov, acc, by unfold LexAt; rw [he]; exact hL, hO.of_heap he, hne, hfr, hk, hf, hacc, ⟨ho.trans hB.os, ht.trans hB.tape, hu.trans hB.output, by rw [he]; exact hB.size, fun i hi => by rw [he]; exact hB.block i hi⟩, hR⟩
/-- on to another place -/
theorem LexInv.step {lb : Nat} {s : ByteArray} {w wr : World} {f k k' : Nat} {ov : Value} {acc : List Token} (hB0 : lb = w.heap.size) (hL : LexAt wr lb s k ov) (hO : Own wr 124 4 TokenR ov acc) (hne : ov.ownBlock ≠ some lb) (hfr : ∀ g, ov.ownBlock = some g → w.heap.size ≤ g) (hacc : acc.length ≤ 600) (hB : Below w.heap.size w wr)
    (hR : tokensS s = lexGo f s k' acc) (x : Int) (hx : x = k') (hk : k' ≤ s.size) (hf : s.size - k' < f) :
    LexInv w.heap.size lb s w (wr.setCell ⟨lb, 1, none⟩ (.int .i64 x)) ∧ lexPos lb (wr.setCell ⟨lb, 1, none⟩ (.int .i64 x)) = k' :=
  ⟨⟨f, k', ov, acc, hL.setPos x k' hx, hO.setCell _ _ hne, hne, hfr, hk, hf, hacc, hB.setCell (by simp [hB0]) _, hid hR⟩, lexPos_at (hL.setPos x k' hx)⟩
/-- what the operations of the statement that takes a token leave -/
def post11 (wr : World) (lb : Nat) (s : ByteArray) (k pl : Nat) (T : Token) : Nat → Value → World → Prop
  | 0, v, _ => v = .string s
  | 1, v, _ => v = .pointer (some ⟨lb, 0, none⟩)
  | 2, v, _ => v = .pointer (some ⟨lb, 0, none⟩)
  | 3, v, _ => v = .pointer (some ⟨lb, 1, none⟩)
  | 4, v, _ => v = .int .i64 (k : Int)
  | 5, v, _ => v = .pointer (some ⟨lb, 0, none⟩)
  | 6, v, _ => v = .pointer (some ⟨lb, 0, none⟩)
  | 7, v, _ => v = .pointer (some ⟨lb, 1, none⟩)
  | 8, v, _ => v = .int .i64 (k : Int)
  | 9, v, _ => v = .int .i64 (pl : Int)
  | 10, v, _ => v = .int .i64 ((k : Int) + pl)
  | 11, v, _ => v = .string (s.extract k (k + pl))
  | 12, v, _ => v = .pointer (some ⟨lb, 0, none⟩)
  | 13, v, _ => v = .pointer (some ⟨lb, 0, none⟩)
  | 14, v, _ => v = .pointer (some ⟨lb, 1, none⟩)
  | 15, v, _ => v = .int .i64 (k : Int)
  | 16, v, _ => v = T.val
  | 17, v, w => ∃ tb : Nat, v = .pointer (some ⟨tb, 0, none⟩) ∧ wr.heap.size ≤ tb ∧ w.heap[tb]? = some (.cells #[.int .u8 0, .string ⟨#[]⟩, .int .i64 0, .int .i64 0] 124 (0, 0))
  | _, _, _ => True
/-- what the operations of the statement that appends a token leave -/
def post16 (wc : World) (lb : Nat) (ov : Value) (acc : List Token) (T : Token) : Nat → Value → World → Prop
  | 0, v, _ => v = .pointer (some ⟨lb, 0, none⟩)
  | 1, v, _ => v = .pointer (some ⟨lb, 0, none⟩)
  | 2, v, _ => v = .pointer (some ⟨lb, 0, none⟩)
  | 3, v, _ => v = .pointer (some ⟨lb, 2, none⟩)
  | 4, v, _ => v = ov
  | 5, v, _ => v = T.val
  | 6, v, w => ∃ B : Nat, v = .slice (some ⟨B, 0, none⟩) 1 1 ∧ wc.heap.size ≤ B ∧ w.heap[B]? = some (.cells #[.int .u8 T.kind, .string T.text, .int .i64 T.num, .int .i64 T.pos] 124 (0, 0))
  | 7, v, w => ∃ g cap : Nat, v = .slice (some ⟨g, 0, none⟩) (acc.length + 1) cap ∧ Own w 124 4 TokenR (.slice (some ⟨g, 0, none⟩) (acc ++ [T]).length cap) (acc ++ [T]) ∧ (ov.ownBlock = some g ∨ wc.heap.size ≤ g)
  | _, _, _ => True
theorem post16_alloc {wc : World} {lb : Nat} {ov : Value} {acc : List Token} {T : Token} {w : World} {i : Nat} {u : Value} (h : post16 wc lb ov acc T i u w) (o : Obj) : post16 wc lb ov acc T i u (w.alloc o) := by
  unfold post16 at h ⊢
  split at h <;> first
    | exact h
    | (obtain ⟨B, h1, h2, h3⟩ := h; exact ⟨B, h1, h2, old_blk h3 o⟩)
    | (obtain ⟨g, cap, h1, h2, h3⟩ := h; exact ⟨g, cap, h1, h2.alloc o, h3⟩)
theorem post16_append {wc : World} {lb : Nat} {ov : Value} {acc : List Token} {T : Token} {w w' : World} {e size g cap : Nat} {R : Token → List Value → Prop} {l : List Token} (hG : Grew w w' ov e size R acc l g cap) (hB : ∀ B, wc.heap.size ≤ B → ov.ownBlock ≠ some B) {i : Nat} {u : Value} (hi : i ≠ 7) (h : post16 wc lb ov acc T i u w) : post16 wc lb ov acc T i u w' := by
  unfold post16 at h ⊢
  split at h <;> first
    | exact h
    | (obtain ⟨B, h1, h2, h3⟩ := h; exact ⟨B, h1, h2, hG.keep h3 (hB B h2)⟩)
    | exact absurd rfl hi
theorem post11_stab {wr : World} {lb : Nat} {s : ByteArray} {k pl : Nat} {T : Token} {w w' : World} (hb : Below w.heap.size w w') {i : Nat} {u : Value} (h : post11 wr lb s k pl T i u w) : post11 wr lb s k pl T i u w' := by
  unfold post11 at h ⊢
  split at h <;> first
    | exact h
    | (obtain ⟨tb, h1, h2, h3⟩ := h; exact ⟨tb, h1, h2, keep_blk hb h3⟩)
set_option maxHeartbeats 1600000 in
set_option maxRecDepth 100000 in
theorem tokens_any (s : ByteArray) (w : World) (hs : s.size ≤ 3000) : Calls Try.prog 21 #[.string s] w fun e w' =>
    ∃ v, e = .returned (.tuple #[v, .int .i64 (tokensS s).2.1, .int .i64 (tokensS s).2.2]) ∧ Below w.heap.size w w' ∧ Tokens w' (fun k => w.heap.size ≤ k) v (tokensS s).1 := by
  go_enter Try.func21, Try.ntmps21
  go_wp2
  go_loopw [2, 3, 4, 6, 7, 8] (fun _ _ _ _ _ _ wr => LexInv w.heap.size w.heap.size s w wr) (fun _ _ _ _ _ _ wr => s.size - lexPos w.heap.size wr)
  case atStart =>
    exact ⟨s.size + 1, 0, .slice none 0 0, [], new_blk _ _, Own.nil _ _ _ _, by simp [Value.ownBlock], by simp [Value.ownBlock], Nat.zero_le _, by omega, by simp, (Below.refl _ _).alloc (Nat.le_refl _) _, hid (by rw [tokensS, if_neg (by omega)])⟩
  case round =>
    obtain ⟨f, k, ov, acc, hL, hO, hne, hfr, hk, hf, hacc, hB, hR⟩ := hrel
    obtain ⟨A, cc, rfl, hcc1, hcc2⟩ := hO.slice
    have c0 := hL.c0; have c1 := hL.c1; have c2 := hL.c2; have fr := hL.fr
    have hlb := hL.lt
    have hLL := hid hL
    by_cases hlt : k < s.size
    · have hnt := get_nth s k hlt
      have hc255 : (s[k].toNat : Int) ≤ 255 := by have := s[k].toNat_lt; omega
      have HNT := hid hnt
      clear hnt
      by_cases hsp : spacedC s[k].toNat = true
      · go_wp2_with (go_at_call 46; refine (spaced_any _ _).mono ?_; rintro e w' ⟨rfl, rfl⟩)
        have st := LexInv.step (f := f - 1) rfl hL hO hne hfr hacc hB (k' := k + 1) (by
          have h := hR.out
          obtain ⟨f', rfl⟩ : ∃ f', f = f' + 1 := ⟨f - 1, by omega⟩
          rw [h, lexGo, if_neg (by omega), if_pos (by rw [← HNT.out]; exact hsp)]; rfl) ((k : Int) + 1) rfl (by omega) (by omega)
        have ST := hid st
        clear st
        go_roundw
        case rel => exact ST.out.1
        case measure => rw [ST.out.2, lexPos_at hL]; omega
      · have hsp' : spacedC s[k].toNat = false := by simpa using hsp
        clear hsp
        by_cases hc : s[k].toNat = 59
        · have hc' : ((s[k].toNat : Int) == 59) = true := by simp; omega
          have h59 : nth s.data.toList k = 59 := by rw [← HNT.out]; exact UInt8.toNat_inj.1 hc
          have hrm := remark_pos hlt h59
          have H59 := hid h59
          clear h59
          go_upto_region 9 with (go_at_call 46; refine (spaced_any _ _).mono ?_; rintro e w' ⟨rfl, rfl⟩)
          go_region_with (go_at_call 47; refine (remark_any _ s k _ wr.drew hL (by omega) hs).mono ?_; rintro e w' ⟨rfl, nq, rfl⟩)
          all_goals (go_wp2; go_roundw)
          all_goals
            have S := LexInv.step (f := f - 1) rfl hL hO hne hfr hacc hB (k' := k + (remarkLen s k).toNat) (by
              have h := hR.out
              obtain ⟨f', rfl⟩ : ∃ f', f = f' + 1 := ⟨f - 1, by omega⟩
              rw [h, lexGo, if_neg (by omega), if_neg (by rw [← HNT.out, hsp']; simp), if_pos H59.out]; rfl) (IntKind.i64.wrap ((k : Int) + remarkLen s k)) (by rw [i64w (by omega) (by omega)]; omega) (by omega) (by omega)
            first
              | exact LexInv.of_draw S.1 rfl rfl rfl rfl
              | (have S2 := S.2; have S3 := lexPos_at hL; change s.size - lexPos w.heap.size (wr.setCell _ _) < _; rw [S2, S3]; omega)
        · have hc' : ((s[k].toNat : Int) == 59) = false := by simp; omega
          obtain ⟨T, hT⟩ : ∃ T, tokenOf (s.extract k (k + pieceLen s k)) k = T := ⟨_, rfl⟩
          have HT := hid hT
          clear hT
          have hpl := piece_pos hlt (by rw [← HNT.out]; exact hsp') (by rw [← HNT.out]; intro e; apply hc; rw [e]; rfl)
          obtain ⟨pl, hpe⟩ : ∃ pl, pieceLen s k = pl := ⟨_, rfl⟩
          rw [hpe] at hpl HT
          have HPE := hid hpe
          clear hpe
          have hw0 : IntKind.i64.wrap ((k : Int) + (pl : Int)) = (k : Int) + pl := i64w (by omega) (by omega)
          have hw1 : (0 : Int) ≤ (k : Int) + pl := by omega
          have hw2 : (k : Int) + pl ≤ s.size := by omega
          have hw3 : ((k : Int) + pl).toNat = k + pl := by omega
          go_upto_region 11 with (first | (go_at_call 46; refine (spaced_any _ _).mono ?_; rintro e w' ⟨rfl, rfl⟩) | (go_at_call 48; refine (length_any _ _ _ _ _ hL hlt hs).mono ?_; rintro e w' ⟨rfl, nq, rfl⟩; rw [HPE.out]))
          have hsl := fun W => str_slice (P := Try.prog) Try.underlying9 s k (k + pl) (k : Int) ((k : Int) + pl) rfl (by omega) (by omega) (by omega) W
          go_cut [8] (fun s8 wx => ∃ tb : Nat, s8 = .pointer (some ⟨tb, 0, none⟩) ∧ wx.heap[tb]? = some (.cells #[.int .u8 T.kind, .string T.text, .int .i64 T.num, .int .i64 T.pos] 124 (0, 0)) ∧ wr.heap.size ≤ tb ∧ Below wr.heap.size wr wx)
          case first =>
            refine wp_region_rg 18 (fun w' => Below wr.heap.size wr w') (post11 wr w.heap.size s k pl T) (by kernel_rfl) (by kernel_rfl) (by rfl) ((below_drewN (Below.refl _ _) _).drew) ?rgO ?rgE
            case rgO =>
              refine ⟨?_, ?_, ?_, ?_, ?_, ?_, ?_, ?_, ?_, ?_, ?_, ?_, ?_, ?_, ?_, ?_, ?_, ?_, trivial⟩
              · refine RgOk.val rfl fun a wq hI hD hF => ⟨?_, ?_, ?_⟩
                rotate_left 2
                · exact rfl
                · have s0 : a.tmps.getD 0 undef = _ := hF.get 0 rfl; simp [execOp, go_sem, Act.eval, s0]
              · refine RgOk.val rfl fun a wq hI hD hF => ⟨?_, ?_, ?_⟩
                rotate_left 2
                · exact rfl
                · have s5 : a.tmps.getD 5 undef = _ := hF.get 5 rfl; simp [execOp, go_sem, Act.eval, s5]
              · refine RgOk.val rfl fun a wq hI hD hF => ⟨?_, ?_, ?_⟩
                rotate_left 2
                · exact rfl
                · have d1 : a.tmps.getD 51 undef = _ := hD.get 1 rfl rfl rfl; simp [execOp, go_sem, Act.eval, d1]
              · refine RgOk.val rfl fun a wq hI hD hF => ⟨?_, ?_, ?_⟩
                rotate_left 2
                · exact rfl
                · have d2 : a.tmps.getD 52 undef = _ := hD.get 2 rfl rfl rfl; simp [execOp, go_sem, Act.eval, d2]
              · refine RgOk.val rfl fun a wq hI hD hF => ⟨?_, ?_, ?_⟩
                rotate_left 2
                · exact rfl
                · have d3 : a.tmps.getD 53 undef = _ := hD.get 3 rfl rfl rfl; simp [execOp, go_sem, Act.eval, d3, c1, (hI.cell (p := ⟨w.heap.size, 1, none⟩) hlb)]
              · refine RgOk.val rfl fun a wq hI hD hF => ⟨?_, ?_, ?_⟩
                rotate_left 2
                · exact rfl
                · have s5 : a.tmps.getD 5 undef = _ := hF.get 5 rfl; simp [execOp, go_sem, Act.eval, s5]
              · refine RgOk.val rfl fun a wq hI hD hF => ⟨?_, ?_, ?_⟩
                rotate_left 2
                · exact rfl
                · have d5 : a.tmps.getD 55 undef = _ := hD.get 5 rfl rfl rfl; simp [execOp, go_sem, Act.eval, d5]
              · refine RgOk.val rfl fun a wq hI hD hF => ⟨?_, ?_, ?_⟩
                rotate_left 2
                · exact rfl
                · have d6 : a.tmps.getD 56 undef = _ := hD.get 6 rfl rfl rfl; simp [execOp, go_sem, Act.eval, d6]
              · refine RgOk.val rfl fun a wq hI hD hF => ⟨?_, ?_, ?_⟩
                rotate_left 2
                · exact rfl
                · have d7 : a.tmps.getD 57 undef = _ := hD.get 7 rfl rfl rfl; simp [execOp, go_sem, Act.eval, d7, c1, (hI.cell (p := ⟨w.heap.size, 1, none⟩) hlb)]
              · refine RgOk.val rfl fun a wq hI hD hF => ⟨?_, ?_, ?_⟩
                rotate_left 2
                · exact rfl
                · have s7 : a.tmps.getD 7 undef = _ := hF.get 7 rfl; simp [execOp, go_sem, Act.eval, s7]
              · refine RgOk.val rfl fun a wq hI hD hF => ⟨?_, ?_, ?_⟩
                rotate_left 2
                · exact rfl
                · have d8 : a.tmps.getD 58 undef = _ := hD.get 8 rfl rfl rfl; have d9 : a.tmps.getD 59 undef = _ := hD.get 9 rfl rfl rfl; simp [execOp, go_sem, Act.eval, d8, d9, hw0]
              · refine RgOk.val rfl fun a wq hI hD hF => ⟨?_, ?_, ?_⟩
                rotate_left 2
                · exact rfl
                · have d0 : a.tmps.getD 50 undef = _ := hD.get 0 rfl rfl rfl; have d4 : a.tmps.getD 54 undef = _ := hD.get 4 rfl rfl rfl; have d10 : a.tmps.getD 60 undef = _ := hD.get 10 rfl rfl rfl; simp [execOp, go_sem, Act.eval, d0, d4, d10, hsl]
              · refine RgOk.val rfl fun a wq hI hD hF => ⟨?_, ?_, ?_⟩
                rotate_left 2
                · exact rfl
                · have s5 : a.tmps.getD 5 undef = _ := hF.get 5 rfl; simp [execOp, go_sem, Act.eval, s5]
              · refine RgOk.val rfl fun a wq hI hD hF => ⟨?_, ?_, ?_⟩
                rotate_left 2
                · exact rfl
                · have d12 : a.tmps.getD 62 undef = _ := hD.get 12 rfl rfl rfl; simp [execOp, go_sem, Act.eval, d12]
              · refine RgOk.val rfl fun a wq hI hD hF => ⟨?_, ?_, ?_⟩
                rotate_left 2
                · exact rfl
                · have d13 : a.tmps.getD 63 undef = _ := hD.get 13 rfl rfl rfl; simp [execOp, go_sem, Act.eval, d13]
              · refine RgOk.val rfl fun a wq hI hD hF => ⟨?_, ?_, ?_⟩
                rotate_left 2
                · exact rfl
                · have d14 : a.tmps.getD 64 undef = _ := hD.get 14 rfl rfl rfl; simp [execOp, go_sem, Act.eval, d14, c1, (hI.cell (p := ⟨w.heap.size, 1, none⟩) hlb)]
              · refine RgOk.call rfl 49 fun a w1 hI hD hF => ?_
                have hI : Below wr.heap.size wr w1 := hI
                have d11 : a.tmps.getD 61 undef = _ := hD.get 11 (by rfl) rfl rfl
                have d15 : a.tmps.getD 65 undef = _ := hD.get 15 (by rfl) rfl rfl
                refine ⟨_, by simp [execOp, go_sem, Act.eval, d11, d15]; rfl, ?_⟩
                refine (token_any _ _ _ (by simp; omega)).mono ?_
                rintro e w2 ⟨rfl, hb⟩
                exact ⟨_, rfl, hI.trans (hb.mono hI.size), by rw [HT.out]; rfl, fun i u _ h => post11_stab hb h⟩
              · refine RgOk.turn rfl fun a w1 hI hD hF => ⟨_, _, by simp [execOp, go_sem], Below.alloc hI hI.size _, ⟨_, rfl, hI.size, new_blk _ _⟩, fun i u _ h => post11_stab ((Below.refl _ _).alloc (Nat.le_refl _) _) h⟩
            case rgE =>
              intro vs w1 hI hP
              obtain ⟨tb, e8, htb, hblk⟩ := hP 17 _ _ (by omega) rfl rfl
              have e16 : vs 16 = _ := hP 16 _ _ (by omega) rfl rfl
              simp only [rgPut, List.take, List.drop, Nat.zero_add, Nat.reduceAdd, e8, e16, Token.val]
              clear hP e8 e16
              have q3 := blk_cell hblk
              have q4 := blk_free hblk
              have hI' : Below wr.heap.size wr w1 := hI
              have HB := hid hblk
              clear hblk hI
              go_wp2_with fail
              go_meet
              exact ⟨tb, rfl, blk_set (blk_set (blk_set (blk_set HB.out _) _) _) _, htb, (((hI'.setCell htb _).setCell htb _).setCell htb _).setCell htb _⟩
          case rest =>
            obtain ⟨tb, rfl, hblk, htb, hBw⟩ := hcut
            have q3 := blk_cell hblk
            have hL' : LexAt wc w.heap.size s k (.slice A acc.length cc) := keep_blk hBw hL
            have hO' := hO.below hBw
            have d0 := hL'.c0; have d1 := hL'.c1; have d2 := hL'.c2
            have hBt := hB.trans (hBw.mono hB.size)
            have hlen600 : (acc.length : Int) ≤ 600 := by omega
            have hstep : Hid (tokensS s = if T.kind = 0 then ([], (k : Int), 8) else if 600 ≤ acc.length then ([], (k : Int), 4) else lexGo (f - 1) s (k + pl) (acc ++ [T])) := by
              have h := hR.out
              obtain ⟨f', rfl⟩ : ∃ f', f = f' + 1 := ⟨f - 1, by omega⟩
              rw [h, lexGo, if_neg (by omega), if_neg (by rw [← HNT.out, hsp']; simp), if_neg (by rw [← HNT.out]; intro e; apply hc; rw [e]; rfl)]
              rw [HPE.out, HT.out]; rfl
            clear c0 c1 c2
            by_cases hk0 : T.kind = 0
            · have hkb : (T.kind == 0) = true := by simpa using hk0
              go_wp2_with fail
              go_quiet (fail)
              go_wp2
              go_ret3
              have hh := hstep.out
              rw [if_pos hk0] at hh
              rw [hh]
              exact ⟨_, rfl, below_drewN hBt _, Row.nil _ _ _ _⟩
            · have hkb : (T.kind == 0) = false := by simpa using hk0
              by_cases hfull : 600 ≤ acc.length
              · have hfb : (600 : Int) ≤ acc.length := by omega
                go_wp2_with fail
                go_quiet (fail)
                go_wp2
                go_ret3
                have hh := hstep.out
                rw [if_neg hk0, if_pos hfull] at hh
                rw [hh]
                exact ⟨_, rfl, below_drewN hBt _, Row.nil _ _ _ _⟩
              · have hfb : (acc.length : Int) < 600 := by omega
                have hrow : ∀ g, (Value.slice A acc.length cc).ownBlock = some g → g < wr.heap.size := fun g hg => by
                  rcases hO.shape with ⟨h1, _⟩ | ⟨g', cap', h1, _, _, h2⟩
                  · rw [h1] at hg; cases hg
                  · rw [h1] at hg; cases hg; exact h2
                have hnt : (Value.slice A acc.length cc).ownBlock ≠ some tb := fun e => by have := hrow tb e; omega
                have hlt1 : w.heap.size < wc.heap.size := hL'.lt
                have hlt2 : tb < wc.heap.size := blk_lt hblk
                go_upto_region 16 with fail
                refine wp_region_rg 8 (fun w' => wc.grownBy w' (Value.slice A acc.length cc).ownBlock ∧ Own w' 124 4 TokenR (.slice A acc.length cc) acc) (post16 wc w.heap.size (.slice A acc.length cc) acc T) (by kernel_rfl) (by kernel_rfl) (by rfl) ⟨⟨rfl, rfl, rfl, Nat.le_refl _, fun _ _ _ => rfl⟩, hO'.of_heap rfl⟩ ?rgO ?rgE
                case rgO =>
                  refine ⟨?_, ?_, ?_, ?_, ?_, ?_, ?_, ?_, trivial⟩
                  · refine RgOk.val rfl fun a wq hI hD hF => ⟨?_, ?_, ?_⟩
                    rotate_left 2
                    · exact rfl
                    · have s5 : a.tmps.getD 5 undef = _ := hF.get 5 rfl; simp [execOp, go_sem, Act.eval, s5]
                  · refine RgOk.val rfl fun a wq hI hD hF => ⟨?_, ?_, ?_⟩
                    rotate_left 2
                    · exact rfl
                    · have s5 : a.tmps.getD 5 undef = _ := hF.get 5 rfl; simp [execOp, go_sem, Act.eval, s5]
                  · refine RgOk.val rfl fun a wq hI hD hF => ⟨?_, ?_, ?_⟩
                    rotate_left 2
                    · exact rfl
                    · have d1 : a.tmps.getD 87 undef = _ := hD.get 1 rfl rfl rfl; simp [execOp, go_sem, Act.eval, d1]
                  · refine RgOk.val rfl fun a wq hI hD hF => ⟨?_, ?_, ?_⟩
                    rotate_left 2
                    · exact rfl
                    · have d2 : a.tmps.getD 88 undef = _ := hD.get 2 rfl rfl rfl; simp [execOp, go_sem, Act.eval, d2]
                  · refine RgOk.val rfl fun a wq hI hD hF => ⟨?_, ?_, ?_⟩
                    rotate_left 2
                    · exact rfl
                    · have d3 : a.tmps.getD 89 undef = _ := hD.get 3 rfl rfl rfl; simp [execOp, go_sem, Act.eval, d3, (World.grownBy.cell hI.1 (a := ⟨w.heap.size, 2, none⟩) d2 (fun e => hne e.symm))]
                  · refine RgOk.val rfl fun a wq hI hD hF => ⟨?_, ?_, ?_⟩
                    rotate_left 2
                    · exact rfl
                    · have s8 : a.tmps.getD 8 undef = _ := hF.get 8 rfl; simp [execOp, go_sem, Act.eval, s8, (World.grownBy.cell hI.1 (a := ⟨tb, 0, none⟩) (q3 0) (fun e => hnt e.symm)), (World.grownBy.cell hI.1 (a := ⟨tb, 1, none⟩) (q3 1) (fun e => hnt e.symm)), (World.grownBy.cell hI.1 (a := ⟨tb, 2, none⟩) (q3 2) (fun e => hnt e.symm)), (World.grownBy.cell hI.1 (a := ⟨tb, 3, none⟩) (q3 3) (fun e => hnt e.symm)), Token.val]
                  · refine RgOk.turn rfl fun a wq hI hD hF => ?_
                    have d5 : a.tmps.getD 91 undef = .agg #[.int .u8 T.kind, .string T.text, .int .i64 T.num, .int .i64 T.pos] := hD.get 5 rfl rfl rfl
                    simp only [Array.getD_eq_getD_getElem?] at d5
                    refine ⟨_, _, by simp [execOp, go_sem, Act.eval, d5], ⟨hI.1.trans (World.grownBy_alloc _ _ _), hI.2.alloc _⟩, ⟨_, rfl, hI.1.size, new_blk _ _⟩, fun i u hi h => post16_alloc h _⟩
                  · refine RgOk.append (R := TokenR) rfl ty_Token (.tmp 90) (.tmp 92) rfl (.slice A acc.length cc) acc T [.int .u8 T.kind, .string T.text, .int .i64 T.num, .int .i64 T.pos] rfl rfl (by simp [Value.oneCell']) (by omega) (by omega) fun a wq hI hD hF => ?_
                    have d4 : a.tmps.getD 90 undef = _ := hD.get 4 rfl rfl rfl
                    obtain ⟨B, d6, hB1, hB2⟩ := hD.get 6 rfl rfl rfl
                    refine ⟨B, d4, d6, hB2, hI.2, fun g cap w' hG => ⟨⟨hI.1.trans hG.grown, hG.old⟩, ⟨g, cap, by simp, hG.own, ?_⟩, fun i u hi h => post16_append hG (fun B hB e => by have := hrow B e; have := hBw.size; omega) hi h⟩⟩
                    exact hG.lies.imp id (fun h => Nat.le_trans hI.1.size h)
                case rgE =>
                  intro vs w1 hI hP
                  obtain ⟨g, cap, e7, hO2, hlies⟩ := hP 7 _ _ (by omega) rfl rfl
                  have e0 : vs 0 = _ := hP 0 _ _ (by omega) rfl rfl
                  simp only [rgPut, List.take, List.drop, Nat.zero_add, Nat.reduceAdd, e7, e0]
                  clear hP e7 e0
                  have hL1 : LexAt w1 w.heap.size s k (.slice A acc.length cc) := (hI.1.block _ hlt1 (fun e => hne e.symm)).trans hL'
                  have hg1 : g ≠ w.heap.size := by
                    rcases hlies with e | e
                    · intro e2; subst e2; exact hne e
                    · omega
                  have hB1 : Below w.heap.size w w1 := ⟨hI.1.os.trans hBt.os, hI.1.tape.trans hBt.tape, hI.1.output.trans hBt.output, Nat.le_trans hBt.size hI.1.size, fun i hi => (hI.1.block i (by omega) (fun e => by have := hfr i e.symm; omega)).trans (hBt.block i hi)⟩
                  have hgfr : ∀ g', (Value.slice (some ⟨g, 0, none⟩) (acc ++ [T]).length cap).ownBlock = some g' → w.heap.size ≤ g' := by
                    intro g' e
                    cases e
                    show w.heap.size ≤ g
                    rcases hlies with e | e
                    · exact hfr _ e
                    · omega
                  have hL2 := hL1.setOut (.slice (some ⟨g, 0, none⟩) (acc ++ [T]).length cap)
                  have hO3 := hO2.setCell ⟨w.heap.size, 2, none⟩ (.slice (some ⟨g, 0, none⟩) (acc ++ [T]).length cap) (by simpa [Value.ownBlock] using hg1)
                  have hB3 := hB1.setCell (p := ⟨w.heap.size, 2, none⟩) (by simp) (.slice (some ⟨g, 0, none⟩) (acc ++ [T]).length cap)
                  have S := LexInv.step (f := f - 1) (k' := k + pl) rfl hL2 hO3 (by simpa [Value.ownBlock] using hg1) hgfr (by simp; omega) hB3 (by
                    have hh := hstep.out
                    rwa [if_neg hk0, if_neg (by omega)] at hh) ((k : Int) + pl) (by omega) (by omega) (by omega)
                  have SH := hid S
                  have x0 := hL1.c0; have x1 := hL1.c1; have x2 := hL1.c2; have xf := hL1.fr
                  have y1 := hL2.c1
                  have hlen : (acc ++ [T]).length = acc.length + 1 := by simp
                  rw [hlen] at y1 SH
                  have hl1 : w.heap.size < w1.heap.size := hL1.lt
                  clear hL1 hL2 S d0 d1 d2 hI hO hO' hO2 hO3 hB1 hB3 hgfr hnt hrow hB hBt hBw hL hL'
                  go_wp2_with fail
                  go_roundw
                  case rel => exact SH.out.1
                  case measure => rw [SH.out.2, lexPos_at hLL.out]; omega
    · have hke : k = s.size := by omega
      go_wp2_with fail
      go_ret3
      have h := hR.out
      obtain ⟨f', rfl⟩ : ∃ f', f = f' + 1 := ⟨f - 1, by omega⟩
      rw [h, lexGo, if_pos (by omega)]
      exact ⟨_, rfl, hB, hO.row (fun _ _ h => h.len) hfr⟩
set_option maxHeartbeats 1600000 in
theorem tokens_big (s : ByteArray) (w : World) (hs : 3000 < s.size) : Calls Try.prog 21 #[.string s] w fun e w' =>
    ∃ v, e = .returned (.tuple #[v, .int .i64 (tokensS s).2.1, .int .i64 (tokensS s).2.2]) ∧ Below w.heap.size w w' ∧ Tokens w' (fun k => w.heap.size ≤ k) v (tokensS s).1 := by
  go_enter Try.func21, Try.ntmps21
  have hs' : (3000 : Int) < s.size := by omega
  go_wp2
  go_ret3
  rw [tokensS, if_pos hs]
  exact ⟨_, rfl, Below.refl _ _, Row.nil _ _ _ _⟩
/-- the tokens of any text -/
theorem tokens_all (s : ByteArray) (w : World) : Calls Try.prog 21 #[.string s] w fun e w' =>
    ∃ v, e = .returned (.tuple #[v, .int .i64 (tokensS s).2.1, .int .i64 (tokensS s).2.2]) ∧ Below w.heap.size w w' ∧ Tokens w' (fun k => w.heap.size ≤ k) v (tokensS s).1 := by
  by_cases h : s.size ≤ 3000
  · exact tokens_any s w h
  · exact tokens_big s w (by omega)
end Go.Proofs.Ytgaginegcjpddaa
/- Forms in memory: a list of forms that grows, its kids' lists, and lists beside it, each in a block of its own. No program in sight but for the types' numbers. -/
namespace Go.Proofs.Ytgaginegcjpddaa
open Go.RowKit
structure Form where
  kind : Int
  text : ByteArray
  num : Int
  kids : List Int
  pos : Int
deriving Inhabited
def Form.cells (f : Form) (kv : Value) : List Value := [.int .u8 f.kind, .string f.text, .int .i64 f.num, kv, .int .i64 f.pos]
def nilv : Value := .slice none 0 0
theorem ty_Form : AppTy Try.prog 29 93 5 64 := AppTy.mk' (.agg #[.int .u8 0, .string ⟨#[]⟩, .int .i64 0, .slice none 0 0, .int .i64 0]) 5 64 Try.underlying29 (by kernel_rfl) rfl (by decide)
theorem ty_int : AppTy Try.prog 25 3 1 8 := AppTy.mk' (.int .i64 0) 1 8 Try.underlying25 (by kernel_rfl) rfl (by decide)
/-- a form's cells, its kids' slice being that of its slot -/
def FormC (S : Nat → Value) (x : Form × Nat) (cs : List Value) : Prop := cs = x.1.cells (S (x.2 + 3))
theorem FormC.len {S : Nat → Value} {x : Form × Nat} {cs : List Value} (h : FormC S x cs) : cs.length = 5 := by subst h; rfl
def up (S : Nat → Value) (k : Nat) (v : Value) : Nat → Value := fun i => if i = k then v else S i
/-- the lists of numbers: two beside, and the forms' kids -/
def ints (l : List Form) (top opn : List Int) : Nat → List Int
  | 0 => top
  | 1 => opn
  | i + 2 => (nth l i).kids
def IRow (w : World) (v : Value) (l : List Int) : Prop := Own w 3 1 IntR v l
structure FT (w : World) (lo : Nat) (ex : Nat → Prop) (S : Nat → Value) (l : List Form) (top opn : List Int) : Prop where
  forms : Own w 93 5 (FormC S) (S 0) l.zipIdx
  rows : ∀ k, IRow w (S (k + 1)) (ints l top opn k)
  out : ∀ i, l.length ≤ i → S (i + 3) = nilv
  apart : ∀ i j b, (S i).ownBlock = some b → (S j).ownBlock = some b → i = j
  low : ∀ i b, (S i).ownBlock = some b → lo ≤ b ∧ ¬ ex b
  lows : lo ≤ w.heap.size ∧ ∀ b, ex b → b < w.heap.size
theorem FT.lt {w : World} {lo : Nat} {ex : Nat → Prop} {S : Nat → Value} {l : List Form} {top opn : List Int} (h : FT w lo ex S l top opn) (i b : Nat) (hb : (S i).ownBlock = some b) : b < w.heap.size := by
  have key : ∀ {α : Type} {e size : Nat} {R : α → List Value → Prop} {v : Value} {l : List α}, Own w e size R v l → v.ownBlock = some b → b < w.heap.size := by
    intro α e size R v l ho hv
    rcases ho.shape with ⟨h1, _⟩ | ⟨g, cap, h1, _, _, h2⟩
    · rw [h1] at hv; cases hv
    · rw [h1] at hv; cases hv; exact h2
  cases i with
  | zero => exact key h.forms hb
  | succ k => exact key (h.rows k) hb
/-- a block that none of the lists has -/
def Fresh (lo : Nat) (ex : Nat → Prop) (S : Nat → Value) (b : Nat) : Prop := lo ≤ b ∧ ¬ ex b ∧ ∀ i, (S i).ownBlock ≠ some b
theorem Fresh.of {w : World} {lo : Nat} {ex : Nat → Prop} {S : Nat → Value} {l : List Form} {top opn : List Int} (h : FT w lo ex S l top opn) {b : Nat} (hb : w.heap.size ≤ b) : Fresh lo ex S b :=
  ⟨Nat.le_trans h.lows.1 hb, fun e => by have := h.lows.2 b e; omega, fun i e => by have := h.lt i b e; omega⟩
theorem apart_up {S : Nat → Value} (h : ∀ i j b, (S i).ownBlock = some b → (S j).ownBlock = some b → i = j) {k : Nat} {v : Value} (hv : ∀ b, v.ownBlock = some b → (S k).ownBlock = some b ∨ ∀ i, (S i).ownBlock ≠ some b) :
    ∀ i j b, (up S k v i).ownBlock = some b → (up S k v j).ownBlock = some b → i = j := by
  intro i j b hi hj
  by_cases hik : i = k
  · by_cases hjk : j = k
    · omega
    · simp only [up, hik, if_pos, hjk, if_false] at hi hj
      rcases hv b hi with h1 | h1
      · rw [hik]; exact h k j b h1 hj
      · exact absurd hj (h1 j)
  · by_cases hjk : j = k
    · simp only [up, hik, if_pos, hjk, if_false] at hi hj
      rcases hv b hj with h1 | h1
      · rw [hjk]; exact h i k b hi h1
      · exact absurd hi (h1 i)
    · simp only [up, hik, hjk, if_false] at hi hj
      exact h i j b hi hj
/-- nothing of the lists has changed -/
theorem FT.keep {w w' : World} {lo : Nat} {ex : Nat → Prop} {S : Nat → Value} {l : List Form} {top opn : List Int} (h : FT w lo ex S l top opn) (hsz : w.heap.size ≤ w'.heap.size) (hb : ∀ i b, (S i).ownBlock = some b → w'.heap[b]? = w.heap[b]?) : FT w' lo ex S l top opn :=
  ⟨h.forms.imp (fun _ _ _ h => h) (fun g hg _ => hb 0 g hg), fun k => (h.rows k).imp (fun _ _ _ h => h) (fun g hg _ => hb (k + 1) g hg), h.out, h.apart, h.low, ⟨Nat.le_trans h.lows.1 hsz, fun b e => Nat.lt_of_lt_of_le (h.lows.2 b e) hsz⟩⟩
theorem FT.below {w w' : World} {lo : Nat} {ex : Nat → Prop} {S : Nat → Value} {l : List Form} {top opn : List Int} (h : FT w lo ex S l top opn) (hb : Below w.heap.size w w') : FT w' lo ex S l top opn :=
  h.keep hb.size (fun i b e => hb.block b (h.lt i b e))
theorem FT.heap {w w' : World} {lo : Nat} {ex : Nat → Prop} {S : Nat → Value} {l : List Form} {top opn : List Int} (h : FT w lo ex S l top opn) (he : w'.heap = w.heap) : FT w' lo ex S l top opn :=
  h.keep (by rw [he]; exact Nat.le_refl _) (fun i b e => by rw [he])
theorem FT.set {w : World} {lo : Nat} {ex : Nat → Prop} {S : Nat → Value} {l : List Form} {top opn : List Int} (h : FT w lo ex S l top opn) (p : Addr) (v : Value) (hp : ∀ i, (S i).ownBlock ≠ some p.block) : FT (w.setCell p v) lo ex S l top opn :=
  h.keep (by simp) (fun i b e => Below.heap_setCell _ _ _ _ (fun e2 => hp i (by rw [e, e2])))
theorem FT.setEx {w : World} {lo : Nat} {ex : Nat → Prop} {S : Nat → Value} {l : List Form} {top opn : List Int} (h : FT w lo ex S l top opn) {b : Nat} (hb : ex b) (j : Nat) (v : Value) : FT (w.setCell ⟨b, j, none⟩ v) lo ex S l top opn :=
  h.set _ _ (fun i e => (h.low i _ e).2 hb)
/-- a new block: none of the lists' -/
theorem FT.alloc {w : World} {lo : Nat} {ex : Nat → Prop} {S : Nat → Value} {l : List Form} {top opn : List Int} (h : FT w lo ex S l top opn) (o : Obj) : FT (w.alloc o) lo (fun b => ex b ∨ b = w.heap.size) S l top opn := by
  have h' := h.below ((Below.refl w.heap.size w).alloc (Nat.le_refl _) o)
  refine ⟨h'.forms, h'.rows, h'.out, h'.apart, fun i b e => ⟨(h.low i b e).1, fun e2 => ?_⟩, ⟨h'.lows.1, fun b e => ?_⟩⟩
  · rcases e2 with e2 | e2
    · exact (h.low i b e).2 e2
    · have := h.lt i b e; omega
  · rcases e with e | e
    · exact h'.lows.2 b e
    · subst e; simp
theorem FT.less {w : World} {lo : Nat} {ex ex' : Nat → Prop} {S : Nat → Value} {l : List Form} {top opn : List Int} (h : FT w lo ex S l top opn) (he : ∀ b, ex' b → ex b) : FT w lo ex' S l top opn :=
  ⟨h.forms, h.rows, h.out, h.apart, fun i b e => ⟨(h.low i b e).1, fun e2 => (h.low i b e).2 (he b e2)⟩, ⟨h.lows.1, fun b e => h.lows.2 b (he b e)⟩⟩
/-- A list of numbers has had one more put behind it: as long as nobody says so, all reads as it did. -/
theorem FT.grewI {w w' : World} {lo : Nat} {ex : Nat → Prop} {S : Nat → Value} {l : List Form} {top opn : List Int} (h : FT w lo ex S l top opn) {k : Nat} {m : List Int} {g cap : Nat} (hG : Grew w w' (S (k + 1)) 3 1 IntR (ints l top opn k) m g cap) : FT w' lo ex S l top opn := by
  have hne : ∀ i b, i ≠ k + 1 → (S i).ownBlock = some b → w'.heap[b]? = w.heap[b]? := fun i b hi e =>
    hG.grown.block b (h.lt i b e) (fun e2 => hi (h.apart i (k + 1) b e e2.symm))
  refine ⟨h.forms.imp (fun _ _ _ h => h) (fun g hg _ => hne 0 g (by omega) hg), fun j => ?_, h.out, h.apart, h.low, ⟨Nat.le_trans h.lows.1 hG.grown.size, fun b e => Nat.lt_of_lt_of_le (h.lows.2 b e) hG.grown.size⟩⟩
  by_cases hj : j = k
  · subst hj; exact hG.old
  · exact (h.rows j).imp (fun _ _ _ h => h) (fun g hg _ => hne (j + 1) g (by omega) hg)
theorem FT.grewF {w w' : World} {lo : Nat} {ex : Nat → Prop} {S : Nat → Value} {l : List Form} {top opn : List Int} (h : FT w lo ex S l top opn) {m : List (Form × Nat)} {g cap : Nat} (hG : Grew w w' (S 0) 93 5 (FormC S) l.zipIdx m g cap) : FT w' lo ex S l top opn := by
  refine ⟨hG.old, fun j => (h.rows j).imp (fun _ _ _ h => h) (fun b hb _ => ?_), h.out, h.apart, h.low, ⟨Nat.le_trans h.lows.1 hG.grown.size, fun b e => Nat.lt_of_lt_of_le (h.lows.2 b e) hG.grown.size⟩⟩
  exact hG.grown.block b (h.lt _ _ hb) (fun e2 => by have := h.apart (j + 1) 0 b hb e2.symm; omega)
/-- a list's slot gets another slice -/
theorem FT.slot {w : World} {lo : Nat} {ex : Nat → Prop} {S : Nat → Value} {l : List Form} {top opn : List Int} (h : FT w lo ex S l top opn) {v : Value} (k : Nat) (hk : k < 2) {m : List Int} (ho : IRow w v m)
    (hv : ∀ b, v.ownBlock = some b → (S (k + 1)).ownBlock = some b ∨ Fresh lo ex S b) : FT w lo ex (up S (k + 1) v) l (if k = 0 then m else top) (if k = 1 then m else opn) := by
  have hF : FormC (up S (k + 1) v) = FormC S := by
    funext x cs
    simp only [FormC, up]
    rw [if_neg (by omega)]
  refine ⟨?_, fun j => ?_, fun i hi => ?_, apart_up h.apart (fun b hb => (hv b hb).imp id (fun h => h.2.2)), fun i b hb => ?_, h.lows⟩
  · rw [hF]
    have : up S (k + 1) v 0 = S 0 := by simp [up]
    rw [this]; exact h.forms
  · by_cases hj : j = k
    · subst hj
      rw [show up S (j + 1) v (j + 1) = v by simp [up]]
      rcases (show j = 0 ∨ j = 1 by omega) with rfl | rfl
      · exact ho
      · exact ho
    · rw [show up S (k + 1) v (j + 1) = S (j + 1) by simp [up, hj]]
      have : ints l (if k = 0 then m else top) (if k = 1 then m else opn) j = ints l top opn j := by
        match j with
        | 0 => simp [ints]; intro e; omega
        | 1 => simp [ints]; intro e; omega
        | j + 2 => rfl
      rw [this]; exact h.rows j
  · rw [show up S (k + 1) v (i + 3) = S (i + 3) by unfold up; rw [if_neg (by omega)]]
    exact h.out i hi
  · unfold up at hb
    split at hb
    · rcases hv b hb with h1 | h1
      · exact h.low _ b h1
      · exact ⟨h1.1, h1.2.1⟩
    · exact h.low i b hb
theorem grew_fresh {w w' : World} {lo : Nat} {ex : Nat → Prop} {S : Nat → Value} {l : List Form} {top opn : List Int} (h : FT w lo ex S l top opn) {α : Type} {k e size : Nat} {R : α → List Value → Prop} {l0 m : List α} {g cap n : Nat} (hG : Grew w w' (S k) e size R l0 m g cap) :
    ∀ b, (Value.slice (some ⟨g, 0, none⟩) n cap).ownBlock = some b → (S k).ownBlock = some b ∨ Fresh lo ex S b := by
  intro b hb
  cases hb
  exact hG.lies.imp id (fun h2 => Fresh.of h h2)
/-- one more at the upper list, or at the list of open brackets -/
theorem FT.push {w w' : World} {lo : Nat} {ex : Nat → Prop} {S : Nat → Value} {l : List Form} {top opn : List Int} (h : FT w lo ex S l top opn) (k : Nat) (hk : k < 2) {m : List Int} {g cap : Nat} (hG : Grew w w' (S (k + 1)) 3 1 IntR (ints l top opn k) m g cap) :
    FT w' lo ex (up S (k + 1) (.slice (some ⟨g, 0, none⟩) m.length cap)) l (if k = 0 then m else top) (if k = 1 then m else opn) :=
  (h.grewI hG).slot k hk hG.own (fun b hb => by
    rcases grew_fresh h hG b hb with h1 | h1
    · exact .inl h1
    · exact .inr ⟨h1.1, h1.2.1, h1.2.2⟩)
/-- one form more -/
theorem FT.form {w w' : World} {lo : Nat} {ex : Nat → Prop} {S : Nat → Value} {l : List Form} {top opn : List Int} (h : FT w lo ex S l top opn) {f : Form} (hf : f.kids = []) {g cap : Nat} (hG : Grew w w' (S 0) 93 5 (FormC S) l.zipIdx (l.zipIdx ++ [(f, l.length)]) g cap) :
    FT w' lo ex (up S 0 (.slice (some ⟨g, 0, none⟩) (l.length + 1) cap)) (l ++ [f]) top opn := by
  have h' := h.grewF hG
  have hF : ∀ v, FormC (up S 0 v) = FormC S := by
    intro v; funext x cs
    simp only [FormC, up]
    rw [if_neg (by omega)]
  have hl : (l.zipIdx ++ [(f, l.length)]).length = l.length + 1 := by simp
  refine ⟨?_, fun j => ?_, fun i hi => ?_, apart_up h.apart (fun b hb => (grew_fresh h hG b hb).imp id (fun h => h.2.2)), fun i b hb => ?_, h'.lows⟩
  · rw [hF, show up S 0 (.slice (some ⟨g, 0, none⟩) (l.length + 1) cap) 0 = .slice (some ⟨g, 0, none⟩) (l.length + 1) cap by simp [up], ← hl]
    have hz : (l ++ [f]).zipIdx = l.zipIdx ++ [(f, l.length)] := by rw [List.zipIdx_append]; simp
    rw [hz]; exact hG.own
  · rw [show up S 0 (.slice (some ⟨g, 0, none⟩) (l.length + 1) cap) (j + 1) = S (j + 1) by simp [up]]
    have hr := h'.rows j
    match j, hr with
    | 0, hr => exact hr
    | 1, hr => exact hr
    | j + 2, hr =>
      have : ints (l ++ [f]) top opn (j + 2) = ints l top opn (j + 2) := by
        simp only [ints]
        rcases Nat.lt_trichotomy j l.length with hj | hj | hj
        · rw [nth_append_left hj]
        · subst hj
          rw [nth_append_last, hf, show nth l l.length = default by simp [nth]]
          rfl
        · rw [show nth (l ++ [f]) j = default by simp [nth, List.getElem?_eq_none (show (l ++ [f]).length ≤ j by simp; omega)], show nth l j = default by simp [nth, List.getElem?_eq_none (show l.length ≤ j by omega)]]
      rw [this]; exact hr
  · rw [show up S 0 (.slice (some ⟨g, 0, none⟩) (l.length + 1) cap) (i + 3) = S (i + 3) by simp [up]]
    exact h.out i (by simp at hi; omega)
  · unfold up at hb
    split at hb
    · rcases grew_fresh h hG b hb with h1 | h1
      · exact h.low 0 b h1
      · exact ⟨h1.1, h1.2.1⟩
    · exact h.low i b hb
/-! ### A cell of a row of one's own -/
theorem RowC.imp' {α : Type} [Inhabited α] {R R' : α → List Value → Prop} {l : List α} {xs : List Value} (h : RowC R l xs) (hR : ∀ i, i < l.length → ∀ cs, R (nth l i) cs → R' (nth l i) cs) : RowC R' l xs := by
  refine h.imp fun a cs ha hr => ?_
  obtain ⟨i, hi, rfl⟩ := List.getElem_of_mem ha
  have := hR i hi cs (by rw [nth_eq hi]; exact hr)
  rwa [nth_eq hi] at this
theorem RowC.setAt {α : Type} [Inhabited α] {R R' : α → List Value → Prop} {size : Nat} (hs : ∀ a cs, R a cs → cs.length = size) {a' : α} {c : Nat} {u : Value} (hc : c < size) {l : List α} {xs : List Value} (h : RowC R l xs) :
    ∀ j, j < l.length → (∀ cs, R (nth l j) cs → R' a' (cs.set c u)) → (∀ i, i < l.length → i ≠ j → ∀ cs, R (nth l i) cs → R' (nth l i) cs) → RowC R' (l.set j a') (xs.set (j * size + c) u) := by
  induction h with
  | nil => intro j hj; simp at hj
  | snoc h hr ih =>
    rename_i l xs a cs
    intro j hj h1 h2
    have hxl := h.len hs
    rcases Nat.lt_or_ge j l.length with hlt | hge
    · have hlt2 : j * size + c < xs.length := by
        rw [hxl]
        have := Nat.mul_le_mul_right size (show j + 1 ≤ l.length by omega)
        rw [Nat.add_mul] at this; omega
      rw [List.set_append, if_pos hlt, List.set_append, if_pos hlt2]
      refine .snoc (ih j hlt (fun cs hc => h1 cs (by rw [nth_append_left hlt]; exact hc)) (fun i hi hne cs hc => ?_)) ?_
      · have := h2 i (by simp; omega) hne cs (by rw [nth_append_left hi]; exact hc)
        rwa [nth_append_left hi] at this
      · have := h2 l.length (by simp) (by omega) cs (by rw [nth_append_last]; exact hr)
        rwa [nth_append_last] at this
    · have hj' : j = l.length := by simp at hj; omega
      subst hj'
      rw [List.set_append, if_neg (by omega), List.set_append, if_neg (by rw [hxl]; omega), hxl]
      rw [show l.length - l.length = 0 by omega, show l.length * size + c - l.length * size = c by omega]
      refine .snoc (h.imp' fun i hi cs hc => ?_) ?_
      · have := h2 i (by simp; omega) (by omega) cs (by rw [nth_append_left hi]; exact hc)
        rwa [nth_append_left hi] at this
      · exact h1 cs (by rw [nth_append_last]; exact hr)
theorem Own.setAt {α : Type} [Inhabited α] {w : World} {e size : Nat} {R R' : α → List Value → Prop} {g n cap : Nat} {l : List α} (hs : ∀ a cs, R a cs → cs.length = size) (h : Own w e size R (.slice (some ⟨g, 0, none⟩) n cap) l) {j c : Nat} (hj : j < l.length) (hc : c < size) {a' : α} (u : Value)
    (h1 : ∀ cs, R (nth l j) cs → R' a' (cs.set c u)) (h2 : ∀ i, i < l.length → i ≠ j → ∀ cs, R (nth l i) cs → R' (nth l i) cs) : Own (w.setCell ⟨g, j * size + c, none⟩ u) e size R' (.slice (some ⟨g, 0, none⟩) n cap) (l.set j a') := by
  obtain ⟨xs, ho, hx⟩ := h.out
  have hxl := hx.len hs
  rcases ho.2 with ⟨h3, _⟩ | ⟨g', cap', cur, hv, hb, hg, hn, hm, hcs, htk⟩
  · cases h3
  · cases hv
    have hlt : j * size + c < l.length * size := by
      have := Nat.mul_le_mul_right size (show j + 1 ≤ l.length by omega)
      rw [Nat.add_mul] at this; omega
    refine ⟨xs.set (j * size + c) u, ⟨by simpa using ho.1, .inr ⟨g, cap, cur.setIfInBounds (j * size + c) u, by simp, Nat.zero_le _, blk_set hg u, by simpa using hn, hm, by simpa using hcs, ?_⟩⟩, hx.setAt hs hc j hj h1 h2⟩
    rw [Array.toList_setIfInBounds, List.length_set, ← htk, List.take_set]
instance : Inhabited (Form × Nat) := ⟨(default, 0)⟩
theorem nth_zipIdx {l : List Form} {i : Nat} (h : i < l.length) : nth l.zipIdx i = (nth l i, i) := by
  rw [nth_eq (by simpa using h), nth_eq h]; simp
theorem zipIdx_set {l : List Form} {j : Nat} {f : Form} : (l.set j f).zipIdx = l.zipIdx.set j (f, j) := by
  apply List.ext_getElem?
  intro i
  simp only [List.getElem?_zipIdx, List.getElem?_set, List.length_zipIdx]
  by_cases h : j = i
  · subst h; by_cases h2 : j < l.length <;> simp [h2]
  · simp [h]
/-- A form's kids are another list. -/
theorem FT.kid {w : World} {lo : Nat} {ex : Nat → Prop} {S : Nat → Value} {l : List Form} {top opn : List Int} (h : FT w lo ex S l top opn) {j : Nat} (hj : j < l.length) {v : Value} {m : List Int} (ho : IRow w v m)
    (hv : ∀ b, v.ownBlock = some b → (S (j + 3)).ownBlock = some b ∨ Fresh lo ex S b) {g n cap : Nat} (h0 : S 0 = .slice (some ⟨g, 0, none⟩) n cap) :
    FT (w.setCell ⟨g, j * 5 + 3, none⟩ v) lo ex (up S (j + 3) v) (l.set j { nth l j with kids := m }) top opn := by
  have hne : ∀ i, i ≠ 0 → (S i).ownBlock ≠ some g := fun i hi e => hi (h.apart i 0 g e (by rw [h0]; rfl))
  have hvg : v.ownBlock ≠ some g := fun e => by
    rcases hv g e with h1 | h1
    · exact hne _ (by omega) h1
    · exact h1.2.2 0 (by rw [h0]; rfl)
  refine ⟨?_, fun k => ?_, fun i hi => ?_, apart_up h.apart (fun b hb => (hv b hb).imp id (fun h => h.2.2)), fun i b hb => ?_, by simpa using h.lows⟩
  · rw [show up S (j + 3) v 0 = S 0 by simp [up], zipIdx_set, h0]
    have hf := h.forms
    rw [h0] at hf
    refine hf.setAt (fun _ _ h => h.len) (by simpa using hj) (by omega) v (fun cs hc => ?_) (fun i hi hij cs hc => ?_)
    · rw [nth_zipIdx hj] at hc
      have hc' : cs = (nth l j).cells (S (j + 3)) := hc
      subst hc'
      simp [FormC, Form.cells, up]
    · have hi' : i < l.length := by simpa using hi
      rw [nth_zipIdx hi'] at hc ⊢
      have hc' : cs = (nth l i).cells (S (i + 3)) := hc
      subst hc'
      simp [FormC, up, hij]
  · by_cases hk : k = j + 2
    · subst hk
      rw [show up S (j + 3) v (j + 2 + 1) = v by simp [up]]
      have : ints (l.set j { nth l j with kids := m }) top opn (j + 2) = m := by
        simp only [ints]
        rw [nth_set hj, if_pos rfl]
      rw [this]
      exact ho.setCell _ _ hvg
    · rw [show up S (j + 3) v (k + 1) = S (k + 1) by simp [up]; omega]
      have : ints (l.set j { nth l j with kids := m }) top opn k = ints l top opn k := by
        match k with
        | 0 => rfl
        | 1 => rfl
        | k + 2 =>
          simp only [ints]
          by_cases hkl : k < l.length
          · rw [nth_set hkl, if_neg (by omega)]
          · rw [show nth l k = default by simp [nth, List.getElem?_eq_none (show l.length ≤ k by omega)], show nth (l.set j { nth l j with kids := m }) k = default by
              unfold nth
              rw [List.getD_eq_getElem?_getD, List.getElem?_eq_none (by simp; omega)]; rfl]
      rw [this]
      exact (h.rows k).setCell _ _ (hne _ (by omega))
  · rw [show up S (j + 3) v (i + 3) = S (i + 3) by unfold up; rw [if_neg]; simp at hi; omega]
    exact h.out i (by simpa using hi)
  · unfold up at hb
    split at hb
    · rcases hv b hb with h1 | h1
      · exact h.low _ b h1
      · exact ⟨h1.1, h1.2.1⟩
    · exact h.low i b hb
/-! ### A row cut off -/
theorem RowC.take {α : Type} {R : α → List Value → Prop} {size : Nat} (hs : ∀ a cs, R a cs → cs.length = size) {l : List α} {xs : List Value} (h : RowC R l xs) : ∀ m, m ≤ l.length → RowC R (l.take m) (xs.take (m * size)) := by
  induction h with
  | nil => intro m hm; simp at hm; subst hm; simp; exact .nil
  | snoc h hr ih =>
    rename_i l xs a cs
    intro m hm
    have hxl := h.len hs
    rcases Nat.lt_or_ge l.length m with hlt | hge
    · have hm' : m = l.length + 1 := by simp at hm; omega
      subst hm'
      rw [List.take_of_length_le (by simp), List.take_of_length_le (by simp [hxl, hs _ _ hr, Nat.add_mul])]
      exact .snoc h hr
    · rw [List.take_append_of_le_length hge, List.take_append_of_le_length (by rw [hxl]; exact Nat.mul_le_mul_right _ hge)]
      exact ih m hge
theorem Own.cut {α : Type} {w : World} {e size : Nat} {R : α → List Value → Prop} (hs : ∀ a cs, R a cs → cs.length = size) {g n cap m : Nat} {l : List α} (h : Own w e size R (.slice (some ⟨g, 0, none⟩) n cap) l) (hm : m ≤ l.length) : Own w e size R (.slice (some ⟨g, 0, none⟩) m cap) (l.take m) := by
  obtain ⟨xs, ho, hc⟩ := h.out
  have hxl := hc.len hs
  rcases ho.2 with ⟨h1, _⟩ | ⟨g', cap', cur, hv, hb, hg, hn, hcm, hcs, htk⟩
  · cases h1
  · cases hv
    have hlm : (l.take m).length = m := by simp; omega
    refine ⟨xs.take (m * size), ⟨by rw [List.length_take, hxl, List.length_take, Nat.min_eq_left hm, Nat.min_eq_left (Nat.mul_le_mul_right _ hm)], .inr ⟨g, cap, cur, by rw [hlm], Nat.zero_le _, hg, by omega, hcm, hcs, ?_⟩⟩, hc.take hs m hm⟩
    rw [hlm, ← htk, List.take_take, Nat.min_eq_left (Nat.mul_le_mul_right _ hm)]
end Go.Proofs.Ytgaginegcjpddaa
