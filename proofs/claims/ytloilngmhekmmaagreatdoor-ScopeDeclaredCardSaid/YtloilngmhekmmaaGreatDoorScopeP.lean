/- Fresh names, in plain words. No program in sight. -/
import Derived.Test.YtloilngmhekmmaaGreatDoorScope2
import Derived.Lib.ItoaNum
import Derived.Lib.ItoaMem
set_option linter.unusedVariables false
set_option linter.unusedSimpArgs false
namespace Go.Proofs.YtloilngmhekmmaaGreatDoor
open Go.RowKit
/-! ### digits -/
def valD (l : List UInt8) : Nat := l.foldl (fun a d => 10 * a + (d.toNat - 48)) 0
theorem valD_snoc (l : List UInt8) (d : UInt8) : valD (l ++ [d]) = 10 * valD l + (d.toNat - 48) := by simp [valD, List.foldl_append]
theorem dig_toNat (r : Nat) (h : r < 10) : (UInt8.ofNat (48 + r)).toNat = 48 + r := by simp; omega
theorem valD_dec : ∀ u : Nat, valD (Lib.decDigits u) = u := by
  intro u
  induction u using Nat.strongRecOn with
  | _ u ih =>
    rw [Lib.decDigits]
    split
    · rename_i h
      show 10 * 0 + ((UInt8.ofNat (48 + u)).toNat - 48) = u
      rw [dig_toNat u h]; omega
    · rename_i h
      rw [valD_snoc, ih (u / 10) (by omega), dig_toNat _ (Nat.mod_lt _ (by omega))]
      omega
theorem dec_inj {u v : Nat} (h : Lib.decDigits u = Lib.decDigits v) : u = v := by rw [← valD_dec u, h, valD_dec]
theorem dec_digit : ∀ (u : Nat), ∀ d ∈ Lib.decDigits u, 48 ≤ d.toNat ∧ d.toNat ≤ 57 := by
  intro u
  induction u using Nat.strongRecOn with
  | _ u ih =>
    intro d hd
    rw [Lib.decDigits] at hd
    split at hd
    · rename_i h
      simp only [List.mem_singleton] at hd
      subst hd
      rw [dig_toNat u h]; omega
    · rename_i h
      rw [List.mem_append, List.mem_singleton] at hd
      rcases hd with hd | rfl
      · exact ih (u / 10) (by omega) d hd
      · rw [dig_toNat _ (Nat.mod_lt _ (by omega))]; omega
theorem dec_len : ∀ (k u : Nat), u < 10 ^ (k + 1) → (Lib.decDigits u).length ≤ k + 1
  | 0, u, h => by rw [Lib.decDigits, dif_pos (by simpa using h)]; simp
  | k + 1, u, h => by
    rw [Lib.decDigits]
    split
    · simp
    · have := dec_len k (u / 10) (by rw [Nat.pow_succ] at h; omega)
      simp; omega
/-! ### the names -/
def qS (i : Nat) : ByteArray := ⟨(113 :: Lib.decDigits i).toArray⟩
theorem qS_inj {i j : Nat} (h : qS i = qS j) : i = j := by
  simp only [qS, ByteArray.mk.injEq] at h
  have h2 := congrArg Array.toList h
  simp only [List.cons.injEq, true_and] at h2
  exact dec_inj h2
theorem nameC_digits : ∀ (l : List UInt8), (∀ d ∈ l, 48 ≤ d.toNat ∧ d.toNat ≤ 57) → nameC false l = true
  | [], _ => rfl
  | d :: l, h => by
    have h0 := h d (by simp)
    have hd : digitC d.toNat = true := by simp [digitC]; omega
    simp only [nameC, hd, Bool.not_false, Bool.true_and, Bool.or_true]
    exact nameC_digits l (fun x hx => h x (by simp [hx]))
theorem qS_size (i : Nat) : (qS i).size = (Lib.decDigits i).length + 1 := by show (113 :: Lib.decDigits i).toArray.size = _; simp
theorem qS_name {i : Nat} (h : i < 10000000) : nameS (qS i) = true := by
  have hl := dec_len 6 i (by simpa using h)
  have h1 : 1 ≤ (qS i).size ∧ (qS i).size ≤ 8 := by rw [qS_size]; omega
  unfold nameS
  rw [decide_eq_true h1]
  have : (qS i).data.toList = 113 :: Lib.decDigits i := by simp [qS]
  rw [this]
  show (true && ((letterC (113 : UInt8).toNat || (!true && digitC (113 : UInt8).toNat)) && nameC false (Lib.decDigits i))) = true
  rw [nameC_digits _ (dec_digit i)]
  rfl
def taken (l : List DeclM) (s : ByteArray) : Bool := l.any (fun d => decide (d.name = s))
def outS (l : List DeclM) (n : Nat) : List ByteArray := ((List.range n).filter (fun i => !taken l (qS i))).map qS
theorem outS_succ (l : List DeclM) (n : Nat) : outS l (n + 1) = if taken l (qS n) then outS l n else outS l n ++ [qS n] := by
  unfold outS
  rw [List.range_succ, List.filter_append, List.map_append]
  cases h : taken l (qS n) <;> simp [h]
theorem nodup_sub {α : Type} [DecidableEq α] : ∀ (xs ys : List α), xs.Nodup → (∀ x ∈ xs, x ∈ ys) → xs.length ≤ ys.length
  | [], ys, _, _ => by simp
  | x :: xs, ys, hn, hs => by
    rw [List.nodup_cons] at hn
    have hx : x ∈ ys := hs x (by simp)
    have ih := nodup_sub xs (ys.erase x) hn.2 (fun z hz => by
      have hne : z ≠ x := by rintro rfl; exact hn.1 hz
      rw [List.mem_erase_of_ne hne]
      exact hs z (by simp [hz]))
    rw [List.length_erase_of_mem hx] at ih
    have := List.length_pos_of_mem hx
    simp only [List.length_cons]; omega
theorem nodup_mapq {l : List Nat} (h : l.Nodup) : (l.map qS).Nodup := by
  induction l with
  | nil => simp
  | cons x l ih =>
    rw [List.nodup_cons] at h
    rw [List.map_cons, List.nodup_cons]
    refine ⟨fun hm => ?_, ih h.2⟩
    obtain ⟨y, hy, he⟩ := List.mem_map.1 hm
    rw [qS_inj he] at hy
    exact h.1 hy
theorem outS_nodup (l : List DeclM) (n : Nat) : (outS l n).Nodup := nodup_mapq (List.nodup_range.filter _)
/-- among n of them at most as many are taken as there are declarations -/
theorem outS_count (l : List DeclM) (n : Nat) : n ≤ (outS l n).length + l.length := by
  have h1 : ((List.range n).filter (fun i => taken l (qS i))).length ≤ l.length := by
    have := nodup_sub (((List.range n).filter (fun i => taken l (qS i))).map qS) (l.map (·.name)) (nodup_mapq (List.nodup_range.filter _)) (fun x hx => by
      obtain ⟨i, hi, rfl⟩ := List.mem_map.1 hx
      rw [List.mem_filter] at hi
      obtain ⟨d, hd, he⟩ := List.any_eq_true.1 hi.2
      rw [List.mem_map]
      exact ⟨d, hd, by simpa using he⟩)
    simpa using this
  have h2 : ((List.range n).filter (fun i => taken l (qS i))).length + ((List.range n).filter (fun i => !taken l (qS i))).length = n := by
    have : ∀ (xs : List Nat), (xs.filter (fun i => taken l (qS i))).length + (xs.filter (fun i => !taken l (qS i))).length = xs.length := by
      intro xs
      induction xs with
      | nil => rfl
      | cons x xs ih =>
        simp only [List.filter_cons]
        cases taken l (qS x) <;> simp <;> omega
    simpa using this (List.range n)
  unfold outS
  rw [List.length_map]
  omega
theorem outS_at {l : List DeclM} {n k : Nat} (h : k < (outS l n).length) : ∃ i, i < n ∧ nth (outS l n) k = qS i ∧ taken l (qS i) = false := by
  have hm := nth_mem h
  unfold outS at hm
  obtain ⟨i, hi, he⟩ := List.mem_map.1 hm
  rw [List.mem_filter, List.mem_range] at hi
  exact ⟨i, hi.1, by unfold outS; exact he.symm, by simpa using hi.2⟩
theorem outS_ne {l : List DeclM} {n j k : Nat} (hk : k < (outS l n).length) (hj : j < k) : nth (outS l n) j ≠ nth (outS l n) k := by
  have hn := outS_nodup l n
  rw [nth_eq (by omega), nth_eq hk]
  intro he
  have := (List.getElem_inj hn).1 he
  omega
theorem kind_free {l : List DeclM} {s : ByteArray} (h : taken l s = false) (side : Int) : kindS s side l = 0 := by
  apply findS_none
  intro k hk
  unfold hitS
  have : ¬ (nth l k).name = s := by
    intro he
    have : taken l s = true := List.any_eq_true.2 ⟨nth l k, nth_mem hk, by simpa using he⟩
    rw [h] at this; cases this
  rw [decide_eq_false this]; rfl
end Go.Proofs.YtloilngmhekmmaaGreatDoor
