/- What the program's num.Digits and num.Parse come to. -/
import Derived.Test.YtloilngmhekmmaaGreatDoorProg
import Derived.Test.YtloilngmhekmmaaGreatDoorLib
import Derived.Lib.ItoaNum
import Derived.Laws.BytesArg
set_option linter.unusedVariables false
set_option linter.unusedSimpArgs false
namespace Go.Proofs.YtloilngmhekmmaaGreatDoor
open Go.RowKit
/-- a number that a word's size bounds -/
def Word64 (U : Nat) : Prop := U ≤ 9223372036854775808
theorem dig_bound {U k : Nat} (h : Word64 U) (hk : k = 0 ∨ U / 10 ^ k ≠ 0) : k ≤ 18 := by
  rcases hk with hk | hk
  · omega
  · rcases Nat.lt_or_ge k 19 with h1 | h1
    · omega
    · exfalso; apply hk
      have h2 : (10 : Nat) ^ 19 ≤ 10 ^ k := Nat.pow_le_pow_right (by omega) h1
      have h3 : (10 : Nat) ^ 19 = 10000000000000000000 := by decide
      unfold Word64 at h
      exact Nat.div_eq_of_lt (by omega)
theorem word_wrap {U : Nat} (h : Word64 U) : IntKind.u64.wrap (U : Int) = U := by
  unfold Word64 at h; simp [IntKind.wrap, IntKind.signed, IntKind.bits]; omega
theorem word_neg {U : Nat} (h0 : 0 < U) (h : Word64 U) : IntKind.u64.wrap (-IntKind.u64.wrap (-(U : Int))) = U := by
  unfold Word64 at h
  simp [IntKind.wrap, IntKind.signed, IntKind.bits]; omega
theorem word_div {U k : Nat} (h : Word64 U) : Word64 (U / 10 ^ k) := Nat.le_trans (Nat.div_le_self _ _) h
/-- a's digits, as cells of a buffer from a place on -/
def Tail (cs : Array Value) (p : Nat) (l : List UInt8) : Prop := cs.size = p + l.length ∧ ∀ i, i < l.length → cs[p + i]? = some (.int .u8 ((nth l i).toNat : Int))
theorem Tail.cons {cs : Array Value} {p : Nat} {l : List UInt8} (h : Tail cs (p + 1) l) (c : UInt8) (x : Int) (hx : x = (c.toNat : Int)) : Tail (cs.setIfInBounds p (.int .u8 x)) p (c :: l) := by
  subst hx
  refine ⟨by simp only [Array.size_setIfInBounds, List.length_cons, h.1]; omega, fun i hi => ?_⟩
  have hp : p < cs.size := by rw [h.1]; omega
  rcases i with _ | i
  · simp [nth, hp]
  · have := h.2 i (by simpa using hi)
    rw [show p + (i + 1) = p + 1 + i by omega, Array.getElem?_setIfInBounds_ne (by omega), this]
    simp [nth]
theorem Tail.nil (cs : Array Value) : Tail cs cs.size [] := ⟨by simp, fun i hi => by simp at hi⟩
theorem Tail.conv {P : Program} {src dst e t : TypeId} {cs : Array Value} {p : Nat} {l : List UInt8} (h : Tail cs p l) (hs : P.underlying src = some (.slice e)) (he : P.underlying e = some (.int .u8)) (hd : P.underlying dst = some .string) (w : World) (m c : Nat) (hm : m = l.length) :
    (convert src dst (.slice (some ⟨w.heap.size, p, none⟩) m c)).run P (w.alloc (.cells cs t)) = .ok (.string ⟨l.toArray⟩) (w.alloc (.cells cs t)) := by
  subst hm
  have key := run_convert_bytes_arg (P := P) (w.alloc (.cells cs t)) src e hs he w.heap.size p l.length c (l.map fun b => (b.toNat : Int)) (by simp) (fun i hi => by
    rw [World.cell?_alloc_new, h.2 i hi]
    simp [nth, hi]) dst hd
  rw [key]
  congr 2
  have : (l.map ((fun n : Int => UInt8.ofNat n.toNat) ∘ fun b : UInt8 => (b.toNat : Int))) = l := by
    conv => rhs; rw [← List.map_id l]
    exact List.map_congr_left fun b _ => by simp
  simp [strOfNums, List.map_map, this]
theorem arr_slice {P : Program} {t e n : Nat} {i : TypeInfo} (ht : P.underlying t = some (.array n e)) (hi : P.info? e = some i) (hs : i.size = 1) (b l : Nat) (hl : l < n) (W : World) :
    (Instr.sliceAt t (.pointer (some ⟨b, 0, none⟩)) (some (.int .i64 (l : Int))) none none).run P W = .ok (.slice (some ⟨b, l, none⟩) (n - l) (n - l)) W := by
  have h1 : P.elem t = e := by simp [Program.elem, ht]
  have h2 : P.arrayLen t = n := by simp [Program.arrayLen, ht]
  rw [run_sliceAt_array_l W t ⟨b, 0, none⟩ (by rw [h1, h2]; exact ht) .i64 l (by omega) (by rw [h2]; omega)]
  simp [h1, h2, sizeOf, typeInfo, hi, hs, slicedAt, Result.andThen, show n ≠ l by omega, add_plain']
def buf20 : Array Value := Array.replicate 20 (.int .u8 0)
/-- the digits of U's k last places -/
def lastDigs (U : Nat) : Nat → List UInt8
  | 0 => []
  | k + 1 => Lib.dg U k :: lastDigs U k
theorem lastDigs_length (U k : Nat) : (lastDigs U k).length = k := by induction k <;> simp [lastDigs, *]
theorem lastDigs_get (U k i : Nat) (h : i < k) : (lastDigs U k)[i]? = some (Lib.dg U (k - 1 - i)) := by
  induction k generalizing i with
  | zero => omega
  | succ k ih =>
    rcases i with _ | i
    · simp [lastDigs]
    · simp only [lastDigs, List.getElem?_cons_succ]
      rw [ih i (by omega)]
      congr 2; omega
theorem lastDigs_all (U k : Nat) (h : k = 0 ∨ U / 10 ^ k ≠ 0) (h2 : U / 10 ^ (k + 1) = 0) : lastDigs U (k + 1) = Lib.decDigits U := by
  have hn : Lib.nDigits U = k + 1 := by
    have hlt : U < 10 ^ (k + 1) := by
      rcases Nat.lt_or_ge U (10 ^ (k + 1)) with h3 | h3
      · exact h3
      · exfalso; have := (Nat.div_pos_iff).2 ⟨Nat.pow_pos (show 0 < 10 by omega), h3⟩; omega
    rcases h with rfl | h
    · exact Lib.nDigits_small (by simpa using hlt)
    · refine Lib.nDigits_unique k U ?_ hlt
      rcases Nat.lt_or_ge U (10 ^ k) with h3 | h3
      · exact absurd (Nat.div_eq_of_lt h3) h
      · exact h3
  rw [Lib.decDigits_eq, hn]
  apply List.ext_getElem?
  intro i
  rcases Nat.lt_or_ge i (k + 1) with hi | hi
  · rw [lastDigs_get _ _ _ hi]; simp [hi]
  · rw [List.getElem?_eq_none (by rw [lastDigs_length]; omega), List.getElem?_eq_none (by simp; omega)]
theorem dg_num (U j : Nat) : ((Lib.dg U j).toNat : Int) = 48 + ((U / 10 ^ j % 10 : Nat) : Int) := by
  unfold Lib.dg
  have : U / 10 ^ j % 10 < 10 := Nat.mod_lt _ (by omega)
  rw [UInt8.toNat_ofNat', Nat.mod_eq_of_lt (by omega)]
  omega
theorem und184 : Tryz.prog.underlying 184 = some (.array 20 5) := by kernel_rfl
theorem info5 : (Tryz.prog.info? 5).map (fun i => i.size) = some 1 := by kernel_rfl
def DigInv (w : World) (U k : Nat) (wr : World) : Prop := ∃ cs : Array Value, wr = w.alloc (.cells cs 184) ∧ Tail cs (20 - k) (lastDigs U k)
theorem div_succ (U k : Nat) : U / 10 ^ (k + 1) = U / 10 ^ k / 10 := by rw [Nat.pow_succ, Nat.div_div_eq_div_mul]
set_option maxRecDepth 100000 in
set_option maxHeartbeats 400000 in
theorem digits_pos (U : Nat) (w : World) (hU : Word64 U) : Calls Tryz.prog 76 #[.int .i64 U] w fun e w' => e = .returned (.string ⟨(Lib.itoa U).toArray⟩) ∧ Below w.heap.size w w' := by
  obtain ⟨i5, hi5, hs5⟩ := Option.map_eq_some_iff.1 info5
  have hw := word_wrap hU
  have hneg : ¬ (U : Int) < 0 := by omega
  have hit : Lib.itoa (U : Int) = Lib.decDigits U := by simp [Lib.itoa, hneg]
  rw [hit]; clear hit
  go_enter Tryz.func76, Tryz.ntmps76
  go_wp2
  clear hw
  go_loopw [4, 5] (fun t4 t5 wr => ∃ k : Nat, t4 = .int .i64 (20 - (k : Int)) ∧ t5 = .int .u64 ((U / 10 ^ k : Nat) : Int) ∧ (k = 0 ∨ U / 10 ^ k ≠ 0) ∧ DigInv w U k wr) (fun t4 _ _ => (intOf t4).toNat)
  case atStart => exact ⟨0, by simp, by simp, by simp, buf20, rfl, Tail.nil _⟩
  case round =>
    obtain ⟨k, rfl, rfl, hk0, cs, rfl, htail⟩ := hrel
    have hk := dig_bound hU hk0
    have hu := word_div (k := k) hU
    have ht1 : Tail cs (20 - k - 1 + 1) (lastDigs U k) := by rw [show 20 - k - 1 + 1 = 20 - k by omega]; exact htail
    have ht2 := ht1.cons (Lib.dg U k) (48 + ((U / 10 ^ k : Nat) : Int) % 10) (by rw [dg_num]; omega)
    obtain ⟨old, hold⟩ : ∃ v, cs[20 - k - 1]? = some v := ⟨cs[20 - k - 1]'(by rw [ht1.1]; omega), Array.getElem?_eq_getElem _⟩
    have hsl := arr_slice und184 hi5 hs5 w.heap.size (20 - k - 1) (by omega)
    have hcv := ht2.conv (P := Tryz.prog) (src := 124) (dst := 9) (e := 5) (t := 184) Tryz.underlying124 Tryz.underlying5 Tryz.underlying9 w (20 - (20 - k - 1)) (20 - (20 - k - 1)) (by simp [lastDigs_length]; omega)
    have hcast : (20 : Int) - (k : Int) - 1 = ((20 - k - 1 : Nat) : Int) := by omega
    rw [← hcast] at hsl
    clear hcast
    generalize hu' : U / 10 ^ k = u at *
    have hu1 : (u : Int) ≤ 9223372036854775808 := by unfold Word64 at hu; omega
    have HU' := hid hu'
    have HT2 := hid ht2
    have HK0 := hid hk0
    clear hu' hk0 hu ht2 ht1 htail
    go_wp2
    · have hz : u / 10 = 0 := by
        have h : ((u : Int) / 10 == 0) = true := by assumption
        have h2 := of_decide_eq_true h
        omega
      go_ret
      refine ⟨?_, (Below.refl _ _).alloc (Nat.le_refl _) _⟩
      have hl := lastDigs_all U k (HK0.out.imp id (fun h => by rw [HU'.out]; exact h)) (by rw [div_succ, HU'.out]; exact hz)
      rw [← hl]
      rfl
    · have hz : u / 10 ≠ 0 := by
        have h : ((u : Int) / 10 == 0) = false := by assumption
        intro e
        have h2 := of_decide_eq_false h
        omega
      go_roundw
      case rel =>
        refine ⟨k + 1, by go_num, ?_, .inr (by rw [div_succ, HU'.out]; exact hz), _, rfl, ?_⟩
        · rw [div_succ, HU'.out]; go_num
        · rw [show 20 - (k + 1) = 20 - k - 1 by omega]; exact HT2.out
      case measure => simp [intOf]; omega
set_option maxRecDepth 100000 in
set_option maxHeartbeats 400000 in
theorem digits_neg (U : Nat) (w : World) (hU : Word64 U) (h0 : 0 < U) : Calls Tryz.prog 76 #[.int .i64 (-(U : Int))] w fun e w' => e = .returned (.string ⟨(Lib.itoa (-(U : Int))).toArray⟩) ∧ Below w.heap.size w w' := by
  obtain ⟨i5, hi5, hs5⟩ := Option.map_eq_some_iff.1 info5
  have hw := word_neg h0 hU
  have hneg : -(U : Int) < 0 := by omega
  have hit : Lib.itoa (-(U : Int)) = 45 :: Lib.decDigits U := by unfold Lib.itoa; rw [if_pos hneg]; simp
  rw [hit]; clear hit
  go_enter Tryz.func76, Tryz.ntmps76
  go_wp2
  clear hw
  go_loopw [4, 5] (fun t4 t5 wr => ∃ k : Nat, t4 = .int .i64 (20 - (k : Int)) ∧ t5 = .int .u64 ((U / 10 ^ k : Nat) : Int) ∧ (k = 0 ∨ U / 10 ^ k ≠ 0) ∧ DigInv w U k wr) (fun t4 _ _ => (intOf t4).toNat)
  case atStart => exact ⟨0, by simp, by simp, by simp, buf20, rfl, Tail.nil _⟩
  case round =>
    obtain ⟨k, rfl, rfl, hk0, cs, rfl, htail⟩ := hrel
    have hk := dig_bound hU hk0
    have hu := word_div (k := k) hU
    have ht1 : Tail cs (20 - k - 1 + 1) (lastDigs U k) := by rw [show 20 - k - 1 + 1 = 20 - k by omega]; exact htail
    have ht2 := ht1.cons (Lib.dg U k) (48 + ((U / 10 ^ k : Nat) : Int) % 10) (by rw [dg_num]; omega)
    obtain ⟨old, hold⟩ : ∃ v, cs[20 - k - 1]? = some v := ⟨cs[20 - k - 1]'(by rw [ht1.1]; omega), Array.getElem?_eq_getElem _⟩
    have ht3 := Tail.cons (p := 20 - k - 1 - 1) (by rw [show 20 - k - 1 - 1 + 1 = 20 - k - 1 by omega]; exact ht2) 45 45 rfl
    obtain ⟨old2, hold2⟩ : ∃ v, (cs.setIfInBounds (20 - k - 1) (.int .u8 (48 + ((U / 10 ^ k : Nat) : Int) % 10)))[20 - k - 1 - 1]? = some v := ⟨_, Array.getElem?_eq_getElem (by simp [ht1.1]; omega)⟩
    have hsl := arr_slice und184 hi5 hs5 w.heap.size (20 - k - 1 - 1) (by omega)
    have hcv := ht3.conv (P := Tryz.prog) (src := 124) (dst := 9) (e := 5) (t := 184) Tryz.underlying124 Tryz.underlying5 Tryz.underlying9 w (20 - (20 - k - 1 - 1)) (20 - (20 - k - 1 - 1)) (by simp [lastDigs_length]; omega)
    have hcast : (20 : Int) - (k : Int) - 1 - 1 = ((20 - k - 1 - 1 : Nat) : Int) := by omega
    rw [← hcast] at hsl
    clear hcast
    generalize hu' : U / 10 ^ k = u at *
    have hu1 : (u : Int) ≤ 9223372036854775808 := by unfold Word64 at hu; omega
    have HU' := hid hu'
    have HT2 := hid ht2
    have HK0 := hid hk0
    clear hu' hk0 hu ht2 ht1 ht3 htail
    go_wp2
    · have hz : u / 10 = 0 := by
        have h : ((u : Int) / 10 == 0) = true := by assumption
        have h2 := of_decide_eq_true h
        omega
      go_ret
      refine ⟨?_, (Below.refl _ _).alloc (Nat.le_refl _) _⟩
      have hl := lastDigs_all U k (HK0.out.imp id (fun h => by rw [HU'.out]; exact h)) (by rw [div_succ, HU'.out]; exact hz)
      rw [← hl]
      rfl
    · have hz : u / 10 ≠ 0 := by
        have h : ((u : Int) / 10 == 0) = false := by assumption
        intro e
        have h2 := of_decide_eq_false h
        omega
      go_roundw
      case rel =>
        refine ⟨k + 1, by go_num, ?_, .inr (by rw [div_succ, HU'.out]; exact hz), _, rfl, ?_⟩
        · rw [div_succ, HU'.out]; go_num
        · rw [show 20 - (k + 1) = 20 - k - 1 by omega]; exact HT2.out
      case measure => simp [intOf]; omega
theorem digits_any (a : Int) (w : World) (h0 : -9223372036854775808 ≤ a) (h1 : a ≤ 9223372036854775807) : Calls Tryz.prog 76 #[.int .i64 a] w fun e w' => e = .returned (.string ⟨(Lib.itoa a).toArray⟩) ∧ Below w.heap.size w w' := by
  rcases Int.lt_or_le a 0 with h | h
  · obtain ⟨U, rfl⟩ : ∃ U : Nat, a = -(U : Int) := ⟨a.natAbs, by omega⟩
    exact digits_neg U w (by unfold Word64; omega) (by omega)
  · obtain ⟨U, rfl⟩ := Int.eq_ofNat_of_zero_le h
    exact digits_pos U w (by unfold Word64; omega)
end Go.Proofs.YtloilngmhekmmaaGreatDoor
