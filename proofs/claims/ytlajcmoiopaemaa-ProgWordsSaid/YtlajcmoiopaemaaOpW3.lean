/- The operation of a word: the program's. -/
import Derived.Test.YtlajcmoiopaemaaMaps1
import Derived.Test.YtlajcmoiopaemaaOpW2
set_option linter.unusedVariables false
set_option linter.unusedSimpArgs false
namespace Go.Proofs.Ytlajcmoiopaemaa
open Go.RowKit
theorem ret_two {k : IntKind} {a b : Int} {c d : Bool} (h : (a, c) = (b, d)) : Ending.returned (.tuple #[.int k a, .bool c]) = .returned (.tuple #[.int k b, .bool d]) := by cases h; rfl
theorem ty_opmap : SMapTy Try.prog 37 9 22 := ⟨Try.underlying37, Try.underlying9, Try.underlying22⟩
def opEs : Nat → List (ByteArray × Int)
  | 0 => []
  | k + 1 => (nth opWords k, (k : Int)) :: opEs k
theorem opEs_len : ∀ k, (opEs k).length = k
  | 0 => rfl
  | k + 1 => by simp [opEs, opEs_len k]
theorem opLook (s : ByteArray) : readOpS s = ((lookR (opEs 20) s).getD 0, (lookR (opEs 20) s).isSome && (lookR (opEs 20) s).getD 0 != 0) := by
  simp only [readOpS, readGo, opEs, lookR]
  by_cases h19 : nth opWords 19 = s
  · subst h19; rfl
  rw [if_neg h19]
  by_cases h18 : nth opWords 18 = s
  · subst h18; rfl
  rw [if_neg h18]
  by_cases h17 : nth opWords 17 = s
  · subst h17; rfl
  rw [if_neg h17]
  by_cases h16 : nth opWords 16 = s
  · subst h16; rfl
  rw [if_neg h16]
  by_cases h15 : nth opWords 15 = s
  · subst h15; rfl
  rw [if_neg h15]
  by_cases h14 : nth opWords 14 = s
  · subst h14; rfl
  rw [if_neg h14]
  by_cases h13 : nth opWords 13 = s
  · subst h13; rfl
  rw [if_neg h13]
  by_cases h12 : nth opWords 12 = s
  · subst h12; rfl
  rw [if_neg h12]
  by_cases h11 : nth opWords 11 = s
  · subst h11; rfl
  rw [if_neg h11]
  by_cases h10 : nth opWords 10 = s
  · subst h10; rfl
  rw [if_neg h10]
  by_cases h9 : nth opWords 9 = s
  · subst h9; rfl
  rw [if_neg h9]
  by_cases h8 : nth opWords 8 = s
  · subst h8; rfl
  rw [if_neg h8]
  by_cases h7 : nth opWords 7 = s
  · subst h7; rfl
  rw [if_neg h7]
  by_cases h6 : nth opWords 6 = s
  · subst h6; rfl
  rw [if_neg h6]
  by_cases h5 : nth opWords 5 = s
  · subst h5; rfl
  rw [if_neg h5]
  by_cases h4 : nth opWords 4 = s
  · subst h4; rfl
  rw [if_neg h4]
  by_cases h3 : nth opWords 3 = s
  · subst h3; rfl
  rw [if_neg h3]
  by_cases h2 : nth opWords 2 = s
  · subst h2; rfl
  rw [if_neg h2]
  by_cases h1 : nth opWords 1 = s
  · subst h1; rfl
  rw [if_neg h1]
  by_cases h0 : nth opWords 0 = s
  · rw [if_pos h0]; simp [h1, h2, h3, h4, h5, h6, h7, h8, h9, h10, h11, h12, h13, h14, h15, h16, h17, h18, h19]
  rw [if_neg h0]
  simp [h1, h2, h3, h4, h5, h6, h7, h8, h9, h10, h11, h12, h13, h14, h15, h16, h17, h18, h19]
theorem opWords_size (k : Nat) : (nth opWords k).size ≤ 9223372036854775807 := by
  have : ∀ s ∈ opWords, s.size ≤ 10 := by decide
  rcases Nat.lt_or_ge k opWords.length with h | h
  · exact Nat.le_trans (this _ (nth_mem h)) (by omega)
  · simp [nth, List.getElem?_eq_none h]
    exact Nat.le_trans (show (default : ByteArray).size ≤ 0 from Nat.le_refl _) (by omega)
set_option maxHeartbeats 1600000 in
set_option maxRecDepth 100000 in
theorem readOp_any (s : ByteArray) (w : World) (hs : s.size ≤ 9223372036854775807) : Calls Try.prog 4 #[.string s] w fun e w' => e = .returned (.tuple #[.int .u8 (readOpS s).1, .bool (readOpS s).2]) ∧ Below w.heap.size w w' := by
  have HS := hid hs
  have hix : ∀ (k : Nat) W, k < 20 → (Instr.index 38 wordsV (.int .i64 (k : Int))).run Try.prog W = .ok (.string (nth opWords k)) W := by
    intro k W hk
    have : k = 0 ∨ k = 1 ∨ k = 2 ∨ k = 3 ∨ k = 4 ∨ k = 5 ∨ k = 6 ∨ k = 7 ∨ k = 8 ∨ k = 9 ∨ k = 10 ∨ k = 11 ∨ k = 12 ∨ k = 13 ∨ k = 14 ∨ k = 15 ∨ k = 16 ∨ k = 17 ∨ k = 18 ∨ k = 19 := by omega
    rcases this with rfl | rfl | rfl | rfl | rfl | rfl | rfl | rfl | rfl | rfl | rfl | rfl | rfl | rfl | rfl | rfl | rfl | rfl | rfl | rfl <;> rfl
  have HIX := hid hix
  have hmm := @run_makeMap Try.prog
  clear hs hix
  go_enter Try.func4, Try.ntmps4
  go_wp2_with (go_at_call 12; refine (words_any _).mono ?_; rintro e w' ⟨rfl, hb⟩)
  clear hmm
  obtain ⟨wv, hwv⟩ : ∃ wv, wordsV = wv := ⟨_, rfl⟩
  rw [hwv]
  have HWV := hid hwv
  clear hwv
  go_loopw [11] (fun s11 wr => ∃ k : Nat, s11 = .int .i64 (k : Int) ∧ k ≤ 20 ∧ SMap wr Try.prog 9 22 w.heap.size (opEs k) ∧ Below w.heap.size w wr) (fun s11 wr => 20 - cnt s11)
  case atStart =>
    refine ⟨0, rfl, Nat.zero_le _, ?_, ((Below.refl _ w).alloc (Nat.le_refl _) _).trans (hb.mono (by simp))⟩
    exact (SMap.new w _ _ _).kept (hb.block _ (by simp))
  case round =>
    obtain ⟨k, rfl, hk, hM, hB⟩ := hrel
    by_cases hlt : k < 20
    · have hl : (k : Int) < 20 := by omega
      have hi := HIX.out k
      rw [HWV.out] at hi
      have hi2 := fun W => hi W hlt
      clear hi
      have hwu : IntKind.u8.wrap (k : Int) = (k : Int) := by simp [IntKind.wrap, IntKind.signed, IntKind.bits]; omega
      have hwf : (Lit.int .u8 (k : Int)).wf = true := by simp [Lit.wf, IntKind.min, IntKind.max, IntKind.signed, IntKind.bits]; omega
      have HWF := hid hwf
      clear hwf
      go_wp2_with (refine wpList_smap_put ty_opmap rfl _ _ _ (.inl rfl) w.heap.size (opEs k) rfl hM (by rw [opEs_len]; unfold maxLen; omega) (nth opWords k) (k : Int) rfl rfl (opWords_size k) HWF.out ?_; intro w1 hM1 hg1)
      go_roundw
      case rel => exact ⟨k + 1, by simp, by omega, hM1, hB.grown hg1 hB.size (fun j e => by cases e; exact Nat.le_refl _)⟩
      case measure => simp only [cnt]; omega
    · have hk' : k = 20 := by omega
      subst hk'
      have hz : (zeroValue 22).run Try.prog wr = .ok (.int .u8 0) wr := by kernel_rfl
      have HL := hid (opLook s)
      obtain ⟨r, hr⟩ : ∃ r, lookR (opEs 20) s = r := ⟨_, rfl⟩
      rw [hr] at HL
      have HR := hid hr
      clear hr
      go_wp2_with (refine wpList_smap_get ty_opmap rfl _ _ rfl hz w.heap.size (opEs 20) rfl hM s rfl HS.out ?_; rw [HR.out])
      all_goals
        go_ret2
        refine ⟨ret_two ?_, hB⟩
        rw [HL.out]
        simp_all
end Go.Proofs.Ytlajcmoiopaemaa
