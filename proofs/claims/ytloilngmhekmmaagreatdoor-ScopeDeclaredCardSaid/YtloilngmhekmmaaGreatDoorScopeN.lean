/- What the program takes for a name. -/
import Derived.Test.YtloilngmhekmmaaGreatDoorLexQ
import Derived.Test.YtloilngmhekmmaaGreatDoorScope2
set_option linter.unusedVariables false
set_option linter.unusedSimpArgs false
namespace Go.Proofs.YtloilngmhekmmaaGreatDoor
open Go.RowKit
theorem lxC (c : Int) : Lx.letterC c = letterC c := rfl
theorem lxD (c : Int) : Lx.digitC c = digitC c := rfl
theorem lxN : ∀ (b : Bool) (l : List UInt8), Lx.nameC b l = nameC b l
  | _, [] => rfl
  | b, c :: r => by simp only [Lx.nameC, nameC, lxN false r, lxC, lxD]
theorem lexName_eq (s : ByteArray) : Lx.lexName s = nameS s := by
  unfold Lx.lexName nameS
  rw [lxN, Bool.and_comm]
  congr 1
  rw [decide_eq_decide]
  omega
theorem first_of {s : ByteArray} (h : 0 < s.size) : s.data.toList = s[0] :: s.data.toList.drop 1 := by
  have := drop_nth (l := s.data.toList) (k := 0) (by rw [szB]; exact h)
  rw [get_nthB s 0 h] at this
  simpa using this
theorem nameS_first {s : ByteArray} (h : nameS s = true) (h0 : 0 < s.size) : 97 ≤ (s[0].toNat : Int) ∧ (s[0].toNat : Int) ≤ 122 := by
  unfold nameS at h
  rw [Bool.and_eq_true, first_of h0] at h
  have h2 := h.2
  simp only [nameC, Bool.and_eq_true, Bool.not_true, Bool.false_and, Bool.or_false] at h2
  exact of_decide_eq_true h2.1
theorem nameS_pos {s : ByteArray} (h : nameS s = true) : 0 < s.size := by
  unfold nameS at h
  rw [Bool.and_eq_true] at h
  have := of_decide_eq_true h.1
  omega
theorem nameS_noparse {s : ByteArray} (h : nameS s = true) : parseW s = none := by
  have h0 := nameS_pos h
  have hf := nameS_first h h0
  unfold parseW
  split
  · rfl
  · have hb : pbody s.data.toList = none := by
      unfold pbody
      have e1 : s.data.toList.head? = some s[0] := by rw [first_of h0]; rfl
      rw [e1]
      have hne : ¬ (some s[0] = some (45 : UInt8)) := by
        intro e
        simp only [Option.some.injEq] at e
        rw [e] at hf
        simp at hf
      rw [if_neg hne, first_of h0]
      unfold pgo
      rw [if_pos (by omega)]
      rfl
    rw [hb]; rfl
theorem named_yes {s : ByteArray} (h : nameS s = true) : Lx.wordKind s = 3 := by
  unfold Lx.wordKind
  rw [nameS_noparse h, lexName_eq, h]
  simp
theorem sign_cases {s : ByteArray} (h : Lx.isSign s = true) : ∃ c : UInt8, s.data.toList = [c] ∧ ¬ (97 ≤ (c.toNat : Int)) ∨ s.data.toList = [124] ∨ s.data.toList = [94] := by
  unfold Lx.isSign at h
  rw [ByteArray.toList_eq] at h
  simp only [Bool.or_eq_true, beq_iff_eq] at h
  rcases h with ((((((((h | h) | h) | h) | h) | h) | h) | h) | h) | h
  all_goals first
    | (refine ⟨_, Or.inl ⟨h, by decide⟩⟩; done)
    | (refine ⟨0, Or.inr (Or.inl h)⟩; done)
    | (refine ⟨0, Or.inr (Or.inr h)⟩; done)
theorem named_no {s : ByteArray} (h : Lx.wordKind s = 3) : 0 < s.size ∧ ∀ h0 : 0 < s.size, 97 ≤ (s[0].toNat : Int) → (s[0].toNat : Int) ≤ 122 → nameS s = true := by
  unfold Lx.wordKind at h
  split at h
  · omega
  · split at h
    · rename_i hh
      rw [Bool.or_eq_true] at hh
      rcases hh with hs | hl
      · have hc := sign_cases hs
        obtain ⟨c, hc⟩ := hc
        have hlen : s.size = 1 := by
          have := szB s
          rcases hc with ⟨h1, _⟩ | h1 | h1 <;> rw [h1] at this <;> simpa using this.symm
        refine ⟨by omega, fun h0 a b => ?_⟩
        have hf := first_of h0
        rcases hc with ⟨h1, h2⟩ | h1 | h1
        · rw [h1] at hf
          simp only [List.cons.injEq] at hf
          rw [hf.1] at h2
          exact absurd a h2
        · rw [h1] at hf
          simp only [List.cons.injEq] at hf
          rw [← hf.1] at b
          simp at b
        · rw [h1] at hf
          simp only [List.cons.injEq] at hf
          rw [← hf.1] at a
          simp at a
      · rw [lexName_eq] at hl
        exact ⟨nameS_pos hl, fun _ _ _ => hl⟩
    · omega
set_option maxHeartbeats 400000 in
theorem scopeNamed_any (s : ByteArray) (w : World) (hs : s.size ≤ 9223372036854775807) : Calls Tryz.prog 22 #[.string s] w fun e w' => e = .returned (.bool (nameS s)) ∧ Below w.heap.size w w' := by
  by_cases h3 : Lx.wordKind s = 3
  · obtain ⟨h0, hb⟩ := named_no h3
    have HB := hid (hb h0)
    have HY := hid (fun h => nameS_first (s := s) h h0)
    have H3 := hid h3
    clear h3 hb
    have hlt : (0 : Int) < (s.size : Int) := by omega
    obtain ⟨c, hc⟩ : ∃ c : Int, (s[0].toNat : Int) = c := ⟨_, rfl⟩
    have HC := hid hc
    rw [hc] at HB HY
    go_enter Tryz.func22, Tryz.ntmps22
    go_wp2_with (go_at_call 34; refine (Lx.wordKind_any s _ hs).mono ?_; rw [H3.out]; rintro e w' ⟨rfl, hb⟩)
    all_goals
      go_ret
      refine ⟨ret_bool ?_, hb⟩
      first
        | (rw [Bool.eq_iff_iff]; simp only [decide_eq_true_eq]; exact ⟨fun h => HB.out (by omega) h, fun h => (HY.out h).2⟩)
        | (rw [HB.out (by omega) (by omega)])
        | (cases hn : nameS s with | false => rfl | true => exact absurd (HY.out hn) (by omega))
  · have hn : nameS s = false := by cases h : nameS s with | false => rfl | true => exact absurd (named_yes h) h3
    have HN := hid hn
    clear hn
    obtain ⟨k, hk⟩ : ∃ k, Lx.wordKind s = k := ⟨_, rfl⟩
    rw [hk] at h3
    have HK := hid hk
    clear hk
    go_enter Tryz.func22, Tryz.ntmps22
    go_wp2_with (go_at_call 34; refine (Lx.wordKind_any s _ hs).mono ?_; rw [HK.out]; rintro e w' ⟨rfl, hb⟩)
    all_goals
      go_ret
      rw [HN.out]
      exact ⟨rfl, hb⟩
end Go.Proofs.YtloilngmhekmmaaGreatDoor
