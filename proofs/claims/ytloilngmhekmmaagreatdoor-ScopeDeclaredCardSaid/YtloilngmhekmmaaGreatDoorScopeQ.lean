/- The reference's fresh names. -/
import Derived.Test.YtloilngmhekmmaaGreatDoorScopeE
set_option linter.unusedVariables false
set_option linter.unusedSimpArgs false
namespace Go.Proofs.YtloilngmhekmmaaGreatDoor
open Go.RowKit
def restD (m : Nat) : List UInt8 := if m < 10 then [] else Lib.decDigits (m / 10)
def digB (m : Nat) : UInt8 := UInt8.ofNat (48 + m % 10)
theorem dec_rest (m : Nat) : Lib.decDigits m = restD m ++ [digB m] := by
  rw [Lib.decDigits]
  unfold restD digB
  split
  · rename_i h
    rw [Nat.mod_eq_of_lt h]; rfl
  · rfl
theorem rest_step {m : Nat} (h : 10 ≤ m) : restD m = restD (m / 10) ++ [digB (m / 10)] := by
  rw [← dec_rest]
  unfold restD
  rw [if_neg (by omega)]
def tenB : ByteArray := ⟨#[48, 49, 50, 51, 52, 53, 54, 55, 56, 57]⟩
theorem ten_at (d : Nat) (h : d < 10) : tenB.extract d (d + 1) = ⟨#[UInt8.ofNat (48 + d)]⟩ := by
  match d, h with
  | 0, _ => rfl
  | 1, _ => rfl
  | 2, _ => rfl
  | 3, _ => rfl
  | 4, _ => rfl
  | 5, _ => rfl
  | 6, _ => rfl
  | 7, _ => rfl
  | 8, _ => rfl
  | 9, _ => rfl
theorem run_dig {t : TypeId} {P : Program} (ht : P.underlying t = some .string) (n : Nat) (W : World) : (Instr.slice t (.string ⟨#[48, 49, 50, 51, 52, 53, 54, 55, 56, 57]⟩) (some (.int .i64 ((n : Int) % 10))) (some (.int .i64 ((n : Int) % 10 + 1))) none).run P W = .ok (.string ⟨#[digB n]⟩) W := by
  have h := str_slice ht tenB (n % 10) (n % 10 + 1) ((n : Int) % 10) ((n : Int) % 10 + 1) (by omega) (by omega) (by omega) (by show _ ≤ 10; omega) W
  rw [ten_at _ (Nat.mod_lt _ (by omega))] at h
  exact h
theorem app_dig (d : UInt8) (l : List UInt8) : (⟨#[d]⟩ : ByteArray) ++ ⟨l.toArray⟩ = ⟨(d :: l).toArray⟩ := by
  apply ByteArray.ext
  rw [ByteArray.data_append]
  simp
theorem app_q (l : List UInt8) : (⟨#[113]⟩ : ByteArray) ++ ⟨l.toArray⟩ = ⟨(113 :: l).toArray⟩ := app_dig 113 l
set_option maxHeartbeats 800000 in
set_option maxRecDepth 100000 in
theorem q_any (n : Nat) (hn : n < 1000) (w : World) : Calls Tryz.prog 24 #[.int .i64 (n : Int)] w fun e w' => e = .returned (.string (qS n)) ∧ w' = w := by
  have hd := run_dig Tryz.underlying9 n
  go_enter Tryz.func24, Tryz.ntmps24
  go_wp2
  clear hd
  go_loopw [0, 3] (fun t0 t3 wr => ∃ (m : Nat) (l : List UInt8), m ≤ n ∧ l.length ≤ 10 ∧ t0 = .int .i64 (m : Int) ∧ t3 = .string ⟨l.toArray⟩ ∧ wr = w ∧ Hid (Lib.decDigits n = restD m ++ l) ∧ Hid (m < 10 ^ (4 - l.length) ∧ l.length ≤ 4)) (fun t0 _ _ => (Go.RowKit.intOf t0).toNat)
  case atStart => exact ⟨n, [digB n], Nat.le_refl _, by simp, rfl, rfl, rfl, hid (dec_rest n), hid (by simp; omega)⟩
  case round =>
    obtain ⟨m, l, hm, hl, rfl, rfl, rfl, HR, HC⟩ := hrel
    by_cases h10 : 10 ≤ m
    · have h10i : (10 : Int) ≤ (m : Int) := by omega
      have hdiv : (m : Int) / 10 = ((m / 10 : Nat) : Int) := by omega
      have hd : ∀ W, (Instr.slice 9 (.string ⟨#[48, 49, 50, 51, 52, 53, 54, 55, 56, 57]⟩) (some (.int .i64 ((m : Int) / 10 % 10))) (some (.int .i64 ((m : Int) / 10 % 10 + 1))) none).run Tryz.prog W = .ok (.string ⟨#[digB (m / 10)]⟩) W := fun W => by
        have := run_dig Tryz.underlying9 (m / 10) W
        rwa [← hdiv] at this
      have HDV := hid hdiv
      clear hdiv
      have hsz : (⟨l.toArray⟩ : ByteArray).size = l.length := by show l.toArray.size = _; simp
      have hap := app_dig (digB (m / 10)) l
      have HS := hid (rest_step h10)
      go_wp2
      go_roundw
      case rel =>
        refine ⟨m / 10, digB (m / 10) :: l, by omega, ?_, by rw [← HDV.out], rfl, by trivial, hid ?_, hid ?_⟩
        · have := HC.out.2; simp; omega
        · rw [HR.out, HS.out, List.append_assoc]; rfl
        · have h1 := HC.out.1
          have h2 := HC.out.2
          simp only [List.length_cons]
          have h3 : l.length < 4 := by
            rcases Nat.lt_or_ge l.length 4 with h | h
            · exact h
            · have : 4 - l.length = 0 := by omega
              rw [this] at h1; simp at h1; omega
          refine ⟨?_, by omega⟩
          have : 4 - l.length = (4 - (l.length + 1)) + 1 := by omega
          rw [this, Nat.pow_succ] at h1
          omega
      case measure => simp [Go.RowKit.intOf]; omega
    · have h10i : ¬ (10 : Int) ≤ (m : Int) := by omega
      have hsz : (⟨l.toArray⟩ : ByteArray).size = l.length := by show l.toArray.size = _; simp
      have hap := app_q l
      have HQ := hid (show qS n = ⟨(113 :: l).toArray⟩ by unfold qS; rw [HR.out]; unfold restD; rw [if_pos (by omega)]; rfl)
      go_wp2
      go_ret
      rw [HQ.out]
      exact ⟨rfl, rfl⟩
end Go.Proofs.YtloilngmhekmmaaGreatDoor
