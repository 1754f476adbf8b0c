/- A program's keys, or the first declaration that may not be. -/
import Derived.Test.YtloilngmhekmmaaGreatDoorScopeE
import Derived.Test.YtloilngmhekmmaaGreatDoorScopeN
set_option linter.unusedVariables false
set_option linter.unusedSimpArgs false
namespace Go.Proofs.YtloilngmhekmmaaGreatDoor
open Go.RowKit Go.WideMaps
def keyD (d : DeclM) : KeyM := (d.name, d.side)
def rightD (d : DeclM) : Bool := nameS d.name && decide (1 ≤ d.side ∧ d.side ≤ 3) && decide (1 ≤ d.kind ∧ d.kind ≤ 2)
def keysT (l : List DeclM) (i : Nat) : List KeyM := (l.take i).map keyD
def stopS (l : List DeclM) (i : Nat) : Int := if 24 ≤ i then 4 else if rightD (nth l i) = false then 3 else if hasK (keysT l i) (keyD (nth l i)) = true then 6 else 0
theorem keysT_succ {l : List DeclM} {i : Nat} (h : i < l.length) : keysT l (i + 1) = keysT l i ++ [keyD (nth l i)] := by
  unfold keysT
  rw [take_succ_nth h, List.map_append]; rfl
theorem keysT_len {l : List DeclM} {i : Nat} (h : i ≤ l.length) : (keysT l i).length = i := by unfold keysT; simp; omega
def keysB (l : List DeclM) (i : Nat) : List (List UInt8) := ((keysT l i).map keyB).reverse
theorem keysB_succ {l : List DeclM} {i : Nat} (h : i < l.length) : keysB l (i + 1) = keyB (keyD (nth l i)) :: keysB l i := by
  unfold keysB
  rw [keysT_succ h, List.map_append, List.reverse_append]; rfl
theorem keysB_len {l : List DeclM} {i : Nat} (h : i ≤ l.length) : (keysB l i).length = i := by unfold keysB; simp [keysT_len h]
theorem keysB_any {l : List DeclM} {i : Nat} {k : KeyM} (hk : KeyIn k) (hl : ∀ d ∈ l, KeyIn (keyD d)) : ((keysB l i).any fun x => decide (x = keyB k)) = hasK (keysT l i) k := by
  unfold keysB hasK
  rw [List.any_reverse, keys_any hk]
  intro q hq
  unfold keysT at hq
  obtain ⟨d, hd, rfl⟩ := List.mem_map.1 hq
  exact hl d (List.mem_of_mem_take hd)
/-- what comes out: an index, a refusal, keys -/
def DeclP (l : List DeclM) (i x : Int) (ks : List KeyM) : Prop :=
  (i = 0 ∧ x = 0 ∧ ks = l.map keyD ∧ ∀ j, j < l.length → stopS l j = 0) ∨ ∃ n : Nat, i = (n : Int) ∧ n < l.length ∧ (∀ j, j < n → stopS l j = 0) ∧ stopS l n = x ∧ x ≠ 0 ∧ ks = []
theorem DeclP.one {l : List DeclM} {i x i' x' : Int} {ks ks' : List KeyM} (h : DeclP l i x ks) (h' : DeclP l i' x' ks') : i = i' ∧ x = x' ∧ ks = ks' := by
  rcases h with ⟨rfl, rfl, rfl, h⟩ | ⟨n, rfl, hn, ha, hb, hc, rfl⟩ <;> rcases h' with ⟨rfl, rfl, rfl, h'⟩ | ⟨m, rfl, hm, ha', hb', hc', rfl⟩
  · exact ⟨rfl, rfl, rfl⟩
  · exact absurd ((hb'.symm.trans (h m hm))) hc'
  · exact absurd ((hb.symm.trans (h' n hn))) hc
  · have : n = m := by
      rcases Nat.lt_trichotomy n m with e | e | e
      · exact absurd (hb.symm.trans (ha' n e)) hc
      · exact e
      · exact absurd (hb'.symm.trans (ha m e)) hc'
    subst this
    exact ⟨rfl, by rw [← hb, ← hb'], rfl⟩
def DeclPost (l : List DeclM) (w : World) (e : Ending) (w' : World) : Prop := ∃ v i x ks, e = .returned (.tuple #[v, .int .i64 i, .int .i64 x]) ∧ DeclP l i x ks ∧ KeysR w' (fun _ => True) v ks ∧ Below w.heap.size w w'
theorem DeclPost.no {l : List DeclM} {w w' : World} {i : Nat} {x : Int} (hi : i < l.length) (hs : stopS l i = x) (hx : x ≠ 0) (hb : ∀ j, j < i → stopS l j = 0) (hB : Below w.heap.size w w') : DeclPost l w (.returned (.tuple #[.slice none 0 0, .int .i64 (i : Int), .int .i64 x])) w' :=
  ⟨_, _, _, [], rfl, .inr ⟨i, rfl, hi, hb, hs, hx, rfl⟩, Row.nil _ _ _ _, hB⟩
theorem DeclPost.yes {l : List DeclM} {w w' : World} {v : Value} (hb : ∀ j, j < l.length → stopS l j = 0) (ho : Own w' 31 2 KeyR v (keysT l l.length)) (hB : Below w.heap.size w w') : DeclPost l w (.returned (.tuple #[v, .int .i64 0, .int .i64 0])) w' :=
  ⟨_, _, _, _, rfl, .inl ⟨rfl, rfl, rfl, hb⟩, by have := ho.row (D := fun _ => True) (fun _ _ h => h.len) (fun _ _ => trivial); unfold keysT at this; rw [List.take_length] at this; exact this, hB⟩
theorem stop_more {l : List DeclM} {i : Nat} (hb : ∀ j, j < i → stopS l j = 0) (h : stopS l i = 0) : ∀ j, j < i + 1 → stopS l j = 0 := fun j hj => by
  by_cases e : j = i
  · rw [e]; exact h
  · exact hb j (by omega)
end Go.Proofs.YtloilngmhekmmaaGreatDoor
