/- Declarations in memory; a name; a key's kind. -/
import Derived.Test.YtloilngmhekmmaaGreatDoorLib
import Derived.Test.YtloilngmhekmmaaGreatDoorShelf
set_option linter.unusedVariables false
set_option linter.unusedSimpArgs false
namespace Go.Proofs.YtloilngmhekmmaaGreatDoor
open Go.RowKit
/-! ### declarations -/
structure DeclM where
  name : ByteArray
  side : Int
  kind : Int
instance : Inhabited DeclM := ⟨⟨ByteArray.empty, 0, 0⟩⟩
def DeclR (d : DeclM) (cs : List Value) : Prop := cs = [.string d.name, .int .u8 d.side, .int .u8 d.kind]
theorem DeclR.len {x : DeclM} {cs : List Value} (h : DeclR x cs) : cs.length = 3 := by subst h; rfl
def Decls (w : World) (D : Nat → Prop) (v : Value) (l : List DeclM) : Prop := Row w D DeclR 3 v l
theorem Decls.imp {w w' : World} {D D' : Nat → Prop} {v : Value} {l : List DeclM} (h : Decls w D v l) (hD : ∀ b, D b → b < w.heap.size → D' b ∧ w'.heap[b]? = w.heap[b]?) : Decls w' D' v l :=
  Row.imp h (fun _ _ _ h => h) hD (by omega) (fun _ _ h => h.len)
theorem Decls.below {w w' : World} {D : Nat → Prop} {v : Value} {l : List DeclM} (h : Decls w D v l) (hb : Below w.heap.size w w') : Decls w' D v l := h.imp fun b hd hlt => ⟨hd, hb.block b hlt⟩
/-- all of them at once, for a loop -/
theorem Decls.all {w : World} {D : Nat → Prop} {v : Value} {l : List DeclM} (h : Decls w D v l) (h0 : 0 < l.length) :
    ∃ b off c, v = .slice (some ⟨b, off, none⟩) l.length c ∧ l.length ≤ c ∧ c ≤ 9223372036854775807 ∧ D b ∧ b < w.heap.size ∧
      ∀ k, k < l.length → w.cell? ⟨b, off + k * 3, none⟩ = some (.string (nth l k).name) ∧ w.cell? ⟨b, off + k * 3 + 1, none⟩ = some (.int .u8 (nth l k).side) ∧ w.cell? ⟨b, off + k * 3 + 2, none⟩ = some (.int .u8 (nth l k).kind) := by
  obtain ⟨A, c, h1, h2, h3, h4⟩ := h.out
  obtain ⟨b, off, hA, hD, hall⟩ := h4 h0
  subst hA
  have key : ∀ k, k < l.length → w.cell? ⟨b, off + k * 3, none⟩ = some (.string (nth l k).name) ∧ w.cell? ⟨b, off + k * 3 + 1, none⟩ = some (.int .u8 (nth l k).side) ∧ w.cell? ⟨b, off + k * 3 + 2, none⟩ = some (.int .u8 (nth l k).kind) := by
    intro k hk
    obtain ⟨cs, hr, _, hc⟩ := hall k hk
    have hr' : cs = _ := hr
    subst hr'
    exact ⟨hc 0 _ rfl, hc 1 _ rfl, hc 2 _ rfl⟩
  exact ⟨b, off, c, h1, h2, h3, hD, World.block_lt_of_cell? w _ (key 0 h0).1, key⟩
/-! ### at most forty -/
theorem Decls.take {w : World} {D : Nat → Prop} {b off c m : Nat} {l : List DeclM} (h : Decls w D (.slice (some ⟨b, off, none⟩) l.length c) l) (hm : m ≤ l.length) : Decls w D (.slice (some ⟨b, off, none⟩) m c) (l.take m) := by
  obtain ⟨A, c', h1, h2, h3, h4⟩ := h.out
  simp only [Value.slice.injEq] at h1
  obtain ⟨rfl, _, rfl⟩ := h1
  refine ⟨_, c, by rw [List.length_take, Nat.min_eq_left hm], by rw [List.length_take]; omega, h3, fun h0 => ?_⟩
  rw [List.length_take] at h0
  obtain ⟨b', off', hA, hD, hall⟩ := h4 (by omega)
  cases hA
  refine ⟨b, off, rfl, hD, fun i hi => ?_⟩
  rw [List.length_take] at hi
  obtain ⟨cs, hr, hl, hcs⟩ := hall i (by omega)
  have : nth (l.take m) i = nth l i := by
    rw [nth_eq (by rw [List.length_take]; omega), nth_eq (by omega)]; simp
  exact ⟨cs, by rw [this]; exact hr, hl, hcs⟩
set_option maxHeartbeats 400000 in
theorem few_any (w : World) (D : Nat → Prop) (v : Value) (l : List DeclM) (h : Decls w D v l) : Calls Tryz.prog 5 #[v] w fun e w' => ∃ v', e = .returned v' ∧ Decls w D v' (l.take 40) ∧ w' = w := by
  by_cases h0 : 40 < l.length
  · obtain ⟨b, off, c, rfl, hc, hcm, _, _, _⟩ := h.all (by omega)
    have HD := hid (h.take (m := 40) (by omega))
    have hl : (40 : Int) < (l.length : Int) := by omega
    clear h
    go_enter Tryz.func5, Tryz.ntmps5
    go_wp2
    go_ret
    exact ⟨_, rfl, HD.out, rfl⟩
  · obtain ⟨A, c, rfl, hc, hcm⟩ := h.slice
    have HD := hid h
    have hl : ¬ (40 : Int) < (l.length : Int) := by omega
    have ht : l.take 40 = l := List.take_of_length_le (by omega)
    have HT := hid ht
    clear h ht
    go_enter Tryz.func5, Tryz.ntmps5
    go_wp2
    go_ret
    exact ⟨_, rfl, by rw [HT.out]; exact HD.out, rfl⟩
end Go.Proofs.YtloilngmhekmmaaGreatDoor
