/- Blocks whose place in the abstract heap is kept free, and taken later, in whatever order. No program in sight. -/
import Derived.Test.YtloilngmhekmmaaGreatDoorAv10
set_option linter.unusedVariables false
set_option linter.unusedSimpArgs false
noncomputable section
namespace Go.Proofs.YtloilngmhekmmaaGreatDoor
def Gh.hold (G : Gh) : Gh := { G with n := G.n + 1, gen := fun i => if i = G.n then 0 else G.gen i }
def Gh.birth (G : Gh) (s b k : Nat) : Gh := { G with gen := fun i => if i = s then 1 else G.gen i, blk := fun i => if i = s then b else G.blk i, base := fun i => if i = s then 0 else G.base i, room := fun i => if i = s then k else G.room i }
theorem Gh.le_hold (G : Gh) : G.le G.hold := by
  refine ⟨Nat.le_succ _, fun id h => ?_, fun id h _ => ⟨rfl, rfl, rfl⟩, fun b a h => h⟩
  have : id ≠ G.n := by omega
  simp [Gh.hold, this]
theorem Gh.le_birth {G : Gh} {s b k : Nat} (hg : G.gen s = 0) : G.le (G.birth s b k) := by
  refine ⟨Nat.le_refl _, fun id h => ?_, fun id h he => ?_, fun b a h => h⟩
  · simp only [Gh.birth]; split
    · rename_i e; subst e; omega
    · exact Nat.le_refl _
  · have : id ≠ s := by rintro rfl; simp [Gh.birth, hg] at he
    simp [Gh.birth, this]
variable {w : World} {G : Gh} {H : AH}
theorem Rel.reserve (hR : Rel w G H) : Rel w G.hold (H.push .dead) ∧ Ext w G H w G.hold (H.push .dead) := by
  have hn := hR.n
  have old : ∀ {i : Nat}, ((H.push .dead).get i).live = true → i ≠ H.n ∧ (H.get i).live = true := by
    intro i h
    rw [AH.get_push] at h
    split at h
    · cases h
    · exact ⟨by assumption, h⟩
  have gen : ∀ {i : Nat}, i ≠ H.n → G.hold.gen i = G.gen i := fun h => by simp [Gh.hold, hn, h]
  refine ⟨⟨by rw [AH.push_n]; simp [Gh.hold, hn], fun id hid => ?_, fun id hl => ?_, fun id hid hg => ?_, fun i j hi hj he => hR.inj i j (old hi).2 (old hj).2 he, fun i hi => hR.zout i (old hi).2, hR.zin⟩, ⟨G.le_hold, rfl, rfl, rfl, Nat.le_refl _, fun _ _ _ => rfl, fun id hl => .inr ⟨id, (old hl).2, rfl⟩, by rw [AH.push_n]; exact Nat.le_succ _, fun _ _ => rfl, fun i hi hd => ?_⟩⟩
  · rw [AH.get_push]
    split
    · trivial
    · rename_i e
      rw [AH.push_n] at hid
      have h1 : id < H.n := by omega
      exact (hR.obj id h1).mono G.le_hold (by omega) (gen e) rfl
  · rw [gen (old hl).1]; exact hR.born id (old hl).2
  · rw [AH.push_n] at hid
    by_cases e : id = H.n
    · subst e; simp [Gh.hold, hn] at hg
    · rw [gen e] at hg; exact hR.blt' id (by omega) hg
  · have e : i ≠ H.n := by omega
    rw [AH.get_push, if_neg e]
    exact ⟨hd, gen e⟩
theorem Rel.birth (hR : Rel w G H) {s : Nat} (hs : s < H.n) (hd : H.get s = .dead) (hg : G.gen s = 0) (o : Obj) (k : Nat) (ao : AObj) {w' : World} (hh : w'.heap = w.heap.push o) (hos : w'.os = w.os) (htp : w'.tape = w.tape) (hou : w'.output = w.output)
    (ho : OR w' (G.birth s w.heap.size k) s ao) : Rel w' (G.birth s w.heap.size k) (H.set s ao) ∧ ∀ {w0 : World} {G0 : Gh} {H0 : AH}, Ext w0 G0 H0 w G H → H0.n ≤ s → Ext w0 G0 H0 w' (G.birth s w.heap.size k) (H.set s ao) := by
  have hle : G.le (G.birth s w.heap.size k) := Gh.le_birth hg
  have hsz : w'.heap.size = w.heap.size + 1 := by rw [hh]; simp
  have hpo : ∀ b, b < w.heap.size → w'.heap[b]? = w.heap[b]? := fun b hb => by rw [hh]; exact push_old hb
  have hbs : (G.birth s w.heap.size k).blk s = w.heap.size := by simp [Gh.birth]
  have hbn : ∀ {i : Nat}, i ≠ s → (G.birth s w.heap.size k).blk i = G.blk i := fun h => by simp [Gh.birth, h]
  have hgn : ∀ {i : Nat}, i ≠ s → (G.birth s w.heap.size k).gen i = G.gen i := fun h => by simp [Gh.birth, h]
  have get : ∀ {i : Nat}, i ≠ s → (H.set s ao).get i = H.get i := fun h => AH.get_set_ne ao h
  refine ⟨⟨by rw [AH.set_n]; exact hR.n, fun id hid => ?_, fun id hl => ?_, fun id hid hgi => ?_, fun i j hi hj he => ?_, fun i hi => ?_, fun b a h => ?_⟩, fun {w0 G0 H0} E h0 => ⟨E.le.trans hle, hos.trans E.os, htp.trans E.tape, hou.trans E.output, by have := E.size; omega, fun b hb hn => (hpo b (Nat.lt_of_lt_of_le hb E.size)).trans (E.keep b hb hn), fun id hl => ?_, by rw [AH.set_n]; exact E.n, E.zold, fun i hi hd' => ?_⟩⟩
  · rw [AH.set_n] at hid
    by_cases e : id = s
    · subst e; rw [AH.get_set_same ao hid]; exact ho
    · rw [get e]
      by_cases hl : (H.get id).live = true
      · exact (hR.obj id hid).mono hle (by rw [hR.n]; exact hid) (hgn e) (hpo _ (hR.blt id hl))
      · exact OR.dead_of (by simpa using hl)
  · by_cases e : id = s
    · subst e; simp [Gh.birth]
    · rw [get e] at hl; rw [hgn e]; exact hR.born id hl
  · rw [AH.set_n] at hid
    by_cases e : id = s
    · subst e; rw [hbs]; omega
    · rw [hgn e] at hgi; rw [hbn e]; have := hR.blt' id hid hgi; omega
  · by_cases e : i = s
    · by_cases e2 : j = s
      · omega
      · rw [get e2] at hj
        rw [hbn e2, e, hbs] at he
        have := hR.blt j hj; omega
    · rw [get e] at hi
      by_cases e2 : j = s
      · rw [hbn e, e2, hbs] at he
        have := hR.blt i hi; omega
      · rw [get e2] at hj
        rw [hbn e, hbn e2] at he
        exact hR.inj i j hi hj he
  · show G.z _ = none
    by_cases e : i = s
    · subst e; rw [hbs]
      cases hz : G.z w.heap.size with
      | none => rfl
      | some a => exact absurd (hR.lt hz) (Nat.lt_irrefl _)
    · rw [get e] at hi; rw [hbn e]; exact hR.zout i hi
  · obtain ⟨t, fr, h1⟩ := hR.zin b a h
    exact ⟨t, fr, by rw [hpo _ (hR.lt h)]; exact h1⟩
  · by_cases e : id = s
    · subst e; rw [hbs]; exact .inl E.size
    · rw [get e] at hl; rw [hbn e]; exact E.fresh id hl
  · have e : i ≠ s := by omega
    rw [get e, hgn e]
    exact E.dead i hi hd'
/-- a variable's block, in a place that was kept free -/
theorem Rel.birth_cells (hR : Rel w G H) {s : Nat} (hs : s < H.n) (hd : H.get s = .dead) (hg : G.gen s = 0) (arr : Array Value) (t : TypeId) (us : List AV) (hv : VRs G arr.toList us) {w' : World} (hh : w'.heap = w.heap.push (.cells arr t (0, 0))) (hos : w'.os = w.os) (htp : w'.tape = w.tape) (hou : w'.output = w.output) :
    Rel w' (G.birth s w.heap.size arr.size) (H.set s (.cells us 1)) ∧ (∀ {w0 : World} {G0 : Gh} {H0 : AH}, Ext w0 G0 H0 w G H → H0.n ≤ s → Ext w0 G0 H0 w' (G.birth s w.heap.size arr.size) (H.set s (.cells us 1))) ∧
      VR (G.birth s w.heap.size arr.size) (.pointer (some ⟨w.heap.size, 0, none⟩)) (.ptr s 1 0) := by
  have hl := hv.length
  have := hR.birth hs hd hg (.cells arr t (0, 0)) arr.size (.cells us 1) hh hos htp hou ⟨by simp [Gh.birth], arr, t, (0, 0), ?_, by simp, ?_, ?_, ?_⟩
  · refine ⟨this.1, this.2, ?_⟩
    simp only [VR]
    exact ⟨by show s < G.n; rw [hR.n]; exact hs, by simp [Gh.birth], _, rfl, fun _ => by simp [Gh.birth]⟩
  · have e : (G.birth s w.heap.size arr.size).blk s = w.heap.size := by simp [Gh.birth]
    rw [e, hh]; exact push_new _ _
  · simp [Gh.birth]
  · simp [Gh.birth]; rw [← hl]; simp
  · have e : (G.birth s w.heap.size arr.size).base s = 0 := by simp [Gh.birth]
    rw [e, List.drop_zero, ← hl, List.take_length]
    exact VRs.mono (Gh.le_birth hg) us _ hv
end Go.Proofs.YtloilngmhekmmaaGreatDoor
