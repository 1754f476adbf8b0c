/- Blocks whose place in the abstract heap is kept free, and taken later, in whatever order. No program in sight. -/
import Derived.Test.YtlajcmoiopaemaaAv10
set_option linter.unusedVariables false
set_option linter.unusedSimpArgs false
noncomputable section
namespace Go.Proofs.Ytlajcmoiopaemaa
def Gh.hold (G : Gh) : Gh := { G with n := G.n + 1, gen := fun i => if i = G.n then 0 else G.gen i }
def Gh.birth (G : Gh) (s b k : Nat) : Gh := { G with gen := fun i => if i = s then 1 else G.gen i, blk := fun i => if i = s then b else G.blk i, base := fun i => if i = s then 0 else G.base i, room := fun i => if i = s then k else G.room i }
theorem Gh.le_hold (G : Gh) : G.le G.hold := by
  refine ⟨Nat.le_succ _, fun id h => ?_, fun id h _ => ⟨rfl, rfl, rfl⟩, fun b a h => h⟩
  have : id ≠ G.n := by omega
  simp [Gh.hold, this]
theorem Gh.le_birth {G : Gh} {s b k : Nat} (hg : G.gen s = 0) : G.le (G.birth s b k) := by
  refine ⟨Nat.le_refl _, fun id h => ?_, fun id h he => ?_, fun b a h => h⟩
  · simp only [Gh.birth]; split
    · rename_i e; subst e; omega
    · exact Nat.le_refl _
  · have : id ≠ s := by rintro rfl; simp [Gh.birth, hg] at he
    simp [Gh.birth, this]
variable {w : World} {G : Gh} {H : AH}
theorem Rel.reserve (hR : Rel w G H) : Rel w G.hold (H.push .dead) ∧ Ext w G H w G.hold (H.push .dead) := by
  have hn := hR.n
  have old : ∀ {i : Nat}, ((H.push .dead).get i).live = true → i ≠ H.n ∧ (H.get i).live = true := by
    intro i h
    rw [AH.get_push] at h
    split at h
    · cases h
    · exact ⟨by assumption, h⟩
  have gen : ∀ {i : Nat}, i ≠ H.n → G.hold.gen i = G.gen i := fun h => by simp [Gh.hold, hn, h]
  refine ⟨⟨by rw [AH.push_n]; simp [Gh.hold, hn], fun id hid => ?_, fun id hl => ?_, fun id hid hg => ?_, fun i j hi hj he => hR.inj i j (old hi).2 (old hj).2 he, fun i hi => hR.zout i (old hi).2, hR.zin⟩, ⟨G.le_hold, rfl, rfl, rfl, Nat.le_refl _, fun _ _ _ => rfl, fun id hl => .inr ⟨id, (old hl).2, rfl⟩, by rw [AH.push_n]; exact Nat.le_succ _, fun _ _ => rfl, fun i hi hd => ?_⟩⟩
  · rw [AH.get_push]
    split
    · trivial
    · rename_i e
      rw [AH.push_n] at hid
      have h1 : id < H.n := by omega
      exact (hR.obj id h1).mono G.le_hold (by omega) (gen e) rfl
  · rw [gen (old hl).1]; exact hR.born id (old hl).2
  · rw [AH.push_n] at hid
    by_cases e : id = H.n
    · subst e; simp [Gh.hold, hn] at hg
    · rw [gen e] at hg; exact hR.blt' id (by omega) hg
  · have e : i ≠ H.n := by omega
    rw [AH.get_push, if_neg e]
    exact ⟨hd, gen e⟩
theorem Rel.birth (hR : Rel w G H) {s : Nat} (hs : s < H.n) (hd : H.get s = .dead) (hg : G.gen s = 0) (o : Obj) (k : Nat) (ao : AObj) {w' : World} (hh : w'.heap = w.heap.push o) (hos : w'.os = w.os) (htp : w'.tape = w.tape) (hou : w'.output = w.output)
    (ho : OR w' (G.birth s w.heap.size k) s ao) : Rel w' (G.birth s w.heap.size k) (H.set s ao) ∧ ∀ {w0 : World} {G0 : Gh} {H0 : AH}, Ext w0 G0 H0 w G H → H0.n ≤ s → Ext w0 G0 H0 w' (G.birth s w.heap.size k) (H.set s ao) := by
  have hle : G.le (G.birth s w.heap.size k) := Gh.le_birth hg
  have hsz : w'.heap.size = w.heap.size + 1 := by rw [hh]; simp
  have hpo : ∀ b, b < w.heap.size → w'.heap[b]? = w.heap[b]? := fun b hb => by rw [hh]; exact push_old hb
  have hbs : (G.birth s w.heap.size k).blk s = w.heap.size := by simp [Gh.birth]
  have hbn : ∀ {i : Nat}, i ≠ s → (G.birth s w.heap.size k).blk i = G.blk i := fun h => by simp [Gh.birth, h]
  have hgn : ∀ {i : Nat}, i ≠ s → (G.birth s w.heap.size k).gen i = G.gen i := fun h => by simp [Gh.birth, h]
  have get : ∀ {i : Nat}, i ≠ s → (H.set s ao).get i = H.get i := fun h => AH.get_set_ne ao h
  refine ⟨⟨by rw [AH.set_n]; exact hR.n, fun id hid => ?_, fun id hl => ?_, fun id hid hgi => ?_, fun i j hi hj he => ?_, fun i hi => ?_, fun b a h => ?_⟩, fun {w0 G0 H0} E h0 => ⟨E.le.trans hle, hos.trans E.os, htp.trans E.tape, hou.trans E.output, by have := E.size; omega, fun b hb hn => (hpo b (Nat.lt_of_lt_of_le hb E.size)).trans (E.keep b hb hn), fun id hl => ?_, by rw [AH.set_n]; exact E.n, E.zold, fun i hi hd' => ?_⟩⟩
  · rw [AH.set_n] at hid
    by_cases e : id = s
    · subst e; rw [AH.get_set_same ao hid]; exact ho
    · rw [get e]
      by_cases hl : (H.get id).live = true
      · exact (hR.obj id hid).mono hle (by rw [hR.n]; exact hid) (hgn e) (hpo _ (hR.blt id hl))
      · exact OR.dead_of (by simpa using hl)
  · by_cases e : id = s
    · subst e; simp [Gh.birth]
    · rw [get e] at hl; rw [hgn e]; exact hR.born id hl
  · rw [AH.set_n] at hid
    by_cases e : id = s
    · subst e; rw [hbs]; omega
    · rw [hgn e] at hgi; rw [hbn e]; have := hR.blt' id hid hgi; omega
  · by_cases e : i = s
    · by_cases e2 : j = s
      · omega
      · rw [get e2] at hj
        rw [hbn e2, e, hbs] at he
        have := hR.blt j hj; omega
    · rw [get e] at hi
      by_cases e2 : j = s
      · rw [hbn e, e2, hbs] at he
        have := hR.blt i hi; omega
      · rw [get e2] at hj
        rw [hbn e, hbn e2] at he
        exact hR.inj i j hi hj he
  · show G.z _ = none
    by_cases e : i = s
    · subst e; rw [hbs]
      cases hz : G.z w.heap.size with
      | none => rfl
      | some a => exact absurd (hR.lt hz) (Nat.lt_irrefl _)
    · rw [get e] at hi; rw [hbn e]; exact hR.zout i hi
  · obtain ⟨t, fr, h1⟩ := hR.zin b a h
    exact ⟨t, fr, by rw [hpo _ (hR.lt h)]; exact h1⟩
  · by_cases e : id = s
    · subst e; rw [hbs]; exact .inl E.size
    · rw [get e] at hl; rw [hbn e]; exact E.fresh id hl
  · have e : i ≠ s := by omega
    rw [get e, hgn e]
    exact E.dead i hi hd'
/-- a variable's block, in a place that was kept free -/
theorem Rel.birth_cells (hR : Rel w G H) {s : Nat} (hs : s < H.n) (hd : H.get s = .dead) (hg : G.gen s = 0) (arr : Array Value) (t : TypeId) (us : List AV) (hv : VRs G arr.toList us) (x : Nat) (hx : XR x t 0 arr.size arr.size) {w' : World} (hh : w'.heap = w.heap.push (.cells arr t (0, 0))) (hos : w'.os = w.os) (htp : w'.tape = w.tape) (hou : w'.output = w.output) :
    Rel w' (G.birth s w.heap.size arr.size) (H.set s (.cells us 1 x)) ∧ (∀ {w0 : World} {G0 : Gh} {H0 : AH}, Ext w0 G0 H0 w G H → H0.n ≤ s → Ext w0 G0 H0 w' (G.birth s w.heap.size arr.size) (H.set s (.cells us 1 x))) ∧
      VR (G.birth s w.heap.size arr.size) (.pointer (some ⟨w.heap.size, 0, none⟩)) (.ptr s 1 0) := by
  have hl := hv.length
  have := hR.birth hs hd hg (.cells arr t (0, 0)) arr.size (.cells us 1 x) hh hos htp hou ⟨by simp [Gh.birth], arr, t, (0, 0), ?_, by simp, ?_, ?_, ?_, hx.at0 (by simp [Gh.birth]) (by rw [← hl]; simp)⟩
  · refine ⟨this.1, this.2, ?_⟩
    simp only [VR]
    exact ⟨by show s < G.n; rw [hR.n]; exact hs, by simp [Gh.birth], _, rfl, fun _ => by simp [Gh.birth]⟩
  · have e : (G.birth s w.heap.size arr.size).blk s = w.heap.size := by simp [Gh.birth]
    rw [e, hh]; exact push_new _ _
  · simp [Gh.birth]
  · simp [Gh.birth]; rw [← hl]; simp
  · have e : (G.birth s w.heap.size arr.size).base s = 0 := by simp [Gh.birth]
    rw [e, List.drop_zero, ← hl, List.take_length]
    exact VRs.mono (Gh.le_birth hg) us _ hv
/-- a map's block -/
theorem Rel.birth_map (hR : Rel w G H) {s : Nat} (hs : s < H.n) (hd : H.get s = .dead) (hg : G.gen s = 0) {w' : World} (hh : w'.heap = w.heap.push (.map #[] 0)) (hos : w'.os = w.os) (htp : w'.tape = w.tape) (hou : w'.output = w.output) :
    Rel w' (G.birth s w.heap.size 0) (H.set s (.map [] 0)) ∧ (∀ {w0 : World} {G0 : Gh} {H0 : AH}, Ext w0 G0 H0 w G H → H0.n ≤ s → Ext w0 G0 H0 w' (G.birth s w.heap.size 0) (H.set s (.map [] 0))) ∧
      VR (G.birth s w.heap.size 0) (.map (some w.heap.size)) (.map s) := by
  have e : (G.birth s w.heap.size 0).blk s = w.heap.size := by simp [Gh.birth]
  have := hR.birth hs hd hg (.map #[] 0) 0 (.map [] 0) hh hos htp hou ⟨by simp [Gh.birth], #[], by rw [e, hh]; exact push_new _ _, by simp [ERs]⟩
  refine ⟨this.1, this.2, ?_⟩
  simp only [VR]
  exact ⟨by show s < G.n; rw [hR.n]; exact hs, by simp [Gh.birth], _, rfl, fun _ => by simp [Gh.birth]⟩
/-- a row's block -/
theorem Rel.birth_row (hR : Rel w G H) {s : Nat} (hs : s < H.n) (hd : H.get s = .dead) (hg : G.gen s = 0) (arr : Array Value) (t : TypeId) (us : List AV) (hv : VRs G arr.toList us) (len cap sz rm : Nat) (hl : len ≤ rm ∧ rm ≤ cap) (hc : cap * sz ≤ arr.size) {w' : World} (hh : w'.heap = w.heap.push (.cells arr t (0, 0))) (hos : w'.os = w.os) (htp : w'.tape = w.tape) (hou : w'.output = w.output) :
    Rel w' (G.birth s w.heap.size arr.size) (H.set s (.cells us 1 0)) ∧ (∀ {w0 : World} {G0 : Gh} {H0 : AH}, Ext w0 G0 H0 w G H → H0.n ≤ s → Ext w0 G0 H0 w' (G.birth s w.heap.size arr.size) (H.set s (.cells us 1 0))) ∧
      VR (G.birth s w.heap.size arr.size) (.slice (some ⟨w.heap.size, 0, none⟩) len cap) (.sl s 1 0 len sz rm) := by
  obtain ⟨h1, h2, _⟩ := hR.birth_cells hs hd hg arr t us hv 0 XR.zero hh hos htp hou
  refine ⟨h1, h2, ?_⟩
  simp only [VR]
  refine ⟨by show s < G.n; rw [hR.n]; exact hs, by simp [Gh.birth], _, cap, rfl, hl, fun _ => ?_⟩
  have e1 : (G.birth s w.heap.size arr.size).blk s = w.heap.size := by simp [Gh.birth]
  have e2 : (G.birth s w.heap.size arr.size).base s = 0 := by simp [Gh.birth]
  have e3 : (G.birth s w.heap.size arr.size).room s = arr.size := by simp [Gh.birth]
  rw [e1, e2, e3]
  exact ⟨rfl, rfl, fun _ => ⟨rfl, by show 0 + cap * sz ≤ _; omega⟩⟩
/-! ### what an operation makes, in a place that was kept free -/
def aBorn (T : Tab) (ρ : Operand → AV) (s : Nat) : Op → Option (AV × AObj)
  | .alloc t => match T.info? t with
    | some i => match i.zero with
      | some z => some (.ptr s 1 0, .cells (AV.cellsOf (.v z)) 1 (2 * t + 2))
      | none => none
    | none => none
  | .makeMap t none => match T.underlying t with
    | some (.map _ _) => some (.map s, .map [] 0)
    | _ => none
  | .makeSlice t l c => match T.underlying t, ρ l, ρ c with
    | some (.slice e), .v (.int _ n), .v (.int _ m) => match T.info? e with
      | some ie => match ie.zero, decide (0 ≤ n) && decide (n ≤ m) && decide ((ie.bytes : Int) * m ≤ 140737488355328) && decide (m ≤ 4611686018427387904) with
        | some z, true => some (.sl s 1 0 n.toNat ie.size m.toNat, .cells (zrow z.cells (m.toNat * ie.size)) 1 0)
        | _, _ => none
      | none => none
    | _, _, _ => none
  | .buildSlice t n ps => match T.underlying t with
    | some (.slice e) => match T.info? e with
      | some ie => match ie.zero, Nat.ble (n * ie.size) 16777216 with
        | some z, true => match aFill (fun i => some (i * ie.size, ie.size)) (zrow z.cells (n * ie.size)) (ps.toList.map fun (i, x) => (i, ρ x)) with
          | some cs => some (.sl s 1 0 n ie.size n, .cells cs 1 0)
          | none => none
        | _, _ => none
      | none => none
    | _ => none
  | .box t x => match (ρ x).sure with
    | true => some (.ptr s 1 0, .cells (ρ x).cellsOf 1 0)
    | false => none
  | _ => none
theorem makeSlice_run {T : Tab} (w : World) {t e : TypeId} {ie : TypeInfo} {z : Value} {k k' : IntKind} {n m : Int} (hu : T.underlying t = some (.slice e)) (hie : T.info? e = some ie) (hz : ie.zero = some z) (h1 : 0 ≤ n) (h2 : n ≤ m) (h3 : (ie.bytes : Int) * m ≤ 140737488355328) (h4 : m ≤ 4611686018427387904) :
    ∃ arr : Array Value, arr.size = m.toNat * ie.size ∧ (∀ G, VRs G arr.toList (zrow z.cells (m.toNat * ie.size))) ∧ (Instr.makeSlice t (.int k n) (.int k' m)).run T.P w = .ok (.slice (some ⟨w.heap.size, 0, none⟩) n.toNat m.toNat) (w.alloc (.cells arr e)) := by
  have w1 := wrap_i64 h1 (by omega)
  have w2 := wrap_i64 (n := m) (by omega) h4
  have hs : ((Array.range (m.toNat * ie.size)).map (z.cells[· % z.cells.size]!)).size = m.toNat * ie.size := by simp
  have hb : ¬ (ie.bytes : Int) * m > 2 ^ 48 := by omega
  have hrm : ∀ b, (askRoom b).run T.P w = .ok () w := fun b => by unfold askRoom; split <;> rfl
  by_cases h0 : m.toNat * ie.size = 0
  · refine ⟨#[], by simp [h0], fun G => by rw [h0]; simp [zrow, VRs], ?_⟩
    simp [Instr.makeSlice, run_underlying hu, asInt, asIntOf, run_tinfo hie, w1, w2, hb, hrm, run_tsize hie, h0, range0, newRow, Result.andThen]
    intro hh; exfalso; omega
  · refine ⟨_, hs, fun G => zrow_rel _ _, ?_⟩
    simp [Instr.makeSlice, run_underlying hu, asInt, asIntOf, run_tinfo hie, w1, w2, hb, hrm, run_tsize hie, h0, range0, newRow, Result.andThen]
    rw [if_neg (by omega), run_tzero hie hz]
theorem aBorn_sound {T : Tab} {cρ : Operand → Value} {ρ : Operand → AV} (hρ : ∀ x, VR G (cρ x) (ρ x)) (hR : Rel w G H) {s : Nat} (hs : s < H.n) (hd : H.get s = .dead) (hg : G.gen s = 0) {o : Oper} {u : AV} {ao : AObj} (h : aBorn T ρ s o.op = some (u, ao)) :
    ∃ v w' k, (execOp cρ o).run T.P w = .ok (.value v) w' ∧ Rel w' (G.birth s w.heap.size k) (H.set s ao) ∧ (∀ {w0 : World} {G0 : Gh} {H0 : AH}, Ext w0 G0 H0 w G H → H0.n ≤ s → Ext w0 G0 H0 w' (G.birth s w.heap.size k) (H.set s ao)) ∧ VR (G.birth s w.heap.size k) v u := by
  unfold aBorn at h
  split at h <;> try (cases h; done)
  · rename_i t hop
    split at h <;> try (cases h; done)
    rename_i i hi
    split at h <;> try (cases h; done)
    rename_i z hz
    simp only [Option.some.injEq, Prod.mk.injEq] at h
    obtain ⟨rfl, rfl⟩ := h
    have hc : VRs G z.cells.toList (AV.cellsOf (.v z)) := VR.cellsOf (G := G) (x := z) (u := .v z) (by simp [VR]) rfl
    obtain ⟨b1, b2, b3⟩ := Rel.birth_cells hR hs hd hg z.cells t _ hc (2 * t + 2) (XR.full rfl) (w' := w.alloc (.cells z.cells t)) rfl rfl rfl rfl
    exact ⟨_, _, _, by simp [execOp, hop, Instr.alloc, run_tzero hi hz, newVar, newRow, Result.andThen], b1, b2, b3⟩
  · rename_i t hop
    split at h <;> try (cases h; done)
    rename_i kt et hu
    simp only [Option.some.injEq, Prod.mk.injEq] at h
    obtain ⟨rfl, rfl⟩ := h
    obtain ⟨b1, b2, b3⟩ := Rel.birth_map hR hs hd hg (w' := w.alloc (.map #[] 0)) rfl rfl rfl rfl
    exact ⟨_, _, _, by simp [execOp, hop, Instr.makeMap, Result.andThen], b1, b2, b3⟩
  · rename_i t l c hop
    split at h <;> try (cases h; done)
    rename_i e k n k' m hu hl hc
    have hx := hρ l
    have hy := hρ c
    rw [hl] at hx
    rw [hc] at hy
    simp only [VR] at hx hy
    split at h <;> try (cases h; done)
    rename_i ie hie
    split at h <;> try (cases h; done)
    rename_i z hz hcc
    simp only [Bool.and_eq_true, decide_eq_true_eq] at hcc
    obtain ⟨⟨⟨h1, h2⟩, h3⟩, h4⟩ := hcc
    simp only [Option.some.injEq, Prod.mk.injEq] at h
    obtain ⟨rfl, rfl⟩ := h
    obtain ⟨arr, a1, a2, a3⟩ := makeSlice_run (T := T) (k := k) (k' := k') w hu hie hz h1 h2 h3 h4
    obtain ⟨b1, b2, b3⟩ := Rel.birth_row hR hs hd hg arr e _ (a2 G) n.toNat m.toNat ie.size m.toNat (by omega) (by omega) (w' := w.alloc (.cells arr e)) rfl rfl rfl rfl
    exact ⟨_, _, _, by simp only [execOp, hop, hx, hy, Sem.run_bind, a3, Result.andThen]; rfl, b1, b2, b3⟩
  · rename_i t len ps hop
    split at h <;> try (cases h; done)
    rename_i e hu
    split at h <;> try (cases h; done)
    rename_i ie hie
    split at h <;> try (cases h; done)
    rename_i z hz hle
    have hle' := Nat.le_of_ble_eq_true hle
    split at h <;> try (cases h; done)
    rename_i cs hcs
    simp only [Option.some.injEq, Prod.mk.injEq] at h
    obtain ⟨rfl, rfl⟩ := h
    have hp : PVs G (ps.map fun (i, x) => (i, cρ x)).toList (ps.toList.map fun (i, x) => (i, ρ x)) := by rw [Array.toList_map]; exact PVs.map_ops hρ _
    by_cases h0 : len * ie.size = 0
    · rw [h0] at hcs
      obtain ⟨rs, h1, h2, h3⟩ := aFill_sound (cs := #[]) hp (by simp [zrow, VRs]) hcs
      obtain ⟨b1, b2, b3⟩ := Rel.birth_row hR hs hd hg rs e _ h2 len len ie.size len ⟨Nat.le_refl _, Nat.le_refl _⟩ (by rw [h0]; exact Nat.zero_le _) (w' := w.alloc (.cells rs e)) rfl rfl rfl rfl
      refine ⟨_, _, _, ?_, b1, b2, b3⟩
      simp only [Array.toList_map] at h1
      simp [execOp, hop, Instr.buildSlice, run_underlying hu, run_tsize hie, h0, range0', h1, newRow, Result.andThen]
    · obtain ⟨rs, h1, h2, h3⟩ := aFill_sound hp (zrow_rel z.cells (len * ie.size)) hcs
      obtain ⟨b1, b2, b3⟩ := Rel.birth_row hR hs hd hg rs e _ h2 len len ie.size len ⟨Nat.le_refl _, Nat.le_refl _⟩ (by rw [h3]; simp) (w' := w.alloc (.cells rs e)) rfl rfl rfl rfl
      refine ⟨_, _, _, ?_, b1, b2, b3⟩
      have h16 : ¬ len * ie.size > 2 ^ 24 := by omega
      simp only [Array.toList_map] at h1
      simp [execOp, hop, Instr.buildSlice, run_underlying hu, run_tsize hie, run_tzero hie hz, h0, h16, h1, newRow, Result.andThen]
  · rename_i t x hop
    split at h <;> try (cases h; done)
    rename_i hsu
    simp only [Option.some.injEq, Prod.mk.injEq] at h
    obtain ⟨rfl, rfl⟩ := h
    have hc := (hρ x).cellsOf hsu
    obtain ⟨b1, b2, b3⟩ := Rel.birth_cells hR hs hd hg (cρ x).cells t _ hc 0 XR.zero (w' := w.alloc (.cells (cρ x).cells t)) rfl rfl rfl rfl
    exact ⟨_, _, _, by simp [execOp, hop, Instr.box, newVar, newRow, Result.andThen], b1, b2, b3⟩
end Go.Proofs.Ytlajcmoiopaemaa
