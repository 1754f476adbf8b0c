/- Operations over the abstract heap, each tied to the machine's. No program in sight. -/
import Derived.Test.YtlajcmoiopaemaaAv2
set_option linter.unusedVariables false
set_option linter.unusedSimpArgs false
noncomputable section
namespace Go.Proofs.Ytlajcmoiopaemaa
/-- a piece that looks at no memory -/
def pur {α : Type} (P : Program) : Sem α → Option (Except Value α)
  | .pure a => some (.ok a)
  | .program k => pur P (k P)
  | .mark _ k => pur P k
  | .halt (.panic v) => some (.error v)
  | _ => none
theorem pur_ok {α : Type} {P : Program} {a : α} : ∀ {s : Sem α}, pur P s = some (.ok a) → ∀ w, s.run P w = .ok a w
  | .pure b, h, w => by simp only [pur, Option.some.injEq, Except.ok.injEq] at h; subst h; rfl
  | .program k, h, w => by
    simp only [pur] at h
    exact pur_ok h w
  | .mark _ k, h, w => by
    simp only [pur] at h
    exact pur_ok h w
  | .halt x, h, w => by cases x <;> simp [pur] at h
  | .load .., h, w => by simp [pur] at h
  | .store .., h, w => by simp [pur] at h
  | .new .., h, w => by simp [pur] at h
  | .shape .., h, w => by simp [pur] at h
  | .freeze .., h, w => by simp [pur] at h
  | .frozen .., h, w => by simp [pur] at h
  | .getObj .., h, w => by simp [pur] at h
  | .setObj .., h, w => by simp [pur] at h
  | .choose .., h, w => by simp [pur] at h
  | .sys .., h, w => by simp [pur] at h
theorem pur_panic {α : Type} {P : Program} {v : Value} : ∀ {s : Sem α}, pur P s = some (.error v) → ∀ w, s.run P w = .halt (.panic v) w
  | .pure b, h, w => by simp [pur] at h
  | .program k, h, w => by
    simp only [pur] at h
    exact pur_panic h w
  | .mark _ k, h, w => by
    simp only [pur] at h
    exact pur_panic h w
  | .halt x, h, w => by cases x <;> simp [pur] at h; subst h; rfl
  | .load .., h, w => by simp [pur] at h
  | .store .., h, w => by simp [pur] at h
  | .new .., h, w => by simp [pur] at h
  | .shape .., h, w => by simp [pur] at h
  | .freeze .., h, w => by simp [pur] at h
  | .frozen .., h, w => by simp [pur] at h
  | .getObj .., h, w => by simp [pur] at h
  | .setObj .., h, w => by simp [pur] at h
  | .choose .., h, w => by simp [pur] at h
  | .sys .., h, w => by simp [pur] at h
/-- the program's types and functions, in trees -/
def HT.ofList {α : Type} : List α → Nat → HT α → HT α
  | [], _, t => t
  | x :: l, k, t => HT.ofList l (k + 1) (HT.put (k + 1) t k x)
theorem HT.get_ofList {α : Type} : ∀ (l : List α) (k : Nat) (t : HT α) (j : Nat) (x : α), (HT.ofList l k t).get j = some x → (k ≤ j ∧ l[j - k]? = some x) ∨ t.get j = some x
  | [], _, t, j, x, h => .inr h
  | y :: l, k, t, j, x, h => by
    rcases HT.get_ofList l (k + 1) _ j x h with ⟨h1, h2⟩ | h2
    · refine .inl ⟨by omega, ?_⟩
      rw [show j - k = (j - (k + 1)) + 1 by omega, List.getElem?_cons_succ]; exact h2
    · rw [HT.get_put _ _ _ _ _ (Nat.lt_succ_self k)] at h2
      split at h2
      · rename_i e; subst e; refine .inl ⟨Nat.le_refl _, ?_⟩; simpa using h2
      · exact .inr h2
structure Tab where
  P : Program
  ty : HT TypeInfo
  fn : HT Func
  tyOk : ∀ t i, ty.get t = some i → P.info? t = some i
  fnOk : ∀ f n, fn.get f = some n → P.funcs[f]? = some n ∧ ((n.body.isSome = true) → (n.name == "runtime.NumGoroutine") = false)
def Tab.info? (T : Tab) (t : TypeId) : Option TypeInfo := T.ty.get t
def Tab.underlying (T : Tab) (t : TypeId) : Option TypeDesc := match T.ty.get t with
  | some i => match i.desc with
    | .named _ u => match T.ty.get u with
      | some j => some j.desc
      | none => none
    | d => some d
  | none => none
theorem Tab.info_ok {T : Tab} {t : TypeId} {i : TypeInfo} (h : T.info? t = some i) : T.P.info? t = some i := T.tyOk t i h
theorem Tab.und_ok {T : Tab} {t : TypeId} {d : TypeDesc} (h : T.underlying t = some d) : T.P.underlying t = some d := by
  unfold Tab.underlying at h
  unfold Program.underlying
  split at h <;> try (cases h; done)
  rename_i i hi
  have h1 : T.P.info? t = some i := T.tyOk t i hi
  rw [h1]
  obtain ⟨desc, str, size, bytes, hp, al, fa, z, cm, ms⟩ := i
  simp only at h ⊢
  split at h
  · rename_i nm u
    split at h <;> simp only [Option.some.injEq, reduceCtorEq] at h
    rename_i j hj
    have h2 : T.P.info? u = some j := T.tyOk u j hj
    simp only [h2, Option.map_some]
    rw [h]
  · rename_i hne
    simp only [Option.some.injEq] at h
    subst h
    cases desc <;> first | rfl | (exact absurd rfl (hne _ _))
section
variable {T : Tab}
theorem run_underlying {t : TypeId} {d : TypeDesc} (h : T.underlying t = some d) (w : World) : (underlying t).run T.P w = .ok d w := _root_.Go.run_underlying (Tab.und_ok h) w
theorem run_tinfo {t : TypeId} {i : TypeInfo} (h : T.info? t = some i) (w : World) : (typeInfo t).run T.P w = .ok i w := run_typeInfo (w := w) (Tab.info_ok h)
theorem run_tsize {t : TypeId} {i : TypeInfo} (h : T.info? t = some i) (w : World) : (sizeOf t).run T.P w = .ok i.size w := by
  simp [sizeOf, run_tinfo h, Result.andThen]
theorem run_tzero {t : TypeId} {i : TypeInfo} {z : Value} (h : T.info? t = some i) (hz : i.zero = some z) (w : World) : (zeroValue t).run T.P w = .ok z w := by
  simp [zeroValue, run_tinfo h, hz, Result.andThen]
end
section
variable {T : Tab} {w : World} {G : Gh} {H : AH}
def RunsV (P : Program) (s : Sem Value) (w : World) (G : Gh) (H : AH) (u : AV) (H' : AH) : Prop :=
  ∃ x w' G', s.run P w = .ok x w' ∧ Ext w G H w' G' H' ∧ Rel w' G' H' ∧ VR G' x u
def RunsU (P : Program) (s : Sem Unit) (w : World) (G : Gh) (H : AH) (H' : AH) : Prop :=
  ∃ w' G', s.run P w = .ok () w' ∧ Ext w G H w' G' H' ∧ Rel w' G' H'
theorem RunsV.same {s : Sem Value} {x : Value} {u : AV} (hR : Rel w G H) (h : s.run T.P w = .ok x w) (hv : VR G x u) : RunsV T.P s w G H u H := ⟨x, w, G, h, .refl _ _ _, hR, hv⟩
def tagg : TypeDesc → Bool
  | .struct _ | .array _ _ => true
  | _ => false
theorem run_tagg {t : TypeId} {d : TypeDesc} (h : T.underlying t = some d) (w : World) : (isAgg t).run T.P w = .ok (tagg d) w := by
  simp only [isAgg, Sem.run_bind, run_underlying h, Result.andThen_ok]
  cases d <;> rfl
/-! ### blocks that are made -/
theorem pushCells (hR : Rel w G H) (arr : Array Value) (t : TypeId) (fr : Nat × Nat) (us : List AV) (hv : VRs G (arr.toList.take us.length) us) (hl : us.length ≤ arr.size) (hf : ∀ k, k < arr.size → ¬ (fr.1 ≤ k ∧ k < fr.2)) (x : Nat) (hx : XR x t 0 arr.size us.length)
    {w' : World} (hh : w'.heap = w.heap.push (.cells arr t fr)) (hos : w'.os = w.os) (htp : w'.tape = w.tape) (hou : w'.output = w.output) :
    ∃ G', Ext w G H w' G' (H.push (.cells us 1 x)) ∧ Rel w' G' (H.push (.cells us 1 x)) ∧
      (∀ off, VR G' (.pointer (some ⟨w.heap.size, off, none⟩)) (.ptr H.n 1 off)) ∧ (∀ len cap sz rm, (len ≤ rm ∧ rm ≤ cap) → cap * sz ≤ arr.size → VR G' (.slice (some ⟨w.heap.size, 0, none⟩) len cap) (.sl H.n 1 0 len sz rm)) := by
  have hn := hR.n
  have hle := Gh.le_new hR arr.size
  have := hR.push (.cells arr t fr) arr.size (.cells us 1 x) hh hos htp hou ⟨by simp [Gh.new, hn], arr, t, fr, ?_, hf, ?_, ?_, ?_, hx.at0 (by simp [Gh.new, hn]) rfl⟩
  · refine ⟨G.new w.heap.size arr.size, this.2, this.1, fun off => ?_, fun len cap sz rm h1 h2 => ?_⟩
    · simp only [VR]
      refine ⟨by simp [Gh.new, hn], by simp [Gh.new, hn], _, rfl, fun _ => by simp [Gh.new, hn]⟩
    · simp only [VR]
      refine ⟨by simp [Gh.new, hn], by simp [Gh.new, hn], _, cap, rfl, h1, fun _ => by simp [Gh.new, hn]; intro _; exact h2⟩
  · have e : (G.new w.heap.size arr.size).blk H.n = w.heap.size := by simp [Gh.new, hn]
    rw [e, hh]; exact push_new _ _
  · simp [Gh.new, hn]
  · simp [Gh.new, hn]; exact hl
  · have e : (G.new w.heap.size arr.size).base H.n = 0 := by simp [Gh.new, hn]
    rw [e, List.drop_zero]
    exact VRs.mono hle _ _ hv
theorem pushObj (hR : Rel w G H) (o : Obj) (ao : AObj) {w' : World} (hh : w'.heap = w.heap.push o) (hos : w'.os = w.os) (htp : w'.tape = w.tape) (hou : w'.output = w.output)
    (hO : ∀ G' : Gh, G.le G' → G'.n = H.n + 1 → G'.gen H.n = 1 → G'.base H.n = 0 → G'.blk H.n = w.heap.size → OR w' G' H.n ao) :
    ∃ G', Ext w G H w' G' (H.push ao) ∧ Rel w' G' (H.push ao) ∧ G'.blk H.n = w.heap.size ∧ G'.gen H.n = 1 ∧ G'.base H.n = 0 ∧ H.n < G'.n := by
  have hn := hR.n
  have hle := Gh.le_new hR 0
  have := hR.push o 0 ao hh hos htp hou (hO _ hle (by simp [Gh.new, hn]) (by simp [Gh.new, hn]) (by simp [Gh.new, hn]) (by simp [Gh.new, hn]))
  exact ⟨_, this.2, this.1, by simp [Gh.new, hn], by simp [Gh.new, hn], by simp [Gh.new, hn], by simp [Gh.new, hn]⟩
theorem OR.heap_eq {w' : World} {id : Nat} {o : AObj} (hh : w'.heap = w.heap) (h : OR w G id o) : OR w' G id o := by
  cases o <;> simp only [OR, hh] at h ⊢ <;> exact h
/-- worlds that differ in the tape's place alone -/
theorem Rel.heap_eq {w' : World} (hR : Rel w G H) (hh : w'.heap = w.heap) : Rel w' G H := by
  obtain ⟨a, b, b', c, d, e, f⟩ := hR
  exact ⟨a, fun id hid => (b id hid).heap_eq hh, b', fun id hid hg => by rw [hh]; exact c id hid hg, d, e, fun b a hb => by rw [hh]; exact f b a hb⟩
theorem Ext.heap_eq {w' : World} (G : Gh) (H : AH) (hh : w'.heap = w.heap) (hos : w'.os = w.os) (htp : w'.tape = w.tape) (hou : w'.output = w.output) : Ext w G H w' G H :=
  ⟨.refl G, hos, htp, hou, by rw [hh]; exact Nat.le_refl _, fun _ _ _ => by rw [hh], fun id h => .inr ⟨id, h, rfl⟩, Nat.le_refl _, fun _ _ => rfl, fun _ _ h => ⟨h, rfl⟩⟩
def aAlloc (T : Tab) (t : TypeId) (H : AH) : Option (AV × AH) :=
  match T.info? t with
  | some i => match i.zero with
    | some z => some (.ptr H.n 1 0, H.push (.cells (AV.cellsOf (.v z)) 1 (2 * t + 2)))
    | none => none
  | none => none
theorem aAlloc_sound (hR : Rel w G H) {t : TypeId} {u : AV} {H' : AH} (h : aAlloc T t H = some (u, H')) : RunsV T.P (Instr.alloc t true (.tuple #[])) w G H u H' := by
  unfold aAlloc at h
  split at h <;> try (cases h; done)
  rename_i i hi
  split at h <;> try (cases h; done)
  rename_i z hz
  simp only [Option.some.injEq, Prod.mk.injEq] at h
  obtain ⟨rfl, rfl⟩ := h
  have hc := VR.cellsOf (G := G) (x := z) (u := .v z) (by simp [VR]) rfl
  have hl := hc.length
  obtain ⟨G', h1, h2, h3, _⟩ := pushCells hR z.cells t (0, 0) (AV.cellsOf (.v z)) (by rw [← hl, List.take_length]; exact hc) (by simpa using Nat.le_of_eq hl.symm) (by simp) (2 * t + 2) (XR.full (by simpa using hl)) (w' := w.alloc (.cells z.cells t)) rfl rfl rfl rfl
  exact ⟨_, _, G', by simp [Instr.alloc, run_tzero hi hz, newVar, newRow, Result.andThen], h1, h2, h3 0⟩
def aBox (u : AV) (H : AH) : Option (AV × AH) := match u.sure with
  | true => some (.ptr H.n 1 0, H.push (.cells u.cellsOf 1 0))
  | false => none
theorem aBox_sound (hR : Rel w G H) (t : TypeId) {x : Value} {u r : AV} {H' : AH} (hx : VR G x u) (h : aBox u H = some (r, H')) : RunsV T.P (Instr.box t x) w G H r H' := by
  unfold aBox at h
  split at h <;> try (cases h; done)
  rename_i hs
  simp only [Option.some.injEq, Prod.mk.injEq] at h
  obtain ⟨rfl, rfl⟩ := h
  have hc := hx.cellsOf hs
  have hl := hc.length
  obtain ⟨G', h1, h2, h3, _⟩ := pushCells hR x.cells t (0, 0) u.cellsOf (by rw [← hl, List.take_length]; exact hc) (by simpa using Nat.le_of_eq hl.symm) (by simp) 0 XR.zero (w' := w.alloc (.cells x.cells t)) rfl rfl rfl rfl
  exact ⟨_, _, G', by simp [Instr.box, newVar, newRow, Result.andThen], h1, h2, h3 0⟩
/-! ### reading and writing -/
def aLoad (T : Tab) (t : TypeId) (u : AV) (H : AH) : Option AV :=
  match T.underlying t, T.info? t, u.place with
  | some d, some i, some p => match tagg d with
    | true => match rd H p i.size with
      | some us => some (.agg us)
      | none => none
    | false => match rd H p 1 with
      | some [x] => some x
      | _ => none
  | _, _, _ => none
theorem aLoad_sound (hR : Rel w G H) {t : TypeId} {x : Value} {u r : AV} (hx : VR G x u) (h : aLoad T t u H = some r) : RunsV T.P (Instr.loadAt t x) w G H r H := by
  unfold aLoad at h
  split at h <;> try (cases h; done)
  rename_i d i p hd hi hp
  obtain ⟨a, rfl, ha⟩ := hx.addr hp
  split at h
  · rename_i hg
    split at h <;> try (cases h; done)
    rename_i us hus
    simp only [Option.some.injEq] at h
    subst h
    obtain ⟨xs, h1, h2, h3⟩ := rd_sound hR ha hus
    refine .same hR (x := .agg xs.toArray) ?_ (by simp only [VR]; exact ⟨xs, rfl, h2⟩)
    have hl := run_loadCells_list (P := T.P) w a xs (fun j v hj => h3 j v hj)
    simp [Instr.loadAt, Instr.sureAddr, loadVar, run_tagg hd, hg, run_tsize hi, ← h1, hl, Result.andThen]
  · rename_i hg
    split at h <;> try (cases h; done)
    rename_i y hus
    simp only [Option.some.injEq] at h
    subst h
    obtain ⟨xs, h1, h2, h3⟩ := rd_sound hR ha hus
    simp only [VRs] at h2
    obtain ⟨z, _, rfl, h4, _⟩ := h2
    refine .same hR (x := z) ?_ h4
    have hc := h3 0 z rfl
    have : a.add 0 = a := by unfold Addr.add; rfl
    rw [this] at hc
    simp [Instr.loadAt, Instr.sureAddr, loadVar, run_tagg hd, hg, run_load, hc, Result.andThen]
def aStore (T : Tab) (t : TypeId) (u v : AV) (H : AH) : Option AH :=
  match T.info? t, u.place with
  | some i, some p => match v.sure && Nat.beq v.cellsOf.length i.size with
    | true => wr H p v.cellsOf
    | false => none
  | _, _ => none
theorem aStore_sound (hR : Rel w G H) {t : TypeId} {x y : Value} {u v : AV} {H' : AH} (hx : VR G x u) (hy : VR G y v) (h : aStore T t u v H = some H') : RunsU T.P (Instr.storeAt t x y) w G H H' := by
  unfold aStore at h
  split at h <;> try (cases h; done)
  rename_i i p hi hp
  obtain ⟨a, rfl, ha⟩ := hx.addr hp
  split at h <;> try (cases h; done)
  rename_i hl
  rw [Bool.and_eq_true, Nat.beq_eq] at hl
  obtain ⟨hsu, hl⟩ := hl
  have hc := hy.cellsOf hsu
  have hcl := hc.length
  obtain ⟨w', h1, h2, h3⟩ := wr_sound (P := T.P) hR ha hc h
  refine ⟨w', G, ?_, h2, h3⟩
  have : y.cells.size = i.size := by simpa [hl] using hcl
  simp [Instr.storeAt, Instr.sureAddr, storeVar, run_tsize hi, this, h1, Result.andThen]
def aFieldAddr (T : Tab) (s : TypeId) (u : AV) (f : Nat) : Option AV :=
  match T.underlying s, u.place with
  | some (.struct fields), some p => match fields[f]? with
    | some fd => match T.info? fd.type with
      | some i => match i.size with
        | 0 => none
        | _ + 1 => some (p.add fd.offset).ptr
      | none => none
    | none => none
  | _, _ => none
theorem aFieldAddr_sound (hR : Rel w G H) {s : TypeId} {x : Value} {u r : AV} {f : Nat} (hx : VR G x u) (h : aFieldAddr T s u f = some r) : RunsV T.P (Instr.fieldAt s x f) w G H r H := by
  unfold aFieldAddr at h
  split at h <;> try (cases h; done)
  rename_i fields p hd hp
  split at h <;> try (cases h; done)
  rename_i fd hf
  split at h <;> try (cases h; done)
  rename_i i hi
  split at h <;> try (cases h; done)
  rename_i k hk
  simp only [Option.some.injEq] at h
  subst h
  obtain ⟨a, rfl, ha⟩ := hx.addr hp
  refine .same hR ?_ (ha.add fd.offset).vr
  simp [Instr.fieldAt, run_underlying hd, hf, Instr.sureAddr, fieldPlace, run_tsize hi, hk, Result.andThen]
def aPart (T : Tab) (t : TypeId) (cs : List AV) (off : Nat) : Option AV :=
  match T.underlying t, T.info? t with
  | some d, some i => match tagg d with
    | true => some (.agg ((cs.drop off).take i.size))
    | false => cs[off]?
  | _, _ => none
theorem aPart_sound {t : TypeId} {xs : List Value} {cs : List AV} {off : Nat} {r : AV} (hx : VRs G xs cs) (h : aPart T t cs off = some r) (w : World) : ∃ x, (part t ⟨xs⟩ off).run T.P w = .ok x w ∧ VR G x r := by
  unfold aPart at h
  split at h <;> try (cases h; done)
  rename_i d i hd hi
  split at h
  · rename_i hg
    simp only [Option.some.injEq] at h
    subst h
    refine ⟨.agg ((xs.drop off).take i.size).toArray, ?_, by simp only [VR]; exact ⟨_, rfl, (hx.drop off).take _⟩⟩
    simp only [part, Sem.run_bind, run_tagg hd, hg, if_true, run_tsize hi, Result.andThen_ok, Sem.run_pure]
    congr 2
    apply Array.ext'
    simp [Array.toList_extract, List.extract_eq_take_drop]
  · rename_i hg
    obtain ⟨x, h1, h2⟩ := hx.get off r h
    refine ⟨x, ?_, h2⟩
    have : (⟨xs⟩ : Array Value)[off]? = some x := by simpa using h1
    simp [part, run_tagg hd, hg, this, Result.andThen]
def aField (T : Tab) (t : TypeId) (u : AV) (f : Nat) : Option AV :=
  match T.underlying t, u.norm with
  | some (.struct fields), .agg cs => match fields[f]? with
    | some fd => aPart T fd.type cs fd.offset
    | none => none
  | _, _ => none
theorem aField_sound (hR : Rel w G H) {t : TypeId} {x : Value} {u r : AV} {f : Nat} (hx : VR G x u) (h : aField T t u f = some r) : RunsV T.P (Instr.field t x f) w G H r H := by
  unfold aField at h
  split at h <;> try (cases h; done)
  rename_i fields cs hd hn
  split at h <;> try (cases h; done)
  rename_i fd hf
  have hx' := hx.norm
  rw [hn] at hx'
  simp only [VR] at hx'
  obtain ⟨xs, rfl, h2⟩ := hx'
  obtain ⟨y, h3, h4⟩ := aPart_sound h2 h w
  refine .same hR ?_ h4
  simp [Instr.field, run_underlying hd, hf, asAgg, h3, Result.andThen]
def inRange (n : Int) (len : Nat) : Bool := decide (0 ≤ n) && decide (n < (len : Int))
def aIndexAddr (T : Tab) (t : TypeId) (u i : AV) : Option AV :=
  match T.underlying t, i with
  | some (.array len elem), .v (.int _ n) => match u.place, T.info? elem, inRange n len with
    | some p, some ie, true => some (p.add (n.toNat * ie.size)).ptr
    | _, _, _ => none
  | some (.slice elem), .v (.int _ n) => match u, T.info? elem with
    | .sl id g off len sz rm, some ie => match inRange n len && Nat.beq ie.size sz with
      | true => some (.ptr id g (off + n.toNat * sz))
      | false => none
    | .csl cells off len sz, some ie => match inRange n len && Nat.beq ie.size sz with
      | true => some (.cptr cells (off + n.toNat * sz))
      | false => none
    | _, _ => none
  | _, _ => none
theorem aIndexAddr_sound (hR : Rel w G H) {t : TypeId} {x y : Value} {u i r : AV} (hx : VR G x u) (hy : VR G y i) (h : aIndexAddr T t u i = some r) : RunsV T.P (Instr.indexAt t x y) w G H r H := by
  unfold aIndexAddr at h
  split at h <;> try (cases h; done)
  · rename_i len elem k n hd
    simp only [VR] at hy
    subst hy
    split at h <;> try (cases h; done)
    rename_i p ie hp hi hr
    simp only [Option.some.injEq] at h
    subst h
    simp only [inRange, Bool.and_eq_true, decide_eq_true_eq] at hr
    obtain ⟨a, rfl, ha⟩ := hx.addr hp
    refine .same hR ?_ (ha.add (n.toNat * ie.size)).vr
    simp [Instr.indexAt, asIntOf, run_underlying hd, Instr.sureAddr, run_tsize hi, hr.1, hr.2, Result.andThen]
  · rename_i elem k n hd
    simp only [VR] at hy
    subst hy
    split at h <;> try (cases h; done)
    · rename_i id g off len sz ie hi
      split at h <;> try (cases h; done)
      rename_i hr
      simp only [Option.some.injEq] at h
      subst h
      simp only [inRange, Bool.and_eq_true, decide_eq_true_eq, Nat.beq_eq] at hr
      obtain ⟨⟨hr1, hr2⟩, rfl⟩ := hr
      simp only [VR] at hx
      obtain ⟨h1, h2, a, cap, rfl, h4, h5⟩ := hx
      refine .same hR (x := .pointer (some (a.add (n.toNat * ie.size)))) ?_ ?_
      · simp [Instr.indexAt, asIntOf, run_underlying hd, run_tsize hi, hr1, hr2, Result.andThen]
      · simp only [VR]
        refine ⟨h1, h2, _, rfl, fun e => ?_⟩
        obtain ⟨e1, e2, e3⟩ := h5 e
        obtain ⟨e4, _⟩ := e3 (by omega)
        obtain ⟨b, o, s⟩ := a
        simp only at e1 e2 e4
        subst e1 e2 e4
        rw [add_at, Nat.add_assoc]
    · rename_i cells off len sz ie hi
      split at h <;> try (cases h; done)
      rename_i hr
      simp only [Option.some.injEq] at h
      subst h
      simp only [inRange, Bool.and_eq_true, decide_eq_true_eq, Nat.beq_eq] at hr
      obtain ⟨⟨hr1, hr2⟩, rfl⟩ := hr
      simp only [VR] at hx
      obtain ⟨b, base, arr, o, cap, h1, rfl, h3, h4, h5, h6⟩ := hx
      refine .same hR (x := .pointer (some ((⟨b, o, none⟩ : Addr).add (n.toNat * ie.size)))) ?_ ?_
      · simp [Instr.indexAt, asIntOf, run_underlying hd, run_tsize hi, hr1, hr2, Result.andThen]
      · simp only [VR]
        refine ⟨b, base, arr, h1, ?_, h5, h6⟩
        rw [add_at, h4 (by omega), Nat.add_assoc]
def nthL {α : Type} (l : List α) (n : Nat) : Option α := @List.rec α (fun _ => Nat → Option α) (fun _ => none) (fun x _ ih n => @Nat.rec (fun _ => Option α) (some x) (fun k _ => ih k) n) l n
theorem nthL_eq {α : Type} : ∀ (l : List α) (n : Nat), nthL l n = l[n]?
  | [], _ => rfl
  | _ :: _, 0 => rfl
  | x :: l, n + 1 => by rw [List.getElem?_cons_succ, ← nthL_eq l n]; rfl
def aIndex (T : Tab) (t : TypeId) (u i : AV) : Option AV :=
  match T.underlying t, i, u.norm with
  | some .string, .v (.int _ (.ofNat m)), .v (.string s) => match nthL s.data.toList m with
    | some b => some (.v (.int .u8 b.toNat))
    | none => none
  | some (.array len elem), .v (.int _ n), .agg cs => match T.info? elem, inRange n len with
    | some ie, true => aPart T elem cs (n.toNat * ie.size)
    | _, _ => none
  | _, _, _ => none
theorem aIndex_sound (hR : Rel w G H) {t : TypeId} {x y : Value} {u i r : AV} (hx : VR G x u) (hy : VR G y i) (h : aIndex T t u i = some r) : RunsV T.P (Instr.index t x y) w G H r H := by
  unfold aIndex at h
  split at h <;> try (cases h; done)
  · rename_i k m s hd hn
    simp only [VR] at hy
    subst hy
    split at h <;> simp only [Option.some.injEq, reduceCtorEq] at h
    rename_i b hb
    subst h
    have hx' := hx.norm
    rw [hn] at hx'
    simp only [VR] at hx'
    subst hx'
    refine .same hR (x := .int .u8 b.toNat) ?_ (by simp [VR])
    rw [nthL_eq, Array.getElem?_toList] at hb
    have hs : s[m]? = some b := by
      rw [Array.getElem?_eq_some_iff] at hb
      obtain ⟨h1, h2⟩ := hb
      have h1' : m < s.size := h1
      rw [getElem?_pos s m h1']
      exact congrArg some h2
    simp [Instr.index, asIntOf, run_underlying hd, hs, Result.andThen]
  · rename_i len elem k n cs hd hn
    simp only [VR] at hy
    subst hy
    split at h <;> try (cases h; done)
    rename_i ie hi hr
    simp only [inRange, Bool.and_eq_true, decide_eq_true_eq] at hr
    have hx' := hx.norm
    rw [hn] at hx'
    simp only [VR] at hx'
    obtain ⟨xs, rfl, h2⟩ := hx'
    obtain ⟨y, h3, h4⟩ := aPart_sound h2 h w
    refine .same hR ?_ h4
    simp [Instr.index, asIntOf, run_underlying hd, run_tsize hi, hr.1, hr.2, h3, Result.andThen]
end
end Go.Proofs.Ytlajcmoiopaemaa
