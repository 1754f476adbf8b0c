/- More operations over the abstract heap: what is built, slices, append. No program in sight. -/
import Derived.Test.YtlajcmoiopaemaaAv3
import Derived.Laws.Tables
import Derived.Laws.Append
import Derived.Laws.NewFold
set_option linter.unusedVariables false
set_option linter.unusedSimpArgs false
noncomputable section
namespace Go.Proofs.Ytlajcmoiopaemaa
section
variable {T : Tab} {w : World} {G : Gh} {H : AH}
/-! ### build, buildSlice -/
def aFill (place : Nat → Option (Nat × Nat)) (cells : List AV) : List (Nat × AV) → Option (List AV)
  | [] => some cells
  | (i, u) :: rest => match place i with
    | none => none
    | some (off, size) => match u.sure && Nat.beq u.cellsOf.length size && Nat.ble (off + u.cellsOf.length) cells.length with
      | true => aFill place (lay cells off u.cellsOf) rest
      | false => none
theorem foldl_lay (off : Nat) : ∀ (xs : List Value) (k : Nat) (cs : Array Value), off + k + xs.length ≤ cs.size →
    ((xs.zipIdx k).foldl (fun cs (c, j) => cs.setIfInBounds (off + j) c) cs).toList = cs.toList.take (off + k) ++ xs ++ cs.toList.drop (off + k + xs.length)
  | [], k, cs, h => by simp
  | x :: xs, k, cs, h => by
    simp only [List.length_cons] at h
    rw [List.zipIdx_cons, List.foldl_cons, foldl_lay off xs (k + 1) _ (by simp; omega)]
    rw [Array.toList_setIfInBounds]
    have hl : off + k < cs.toList.length := by simpa using (by omega : off + k < cs.size)
    rw [List.set_eq_take_append_cons_drop, if_pos hl]
    have h1 : (cs.toList.take (off + k)).length = off + k := by rw [List.length_take]; omega
    have t1 : (cs.toList.take (off + k)).take (off + (k + 1)) = cs.toList.take (off + k) := List.take_of_length_le (by omega)
    have t2 : (cs.toList.take (off + k)).drop (off + (k + 1) + xs.length) = [] := List.drop_of_length_le (by omega)
    rw [List.take_append, List.drop_append, h1, t1, t2]
    rw [show off + (k + 1) - (off + k) = 1 by omega, show off + (k + 1) + xs.length - (off + k) = xs.length + 1 by omega]
    simp only [List.take_succ_cons, List.take_zero, List.drop_succ_cons, List.nil_append, List.drop_drop, List.length_cons, List.append_assoc, List.cons_append]
    congr 4
    omega
def PVs (G : Gh) : List (Nat × Value) → List (Nat × AV) → Prop
  | xs, [] => xs = []
  | xs, (i, u) :: r => ∃ x ys, xs = (i, x) :: ys ∧ VR G x u ∧ PVs G ys r
theorem aFill_sound {place : Nat → Option (Nat × Nat)} : ∀ {parts : List (Nat × AV)} {xs : List (Nat × Value)} {cells : List AV} {cs : Array Value} {r : List AV}, PVs G xs parts → VRs G cs.toList cells → aFill place cells parts = some r →
    ∃ rs : Array Value, Instr.fill place cs xs = some rs ∧ VRs G rs.toList r ∧ rs.size = cs.size
  | [], xs, cells, cs, r, hp, hc, h => by
    simp only [PVs] at hp; subst hp
    simp only [aFill, Option.some.injEq] at h; subst h
    exact ⟨cs, rfl, hc, rfl⟩
  | (i, u) :: rest, xs, cells, cs, r, hp, hc, h => by
    simp only [PVs] at hp
    obtain ⟨x, ys, rfl, h1, h2⟩ := hp
    simp only [aFill] at h
    split at h <;> try (cases h; done)
    rename_i off size hpl
    split at h <;> try (cases h; done)
    rename_i hcond
    simp only [Bool.and_eq_true, Nat.beq_eq, Nat.ble_eq] at hcond
    obtain ⟨⟨e0, e1⟩, e2⟩ := hcond
    have hx := h1.cellsOf e0
    have hxl : x.cells.size = u.cellsOf.length := by simpa using hx.length
    have hcl := hc.length
    rw [Array.length_toList] at hcl
    have hfold : (x.cells.zipIdx.foldl (fun cs (c, j) => cs.setIfInBounds (off + j) c) cs).toList = cs.toList.take off ++ x.cells.toList ++ cs.toList.drop (off + x.cells.toList.length) := by
      rw [← Array.foldl_toList, Array.toList_zipIdx]
      have := foldl_lay off x.cells.toList 0 cs (by simp; omega)
      simpa using this
    have hnew : VRs G (x.cells.zipIdx.foldl (fun cs (c, j) => cs.setIfInBounds (off + j) c) cs).toList (lay cells off u.cellsOf) := by
      rw [hfold, lay_eq _ _ _ e2, Array.length_toList, hxl]
      exact ((hc.take off).append hx).append (hc.drop _)
    obtain ⟨rs, h3, h4, h5⟩ := aFill_sound h2 hnew h
    refine ⟨rs, ?_, h4, ?_⟩
    · simp only [Instr.fill, hpl]
      rw [if_neg (by simp [hxl, e1]; omega)]
      exact h3
    · rw [h5]
      have := congrArg List.length hfold
      rw [Array.length_toList] at this
      rw [this]; simp; omega
def aBuild (T : Tab) (t : TypeId) (parts : List (Nat × AV)) : Option AV :=
  match T.info? t, T.underlying t with
  | some it, some (.array _ e) => match it.zero, T.info? e with
    | some z, some ie => match aFill (fun i => some (i * ie.size, ie.size)) (AV.cellsOf (.v z)) parts with
      | some cs => some (.agg cs)
      | none => none
    | _, _ => none
  | some it, some (.struct fields) => match it.zero, fields.toList.mapM (fun f => (T.info? f.type).map fun i => (f.offset, i.size)) with
    | some z, some places => match aFill (fun i => places[i]?) (AV.cellsOf (.v z)) parts with
      | some cs => some (.agg cs)
      | none => none
    | _, _ => none
  | _, _ => none
theorem places_ok : ∀ (fs : List Field) (places : List (Nat × Nat)), fs.mapM (fun f => (T.info? f.type).map fun i => (f.offset, i.size)) = some places → fs.mapM (fun f => (T.P.info? f.type).map fun i => (f.offset, i.size)) = some places
  | [], places, h => by simpa using h
  | f :: fs, places, h => by
    simp only [List.mapM_cons, Option.bind_eq_bind, Option.pure_def] at h ⊢
    cases hi : T.info? f.type with
    | none => simp [hi] at h
    | some i =>
      cases hr : fs.mapM (fun f => (T.info? f.type).map fun i => (f.offset, i.size)) with
      | none => simp [hi, hr] at h
      | some rest =>
        simp [hi, hr] at h
        subst h
        simp [Tab.info_ok hi, places_ok fs rest hr]
theorem aBuild_sound (hR : Rel w G H) {t : TypeId} {xs : Array (Nat × Value)} {parts : List (Nat × AV)} {r : AV} (hp : PVs G xs.toList parts) (h : aBuild T t parts = some r) : RunsV T.P (Instr.build t xs) w G H r H := by
  have hz0 : ∀ z : Value, VRs G z.cells.toList (AV.cellsOf (.v z)) := fun z => VR.cellsOf (G := G) (x := z) (u := .v z) (by simp [VR]) rfl
  unfold aBuild at h
  split at h <;> try (cases h; done)
  · rename_i it n e hit hu
    split at h <;> try (cases h; done)
    rename_i z ie hz hie
    split at h <;> try (cases h; done)
    rename_i cs hcs
    simp only [Option.some.injEq] at h
    subst h
    obtain ⟨rs, h1, h2, h3⟩ := aFill_sound hp (hz0 z) hcs
    refine .same hR (x := .agg rs) (run_build w t xs rs ?_) (by simp only [VR]; exact ⟨rs.toList, rfl, h2⟩)
    simp only [Program.built, Tab.info_ok hit, Tab.und_ok hu, hz, Tab.info_ok hie]; exact h1
  · rename_i it fields hit hu
    split at h <;> try (cases h; done)
    rename_i z places hz hpl
    split at h <;> try (cases h; done)
    rename_i cs hcs
    simp only [Option.some.injEq] at h
    subst h
    obtain ⟨rs, h1, h2, h3⟩ := aFill_sound hp (hz0 z) hcs
    refine .same hR (x := .agg rs) (run_build w t xs rs ?_) (by simp only [VR]; exact ⟨rs.toList, rfl, h2⟩)
    simp only [Program.built, Tab.info_ok hit, Tab.und_ok hu, hz, places_ok _ _ hpl]
    have : (fun x : Nat => places.toArray[x]?) = fun i : Nat => places[i]? := by funext i; simp
    rw [this]; exact h1
def zrow (z : Array Value) (n : Nat) : List AV := (List.range n).map fun i => .v (z[i % z.size]!)
theorem range0' (f : Nat → Value) : (Array.range 0).map f = #[] := by simp
theorem zrow_rel (z : Array Value) (n : Nat) : VRs G ((Array.range n).map (z[· % z.size]!)).toList (zrow z n) := by
  have : zrow z n = (((Array.range n).map (z[· % z.size]!)).toList).map AV.v := by
    simp [zrow, List.map_map, Function.comp_def]
  rw [this]
  exact VRs.map_v G _
theorem zrow_length (z : Array Value) (n : Nat) : (zrow z n).length = n := by simp [zrow]
def aBuildSlice (T : Tab) (t : TypeId) (len : Nat) (parts : List (Nat × AV)) (H : AH) : Option (AV × AH) :=
  match T.underlying t with
  | some (.slice e) => match T.info? e with
    | some ie => match ie.zero, Nat.ble (len * ie.size) 16777216 with
      | some z, true => match aFill (fun i => some (i * ie.size, ie.size)) (zrow z.cells (len * ie.size)) parts with
        | some cs => some (.sl H.n 1 0 len ie.size len, H.push (.cells cs 1 0))
        | none => none
      | _, _ => none
    | none => none
  | _ => none
theorem aBuildSlice_sound (hR : Rel w G H) {t : TypeId} {len : Nat} {xs : Array (Nat × Value)} {parts : List (Nat × AV)} {r : AV} {H' : AH} (hp : PVs G xs.toList parts) (h : aBuildSlice T t len parts H = some (r, H')) : RunsV T.P (Instr.buildSlice t len xs) w G H r H' := by
  unfold aBuildSlice at h
  split at h <;> try (cases h; done)
  rename_i e hu
  split at h <;> try (cases h; done)
  rename_i ie hie
  split at h <;> try (cases h; done)
  rename_i z hz hle
  have hle' := Nat.le_of_ble_eq_true hle
  split at h <;> try (cases h; done)
  rename_i cs hcs
  simp only [Option.some.injEq, Prod.mk.injEq] at h
  obtain ⟨rfl, rfl⟩ := h
  by_cases h0 : len * ie.size = 0
  · rw [h0] at hcs
    obtain ⟨rs, h1, h2, h3⟩ := aFill_sound (cs := #[]) hp (by simp [zrow, VRs]) hcs
    have hrl := h2.length
    obtain ⟨G', g1, g2, _, g4⟩ := pushCells hR rs e (0, 0) cs (by rw [← hrl, List.take_length]; exact h2) (by simpa using Nat.le_of_eq hrl.symm) (by simp) 0 XR.zero (w' := w.alloc (.cells rs e)) rfl rfl rfl rfl
    refine ⟨_, _, G', ?_, g1, g2, g4 len len ie.size len ⟨Nat.le_refl _, Nat.le_refl _⟩ (by rw [h0]; exact Nat.zero_le _)⟩
    simp [Instr.buildSlice, run_underlying hu, run_tsize hie, h0, range0', h1, newRow, Result.andThen]
  · obtain ⟨rs, h1, h2, h3⟩ := aFill_sound hp (zrow_rel z.cells (len * ie.size)) hcs
    have hrl := h2.length
    obtain ⟨G', g1, g2, _, g4⟩ := pushCells hR rs e (0, 0) cs (by rw [← hrl, List.take_length]; exact h2) (by simpa using Nat.le_of_eq hrl.symm) (by simp) 0 XR.zero (w' := w.alloc (.cells rs e)) rfl rfl rfl rfl
    refine ⟨_, _, G', ?_, g1, g2, g4 len len ie.size len ⟨Nat.le_refl _, Nat.le_refl _⟩ (by rw [h3]; simp)⟩
    have h16 : ¬ len * ie.size > 2 ^ 24 := by omega
    simp [Instr.buildSlice, run_underlying hu, run_tsize hie, run_tzero hie hz, h0, h16, h1, newRow, Result.andThen]
def aMakeSlice (T : Tab) (t : TypeId) (l c : AV) (H : AH) : Option (AV × AH) :=
  match T.underlying t, l, c with
  | some (.slice e), .v (.int _ n), .v (.int _ m) => match T.info? e with
    | some ie => match ie.zero, decide (0 ≤ n) && decide (n ≤ m) && decide ((ie.bytes : Int) * m ≤ 140737488355328) && decide (m ≤ 4611686018427387904) with
      | some z, true => some (.sl H.n 1 0 n.toNat ie.size m.toNat, H.push (.cells (zrow z.cells (m.toNat * ie.size)) 1 0))
      | _, _ => none
    | none => none
  | _, _, _ => none
theorem range0 (f : Nat → Value) : (Array.range 0).map f = #[] := by simp
theorem wrap_i64 {n : Int} (h0 : 0 ≤ n) (h1 : n ≤ 4611686018427387904) : IntKind.i64.wrap n = n := by
  simp [IntKind.wrap, IntKind.signed, IntKind.bits]; omega
theorem aMakeSlice_sound (hR : Rel w G H) {t : TypeId} {x y : Value} {l c r : AV} {H' : AH} (hx : VR G x l) (hy : VR G y c) (h : aMakeSlice T t l c H = some (r, H')) : RunsV T.P (Instr.makeSlice t x y) w G H r H' := by
  unfold aMakeSlice at h
  split at h <;> try (cases h; done)
  rename_i e k n k' m hu
  simp only [VR] at hx hy
  subst hx hy
  split at h <;> try (cases h; done)
  rename_i ie hie
  split at h <;> try (cases h; done)
  rename_i z hz hc
  simp only [Bool.and_eq_true, decide_eq_true_eq] at hc
  obtain ⟨⟨⟨h1, h2⟩, h3⟩, h4⟩ := hc
  simp only [Option.some.injEq, Prod.mk.injEq] at h
  obtain ⟨rfl, rfl⟩ := h
  have w1 := wrap_i64 h1 (by omega)
  have w2 := wrap_i64 (n := m) (by omega) h4
  have hs : ((Array.range (m.toNat * ie.size)).map (z.cells[· % z.cells.size]!)).size = m.toNat * ie.size := by simp
  have key : ∀ arr : Array Value, arr.size = m.toNat * ie.size → VRs G arr.toList (zrow z.cells (m.toNat * ie.size)) → (Instr.makeSlice t (.int k n) (.int k' m)).run T.P w = .ok (.slice (some ⟨w.heap.size, 0, none⟩) n.toNat m.toNat) (w.alloc (.cells arr e)) → RunsV T.P (Instr.makeSlice t (.int k n) (.int k' m)) w G H (.sl H.n 1 0 n.toNat ie.size m.toNat) (H.push (.cells (zrow z.cells (m.toNat * ie.size)) 1 0)) := by
    intro arr ha hv hrun
    obtain ⟨G', g1, g2, _, g4⟩ := pushCells hR arr e (0, 0) (zrow z.cells (m.toNat * ie.size)) (by rw [zrow_length, List.take_of_length_le (by simp [ha])]; exact hv) (by rw [zrow_length]; omega) (by simp) 0 XR.zero (w' := w.alloc (.cells arr e)) rfl rfl rfl rfl
    exact ⟨_, _, G', hrun, g1, g2, g4 n.toNat m.toNat ie.size m.toNat (by omega) (by omega)⟩
  have hb : ¬ (ie.bytes : Int) * m > 2 ^ 48 := by omega
  have hrm : ∀ b, (askRoom b).run T.P w = .ok () w := fun b => by unfold askRoom; split <;> rfl
  by_cases h0 : m.toNat * ie.size = 0
  · refine key #[] (by simp [h0]) (by rw [h0]; simp [zrow, VRs]) ?_
    simp [Instr.makeSlice, run_underlying hu, asInt, asIntOf, run_tinfo hie, w1, w2, hb, hrm, run_tsize hie, h0, range0, newRow, Result.andThen]
    intro hh; exfalso; omega
  · refine key _ hs (zrow_rel _ _) ?_
    simp [Instr.makeSlice, run_underlying hu, asInt, asIntOf, run_tinfo hie, w1, w2, hb, hrm, run_tsize hie, h0, range0, newRow, Result.andThen]
    rw [if_neg (by omega), run_tzero hie hz]
/-! ### slicing, lengths -/
def aBound (x : Option AV) (dflt y : Nat) : Option Nat := match x with
  | none => some dflt
  | some (.v (.int _ n)) => match decide (0 ≤ n) && decide (n ≤ (y : Int)) with
    | true => some n.toNat
    | false => none
  | some _ => none
def OVR (G : Gh) : Option Value → Option AV → Prop
  | none, none => True
  | some x, some u => VR G x u
  | _, _ => False
theorem aBound_sound {x : Option Value} {u : Option AV} {d y r : Nat} (hx : OVR G x u) (h : aBound u d y = some r) :
    (∀ v, x = some v → ∀ (y' : Nat) (code : BoundsCode) (w : World), y ≤ y' → (Instr.sliceBound v y' code).run T.P w = .ok r w) ∧ (x = none → r = d) := by
  cases u with
  | none =>
    cases x with
    | none => simp only [aBound, Option.some.injEq] at h; subst h; exact ⟨by simp, fun _ => rfl⟩
    | some => cases hx
  | some u =>
    cases x with
    | none => cases hx
    | some x =>
      simp only [OVR] at hx
      cases u with
      | v z =>
        simp only [VR] at hx
        subst hx
        cases x with
        | int k n =>
          simp only [aBound] at h
          split at h <;> try (cases h; done)
          rename_i hc
          simp only [Bool.and_eq_true, decide_eq_true_eq] at hc
          simp only [Option.some.injEq] at h
          subst h
          refine ⟨fun v hv y' code w hy => ?_, by simp⟩
          simp only [Option.some.injEq] at hv
          subst hv
          have : n ≤ (y' : Int) := by omega
          simp [Instr.sliceBound, asIntOf, hc.1, this, Result.andThen]
        | _ => simp [aBound] at h
      | _ => simp [aBound] at h
def aSlice (T : Tab) (t : TypeId) (u : AV) (lo hi : Option AV) (H : AH) : Option AV :=
  match T.underlying t with
  | some (.array n elem) => match u.place, T.info? elem, aBound hi n n with
    | some (.heap id g off), some ie, some h => match aBound lo 0 h, rd H (.heap id g off) (n * ie.size) with
      | some l, some _ => some (.sl id g (off + l * ie.size) (h - l) ie.size (n - l))
      | _, _ => none
    | _, _, _ => none
  | some (.slice elem) => match u, T.info? elem with
    | .sl id g off len sz rm, some ie => match aBound hi len rm, Nat.beq ie.size sz with
      | some h, true => match aBound lo 0 h with
        | some l => some (.sl id g (off + l * sz) (h - l) sz (rm - l))
        | none => none
      | _, _ => none
    | .csl cells off len sz, some ie => match aBound hi len len, Nat.beq ie.size sz with
      | some h, true => match aBound lo 0 h with
        | some l => some (.csl cells (off + l * sz) (h - l) sz)
        | none => none
      | _, _ => none
    | _, _ => none
  | _ => none
def aSlice0 (T : Tab) (t : TypeId) (u : AV) (lo hi : Option AV) : Option AV :=
  match T.underlying t, u, lo, hi with
  | some (.slice _), .sl .., none, some (.v (.int _ 0)) => some .esl
  | some (.slice _), .csl .., none, some (.v (.int _ 0)) => some .esl
  | some (.slice _), .esl, none, some (.v (.int _ 0)) => some .esl
  | _, _, _, _ => none
theorem aSlice0_sound (hR : Rel w G H) {t : TypeId} {x xm : Value} {xh : Option Value} {u m r : AV} {hi : Option AV} {k : IntKind} (hx : VR G x u) (hh : OVR G xh hi) (hm : VR G xm m) (hm0 : m = .v (.int k 0)) (hsz : ∀ e, T.underlying t = some (.slice e) → (T.info? e).isSome = true) (h : aSlice0 T t u none hi = some r) : RunsV T.P (Instr.sliceAt t x none xh (some xm)) w G H r H := by
  subst hm0
  simp only [VR] at hm
  subst hm
  have key : ∀ (e : TypeId) (a : Addr) (n c : Nat) (j : IntKind), T.underlying t = some (.slice e) → x = .slice (some a) n c → hi = some (.v (.int j 0)) → r = .esl → RunsV T.P (Instr.sliceAt t x none xh (some (.int k 0))) w G H r H := by
    intro e a n c j hu hxe hhe hr
    subst hxe hhe hr
    cases xh with
    | none => cases hh
    | some v =>
      simp only [OVR, VR] at hh
      subst hh
      obtain ⟨ie, hie⟩ := Option.isSome_iff_exists.1 (hsz e hu)
      refine .same hR (x := .slice (some a) 0 0) ?_ (by simp only [VR]; exact ⟨a, rfl⟩)
      simp [Instr.sliceAt, Instr.slice, run_underlying hu, Instr.sliceBounds, Instr.sliceBound, asIntOf, run_tsize hie, Result.andThen]
  unfold aSlice0 at h
  split at h <;> simp only [Option.some.injEq, reduceCtorEq] at h <;> (try (cases h; done)) <;> subst h <;> simp only [VR] at hx
  · obtain ⟨_, _, a, cap, rfl, _⟩ := hx; exact key _ a _ _ _ (by assumption) rfl rfl rfl
  · obtain ⟨_, _, _, _, cap, _, rfl, _⟩ := hx; exact key _ _ _ _ _ (by assumption) rfl rfl rfl
  · obtain ⟨a, rfl⟩ := hx; exact key _ a _ _ _ (by assumption) rfl rfl rfl
theorem aBound_le {u : Option AV} {d y r : Nat} (h : aBound u d y = some r) (hd : d ≤ y) : r ≤ y := by
  unfold aBound at h
  split at h
  · simp only [Option.some.injEq] at h; omega
  · split at h <;> try (cases h; done)
    rename_i hc
    simp only [Bool.and_eq_true, decide_eq_true_eq] at hc
    simp only [Option.some.injEq] at h; omega
  · cases h
theorem aSlice_sound (hR : Rel w G H) {t : TypeId} {x : Value} {xl xh : Option Value} {u r : AV} {lo hi : Option AV} (hx : VR G x u) (hl : OVR G xl lo) (hh : OVR G xh hi) (h : aSlice T t u lo hi H = some r) : RunsV T.P (Instr.sliceAt t x xl xh none) w G H r H := by
  have bounds : ∀ (isS : Bool) (len rm cap lm hm : Nat), rm ≤ cap → aBound hi len rm = some hm → aBound lo 0 hm = some lm → (Instr.sliceBounds isS len cap xl xh none).run T.P w = .ok (lm, hm, cap) w := by
    intro isS len rm cap lm hm hc h1 h2
    obtain ⟨q1, q3⟩ := aBound_sound (T := T) hh h1
    obtain ⟨p1, p3⟩ := aBound_sound (T := T) hl h2
    unfold Instr.sliceBounds
    cases xh with
    | none => cases xl with
      | none => simp [q3 rfl, p3 rfl, Result.andThen]
      | some z =>
        have e := q3 rfl
        subst e
        simp [p1 z rfl hm .sliceB w (Nat.le_refl _), Result.andThen]
    | some z => cases xl with
      | none => simp [q1 z rfl cap _ w hc, p3 rfl, Result.andThen]
      | some z' => simp [q1 z rfl cap _ w hc, p1 z' rfl hm .sliceB w (Nat.le_refl _), Result.andThen]
  unfold aSlice at h
  split at h <;> try (cases h; done)
  · rename_i n elem hu
    split at h <;> try (cases h; done)
    rename_i id g off ie hm hp hie hbh
    split at h <;> try (cases h; done)
    rename_i lm us hbl hrd
    simp only [Option.some.injEq] at h
    subst h
    obtain ⟨a, rfl, ha⟩ := hx.addr hp
    have hb := bounds false n n n lm hm (Nat.le_refl _) hbh hbl
    have h1 := aBound_le hbh (Nat.le_refl _)
    have h2 := aBound_le hbl (Nat.zero_le _)
    refine .same hR (x := .slice (some (if n = lm then a else a.add (lm * ie.size))) (hm - lm) (n - lm)) ?_ ?_
    · simp [Instr.sliceAt, run_underlying hu, Instr.sureAddr, hb, run_tsize hie, Result.andThen]
    · simp only [rd] at hrd
      split at hrd <;> try (cases hrd; done)
      rename_i cs g' xx hget
      split at hrd <;> try (cases hrd; done)
      rename_i hc
      simp only [Bool.and_eq_true, Nat.beq_eq, Nat.ble_eq] at hc
      obtain ⟨rfl, hle⟩ := hc
      have hid : id < H.n := AH.lt_of_get (by rw [hget]; simp)
      have hO := hR.obj id hid
      rw [hget] at hO
      obtain ⟨hg, arr, t', fr, q1, q2, q3, q4, q5, _⟩ := hO
      obtain ⟨p1, p2, p3⟩ := ha
      obtain rfl := p3 hg
      simp only [VR]
      refine ⟨p1, p2, _, n - lm, rfl, by omega, fun _ => ?_⟩
      by_cases e : n = lm
      · rw [if_pos e]; exact ⟨rfl, rfl, fun hne => by omega⟩
      · rw [if_neg e, add_at]
        refine ⟨rfl, rfl, fun _ => ⟨by simp only; omega, ?_⟩⟩
        rw [q3]
        have : lm * ie.size + (n - lm) * ie.size = n * ie.size := by rw [← Nat.add_mul]; congr 1; omega
        simp only; omega
  · rename_i elem hu
    split at h <;> try (cases h; done)
    · rename_i id g off len sz rm ie hie
      split at h <;> try (cases h; done)
      rename_i hm hbh hsz
      rw [Nat.beq_eq] at hsz
      subst hsz
      split at h <;> try (cases h; done)
      rename_i lm hbl
      simp only [Option.some.injEq] at h
      subst h
      simp only [VR] at hx
      obtain ⟨p1, p2, a, cap, rfl, p4, p5⟩ := hx
      have hb := bounds true len rm cap lm hm p4.2 hbh hbl
      have h1 := aBound_le hbh p4.1
      have h2 := aBound_le hbl (Nat.zero_le _)
      refine .same hR (x := .slice (if cap = lm then some a else some (a.add (lm * ie.size))) (hm - lm) (cap - lm)) ?_ ?_
      · have h3 : Instr.sliceAt t (.slice (some a) len cap) xl xh none = Instr.slice t (.slice (some a) len cap) xl xh none ∨ True := .inr trivial
        simp [Instr.sliceAt, Instr.slice, run_underlying hu, hb, run_tsize hie, Result.andThen]
      · have : (if cap = lm then some a else some (a.add (lm * ie.size))) = some (if cap = lm then a else a.add (lm * ie.size)) := by split <;> rfl
        rw [this]
        simp only [VR]
        refine ⟨p1, p2, _, cap - lm, rfl, by omega, fun e => ?_⟩
        obtain ⟨e1, e2, e3⟩ := p5 e
        by_cases e : cap = lm
        · rw [if_pos e]; exact ⟨e1, e2, fun hne => by omega⟩
        · obtain ⟨e4, e5⟩ := e3 (by omega)
          obtain ⟨b, o, s⟩ := a
          simp only at e1 e2 e4 e5
          subst e1 e2
          rw [if_neg e, add_at]
          refine ⟨rfl, rfl, fun _ => ⟨by simp only; omega, ?_⟩⟩
          have : lm * ie.size + (cap - lm) * ie.size = cap * ie.size := by rw [← Nat.add_mul]; congr 1; omega
          simp only; omega
    · rename_i cells off len sz ie hie
      split at h <;> try (cases h; done)
      rename_i hm hbh hsz
      rw [Nat.beq_eq] at hsz
      subst hsz
      split at h <;> try (cases h; done)
      rename_i lm hbl
      simp only [Option.some.injEq] at h
      subst h
      simp only [VR] at hx
      obtain ⟨b, base, arr, o, cap, p1, rfl, p4, p5, p6, p7⟩ := hx
      have hb := bounds true len len cap lm hm p4 hbh hbl
      have h1 := aBound_le hbh (Nat.le_refl _)
      have h2 := aBound_le hbl (Nat.zero_le _)
      refine .same hR (x := .slice (some (if cap = lm then ⟨b, o, none⟩ else (⟨b, o, none⟩ : Addr).add (lm * ie.size))) (hm - lm) (cap - lm)) ?_ ?_
      · have : (if cap = lm then some (⟨b, o, none⟩ : Addr) else some ((⟨b, o, none⟩ : Addr).add (lm * ie.size))) = some (if cap = lm then ⟨b, o, none⟩ else (⟨b, o, none⟩ : Addr).add (lm * ie.size)) := by split <;> rfl
        rw [← this]
        simp [Instr.sliceAt, Instr.slice, run_underlying hu, hb, run_tsize hie, Result.andThen]
      · simp only [VR]
        rw [add_at]
        refine ⟨b, base, arr, if cap = lm then o else o + lm * ie.size, cap - lm, p1, ?_, by omega, fun hne => ?_, p6, p7⟩
        · split <;> rfl
        · rw [if_neg (by omega), p5 (by omega)]; omega
/-- with a bound on what it may grow to -/
def aSlice3 (T : Tab) (t : TypeId) (u lo hi mx : AV) : Option AV :=
  match T.underlying t with
  | some (.slice elem) => match u, T.info? elem with
    | .sl id g off len sz rm, some ie => match aBound (some mx) 0 rm, Nat.beq ie.size sz with
      | some m, true => match aBound (some hi) 0 m with
        | some h => match aBound (some lo) 0 h with
          | some l => some (.sl id g (off + l * sz) (h - l) sz (m - l))
          | none => none
        | none => none
      | _, _ => none
    | .csl cells off len sz, some ie => match aBound (some mx) 0 len, Nat.beq ie.size sz with
      | some m, true => match aBound (some hi) 0 m with
        | some h => match aBound (some lo) 0 h with
          | some l => some (.csl cells (off + l * sz) (h - l) sz)
          | none => none
        | none => none
      | _, _ => none
    | _, _ => none
  | _ => none
theorem aSlice3_sound (hR : Rel w G H) {t : TypeId} {x xl xh xm : Value} {u r lo hi mx : AV} (hx : VR G x u) (hl : VR G xl lo) (hh : VR G xh hi) (hmx : VR G xm mx) (h : aSlice3 T t u lo hi mx = some r) : RunsV T.P (Instr.sliceAt t x (some xl) (some xh) (some xm)) w G H r H := by
  have bounds : ∀ (len cap lm hm m : Nat), len ≤ cap → aBound (some mx) 0 len = some m → aBound (some hi) 0 m = some hm → aBound (some lo) 0 hm = some lm → ∀ len0, (Instr.sliceBounds true len0 cap (some xl) (some xh) (some xm)).run T.P w = .ok (lm, hm, m) w := by
    intro len cap lm hm m hc h0 h1 h2 len0
    obtain ⟨m1, _⟩ := aBound_sound (T := T) (G := G) (x := some xm) (u := some mx) hmx h0
    obtain ⟨q1, _⟩ := aBound_sound (T := T) (G := G) (x := some xh) (u := some hi) hh h1
    obtain ⟨p1, _⟩ := aBound_sound (T := T) (G := G) (x := some xl) (u := some lo) hl h2
    unfold Instr.sliceBounds
    simp [m1 xm rfl cap _ w hc, q1 xh rfl m _ w (Nat.le_refl _), p1 xl rfl hm _ w (Nat.le_refl _), Result.andThen]
  unfold aSlice3 at h
  split at h <;> try (cases h; done)
  rename_i elem hu
  split at h <;> try (cases h; done)
  · rename_i id g off len sz rm ie hie
    split at h <;> try (cases h; done)
    rename_i m hbm hsz
    rw [Nat.beq_eq] at hsz
    subst hsz
    split at h <;> try (cases h; done)
    rename_i hm hbh
    split at h <;> try (cases h; done)
    rename_i lm hbl
    simp only [Option.some.injEq] at h
    subst h
    simp only [VR] at hx
    obtain ⟨p1, p2, a, cap, rfl, p4, p5⟩ := hx
    have hb := bounds rm cap lm hm m p4.2 hbm hbh hbl len
    have h0 := aBound_le hbm (Nat.zero_le _)
    have h1 := aBound_le hbh (Nat.zero_le _)
    have h2 := aBound_le hbl (Nat.zero_le _)
    refine .same hR (x := .slice (if m = lm then some a else some (a.add (lm * ie.size))) (hm - lm) (m - lm)) ?_ ?_
    · simp [Instr.sliceAt, Instr.slice, run_underlying hu, hb, run_tsize hie, Result.andThen]
    · have : (if m = lm then some a else some (a.add (lm * ie.size))) = some (if m = lm then a else a.add (lm * ie.size)) := by split <;> rfl
      rw [this]
      simp only [VR]
      refine ⟨p1, p2, _, m - lm, rfl, by omega, fun e => ?_⟩
      obtain ⟨e1, e2, e3⟩ := p5 e
      by_cases e : m = lm
      · rw [if_pos e]; exact ⟨e1, e2, fun hne => by omega⟩
      · obtain ⟨e4, e5⟩ := e3 (by omega)
        obtain ⟨b, o, s⟩ := a
        simp only at e1 e2 e4 e5
        subst e1 e2
        rw [if_neg e, add_at]
        refine ⟨rfl, rfl, fun _ => ⟨by simp only; omega, ?_⟩⟩
        have h3 : lm * ie.size + (m - lm) * ie.size = m * ie.size := by rw [← Nat.add_mul]; congr 1; omega
        have h4 : m * ie.size ≤ cap * ie.size := Nat.mul_le_mul_right _ (by omega)
        simp only; omega
  · rename_i cells off len sz ie hie
    split at h <;> try (cases h; done)
    rename_i m hbm hsz
    rw [Nat.beq_eq] at hsz
    subst hsz
    split at h <;> try (cases h; done)
    rename_i hm hbh
    split at h <;> try (cases h; done)
    rename_i lm hbl
    simp only [Option.some.injEq] at h
    subst h
    simp only [VR] at hx
    obtain ⟨b, base, arr, o, cap, p1, rfl, p4, p5, p6, p7⟩ := hx
    have hb := bounds len cap lm hm m p4 hbm hbh hbl len
    have h0 := aBound_le hbm (Nat.zero_le _)
    have h1 := aBound_le hbh (Nat.zero_le _)
    have h2 := aBound_le hbl (Nat.zero_le _)
    refine .same hR (x := .slice (some (if m = lm then ⟨b, o, none⟩ else (⟨b, o, none⟩ : Addr).add (lm * ie.size))) (hm - lm) (m - lm)) ?_ ?_
    · have : (if m = lm then some (⟨b, o, none⟩ : Addr) else some ((⟨b, o, none⟩ : Addr).add (lm * ie.size))) = some (if m = lm then ⟨b, o, none⟩ else (⟨b, o, none⟩ : Addr).add (lm * ie.size)) := by split <;> rfl
      rw [← this]
      simp [Instr.sliceAt, Instr.slice, run_underlying hu, hb, run_tsize hie, Result.andThen]
    · simp only [VR]
      rw [add_at]
      refine ⟨b, base, arr, if m = lm then o else o + lm * ie.size, m - lm, p1, ?_, by omega, fun hne => ?_, p6, p7⟩
      · split <;> rfl
      · rw [if_neg (by omega), p5 (by omega)]; omega
def lenL {α : Type} (l : List α) : Nat := @List.rec α (fun _ => Nat) 0 (fun _ _ ih => Nat.succ ih) l
theorem lenL_eq {α : Type} (l : List α) : lenL l = l.length := by induction l with | nil => rfl | cons _ _ ih => simp [lenL] at ih ⊢; exact ih
def aLen (T : Tab) (t : TypeId) (u : AV) (H : AH) : Option AV :=
  match u with
  | .v (.string s) => match T.underlying t with
    | some .string => some (.v (goInt (lenL s.data.toList)))
    | _ => none
  | .esl => match T.underlying t with
    | some (.slice _) => some (.v (goInt 0))
    | _ => none
  | .sl _ _ _ len _ _ | .csl _ _ len _ => match T.underlying t with
    | some (.slice _) => some (.v (goInt len))
    | _ => none
  | .map id => match T.underlying t, H.get id with
    | some (.map _ _), .map es _ => some (.v (goInt es.length))
    | _, _ => none
  | _ => match T.underlying t with
    | some (.array n _) => some (.v (goInt n))
    | _ => none
theorem ERs.length {es : List AEnt} : ∀ {ms : List MapEntry}, ERs G ms es → ms.length = es.length := by
  induction es with
  | nil => intro ms h; simp only [ERs] at h; subst h; rfl
  | cons e es ih => intro ms h; obtain ⟨v, r, rfl, _, h4⟩ := h; simp [ih h4]
theorem map_block (hR : Rel w G H) {id : Nat} {es : List AEnt} {clock : Nat} (h : H.get id = .map es clock) : G.gen id = 1 ∧ ∃ ents : Array MapEntry, w.heap[G.blk id]? = some (.map ents clock) ∧ ERs G ents.toList es := by
  have hid : id < H.n := AH.lt_of_get (by rw [h]; simp)
  have hO := hR.obj id hid
  rw [h] at hO; exact hO
theorem aLen_sound (hR : Rel w G H) {t : TypeId} {x : Value} {u r : AV} (tys : Array TypeId) (ty : TypeId) (hx : VR G x u) (h : aLen T t u H = some r) : RunsV T.P (Builtin.len_ #[t] ty #[x]) w G H r H := by
  unfold aLen at h
  split at h
  · rename_i s
    split at h <;> try (cases h; done)
    rename_i hu
    simp only [Option.some.injEq] at h; subst h
    simp only [VR] at hx
    subst hx
    refine .same hR (x := goInt s.size) ?_ (by simp only [VR, lenL_eq]; rfl)
    · simp [Builtin.len_, run_underlying hu, Result.andThen]
  · split at h <;> try (cases h; done)
    rename_i hu
    simp only [Option.some.injEq] at h; subst h
    simp only [VR] at hx
    obtain ⟨a, rfl⟩ := hx
    refine .same hR (x := goInt 0) ?_ (by simp [VR])
    · simp [Builtin.len_, run_underlying hu, Result.andThen]
  · rename_i id g off len sz rm
    split at h <;> try (cases h; done)
    rename_i hu
    simp only [Option.some.injEq] at h; subst h
    simp only [VR] at hx
    obtain ⟨_, _, a, cap, rfl, _⟩ := hx
    refine .same hR (x := goInt len) ?_ (by simp [VR])
    · simp [Builtin.len_, run_underlying hu, Result.andThen]
  · rename_i cells off len sz
    split at h <;> try (cases h; done)
    rename_i hu
    simp only [Option.some.injEq] at h; subst h
    simp only [VR] at hx
    obtain ⟨_, _, _, _, _, _, rfl, _⟩ := hx
    refine .same hR (x := goInt len) ?_ (by simp [VR])
    · simp [Builtin.len_, run_underlying hu, Result.andThen]
  · rename_i id
    split at h <;> try (cases h; done)
    rename_i es clock hu hget
    simp only [Option.some.injEq] at h; subst h
    obtain ⟨h1, ents, h2, h3⟩ := map_block hR hget
    simp only [VR] at hx
    obtain ⟨_, _, r, rfl, hr⟩ := hx
    obtain rfl := hr h1
    refine .same hR (x := goInt es.length) ?_ (by simp [VR])
    · have hg : (getObj (G.blk id)).run T.P w = .ok (.map ents clock) w := by simp [getObj, Sem.run, h2]
      have hl := h3.length
      rw [Array.length_toList] at hl
      simp [Builtin.len_, run_underlying hu, hg, hl, Result.andThen]
  · split at h <;> try (cases h; done)
    rename_i n _ hu
    simp only [Option.some.injEq] at h; subst h
    refine .same hR (x := goInt n) ?_ (by simp [VR])
    · cases x <;> simp [Builtin.len_, run_underlying hu, Result.andThen]
end
end Go.Proofs.Ytlajcmoiopaemaa
