/- One operation over the abstract heap. No program in sight. -/
import Derived.Test.YtlajcmoiopaemaaAv8c
set_option linter.unusedVariables false
set_option linter.unusedSimpArgs false
noncomputable section
namespace Go.Proofs.Ytlajcmoiopaemaa
inductive AR where
  | val (u : AV)
  | skip
  | defer (d : ADef)
  | call (f : FuncId) (args : List AV)
  | yield (id : Nat) (args : List AV)
  | panic (u : AV)
  | recov
def setZip (ps : List Tmp) : List AV → HT AV → HT AV := @List.rec Tmp (fun _ => List AV → HT AV → HT AV) (fun _ t => t) (fun p _ ih us t => @List.rec AV (fun _ => HT AV) t (fun u us _ => ih us (t.upd p u)) us) ps
def yieldTmps (lp : ALoop) (args : List AV) : HT AV := setZip lp.params.toList args lp.tmps
def OpRel (P : Program) (s : Sem Next) (w : World) (G : Gh) (H : AH) (r : AR) (H' : AH) : Prop :=
  ∃ w' G', Ext w G H w' G' H' ∧ Rel w' G' H' ∧ (match r with
    | .val u => ∃ x, s.run P w = .ok (.value x) w' ∧ VR G' x u
    | .skip => s.run P w = .ok .skip w'
    | .defer d => ∃ x, s.run P w = .ok (.defer x) w' ∧ DR G' x d
    | .call f args => ∃ xs : Array Value, s.run P w = .ok (.enter f xs) w' ∧ VRs G' xs.toList args
    | .panic u => ∃ x, s.run P w = .halt (.panic x) w' ∧ VR G' x u
    | .yield id args => ∃ lp fn, ∃ tmps : Array Value, H'.get id = .loop lp ∧ s.run P w = .ok (.round (G'.blk id) fn tmps lp.assign lp.body) w' ∧ TRel G' tmps.toList (yieldTmps lp args)
    | .recov => s.run P w = .ok .recover w')
section
variable {T : Tab} {w : World} {G : Gh} {H : AH}
theorem OpRel.of_v {s : Sem Value} {u : AV} {H' : AH} (h : RunsV T.P s w G H u H') : OpRel T.P (do pure (.value (← s))) w G H (.val u) H' := by
  obtain ⟨x, w', G', h1, h2, h3, h4⟩ := h
  exact ⟨w', G', h2, h3, x, by simp only [Sem.run_bind, h1, Result.andThen_ok, Sem.run_pure], h4⟩
theorem OpRel.of_u {s : Sem Unit} {H' : AH} (h : RunsU T.P s w G H H') : OpRel T.P (do s; pure .skip) w G H .skip H' := by
  obtain ⟨w', G', h1, h2, h3⟩ := h
  exact ⟨w', G', h2, h3, by simp only [Sem.run_bind, h1, Result.andThen_ok, Sem.run_pure]⟩
def one1 (r : Option AV) (H : AH) : Option (AR × AH) := match r with
  | some u => some (.val u, H)
  | none => none
def one2 (r : Option (AV × AH)) : Option (AR × AH) := match r with
  | some (u, H) => some (.val u, H)
  | none => none
def oneU (r : Option AH) : Option (AR × AH) := match r with
  | some H => some (.skip, H)
  | none => none
def orElse' (a b : Option (AR × AH)) : Option (AR × AH) := match a with
  | some x => some x
  | none => b
def callOk (T : Tab) (f : FuncId) : Bool := match T.fn.get f with
  | some fn => fn.body.isSome
  | none => false
def fastBin (op : BinOp) (k : IntKind) (a : Int) (j : IntKind) (b : Int) : Option Value := match k, j with
  | .i64, .i64 | .u8, .u8 | .i32, .i32 | .u64, .u64 => match op with
    | .add => some (.int k (k.wrap (a + b)))
    | .sub => some (.int k (k.wrap (a - b)))
    | .mul => some (.int k (k.wrap (a * b)))
    | .eql => some (.bool (a == b))
    | .neq => some (.bool (a != b))
    | .lss => some (.bool (decide (a < b)))
    | .leq => some (.bool (decide (a ≤ b)))
    | .gtr => some (.bool (decide (a > b)))
    | .geq => some (.bool (decide (a ≥ b)))
    | _ => none
  | _, _ => none
theorem fastBin_ok {op : BinOp} {k j : IntKind} {a b : Int} {v : Value} (h : fastBin op k a j b = some v) (t : TypeId) (ox oy : Operand) (w : World) :
    (do eqGuard op t ox oy (.int k a) (.int j b); binOp op t (.int k a) (.int j b) : Sem Value).run T.P w = .ok v w := by
  unfold fastBin at h
  split at h <;> try (cases h; done)
  all_goals (split at h <;> first | (cases h; done) | (simp only [Option.some.injEq] at h; subst h; rfl))
def aPur (T : Tab) (ρ : Operand → AV) (o : Oper) (H : AH) : Option (AR × AH) :=
  match o.op.operands.toList.all (fun x => (ρ x).toV.isSome) with
  | true => match pur T.P (execOp (fun x => ((ρ x).toV).getD undef) o) with
    | some (.ok (.value x)) => some (.val (.v x), H)
    | some (.error x) => some (.panic (.v x), H)
    | _ => none
  | false => none
def aCall (T : Tab) (ρ : Operand → AV) (c : Call) (H : AH) : Option (AR × AH) :=
  match c.callee with
  | .builtin .len => match c.argTypes.toList, c.args.toList with
    | [t], [x] => one1 (aLen T t (ρ x) H) H
    | _, _ => none
  | .builtin .append => match c.argTypes.toList, c.args.toList with
    | [t, t2], [x, y] => orElse' (one2 (aAppend T t t2 (ρ x) (ρ y) H)) (one2 (aAppendZ T t t2 (ρ x) (ρ y) H))
    | _, _ => none
  | .builtin .copy => match c.argTypes.toList, c.args.toList with
    | [t, _], [x, y] => one2 (aCopy T t (ρ x) (ρ y) H)
    | _, _ => none
  | .builtin .cap => match c.argTypes.toList, c.args.toList with
    | [t], [x] => one1 (aCap T t (ρ x)) H
    | _, _ => none
  | .builtin .clear => match c.argTypes.toList, c.args.toList with
    | [t], [x] => one2 (aClear T t (ρ x) H)
    | _, _ => none
  | .builtin .unsafeSliceData => match c.args.toList with
    | [x] => one1 (aSliceData (ρ x)) H
    | _ => none
  | .builtin .unsafeString => match c.argTypes.toList, c.args.toList with
    | [t, t2], [x, y] => one2 (aUnsafeStr T t (ρ x) (ρ y) H)
    | _, _ => none
  | .builtin .recover => some (.recov, H)
  | .builtin _ => none
  | .value f => match (ρ f).norm with
    | .fn (.func g) first caps => match callOk T g with
      | true => some (.call g (first ++ c.args.toList.map ρ ++ caps), H)
      | false => match noEsc T g, first, c.args.toList, caps with
        | true, [], [x], [] => some (.val (ρ x), H)
        | _, _, _, _ => none
    | .yld id => match H.get id with
      | .loop lp => match Nat.beq lp.params.size c.args.size with
        | true => some (.yield id (c.args.toList.map ρ), H)
        | false => none
      | _ => none
    | _ => none
  | .invoke _ _ => none
def fnOk : Fn → Bool
  | .yield _ => false
  | _ => true
def avInt : AV → Bool
  | .v (.int _ _) => true
  | _ => false
def aop (T : Tab) (ρ : Operand → AV) (o : Oper) (H : AH) : Option (AR × AH) :=
  match o.op with
  | .move x | .assign x => some (.val (ρ x), H)
  | .pick c a b => match ρ c with
    | .v (.bool true) => some (.val (ρ a), H)
    | .v (.bool false) => some (.val (ρ b), H)
    | _ => none
  | .alloc e => one2 (aAlloc T e H)
  | .box _ x => one2 (aBox (ρ x) H)
  | .build t ps => one1 (aBuild T t (ps.toList.map fun (i, x) => (i, ρ x))) H
  | .buildSlice t n ps => one2 (aBuildSlice T t n (ps.toList.map fun (i, x) => (i, ρ x)) H)
  | .load t a => one1 (aLoad T t (ρ a) H) H
  | .store t a x => oneU (aStore T t (ρ a) (ρ x) H)
  | .nilCheck x => match (ρ x).norm with
    | .ptr .. | .cptr .. | .fn (.func _) .. | .yld _ | .iface .. => some (.val (ρ x), H)
    | _ => aPur T ρ o H
  | .binOp b t x y _ => match ρ x, ρ y with
    | .v (.int k n), .v (.int j m) => match fastBin b k n j m with
      | some v => some (.val (.v v), H)
      | none => aPur T ρ o H
    | _, _ => orElse' (one1 (aNil T b t (ρ x) (ρ y)) H) (orElse' (one1 (aPtrEq T b t (ρ x) (ρ y) H) H) (aPur T ρ o H))
  | .convert s d x => orElse' (one2 (aConvert T s d (ρ x) H)) (orElse' (one1 (aUnsafe T s d (ρ x) H) H) (aPur T ρ o H))
  | .makeInterface t x => one1 (aMakeIface T t (ρ x)) H
  | .makeFunc fn first caps => match fnOk fn with
    | true => some (.val (.fn fn (first.toList.map ρ) (caps.toList.map ρ)), H)
    | false => none
  | .makeMap t r => match T.underlying t, r with
    | some (.map _ _), none => some (.val (aMakeMap H).1, (aMakeMap H).2)
    | some (.map _ _), some x => match avInt (ρ x) with
      | true => some (.val (aMakeMap H).1, (aMakeMap H).2)
      | false => none
    | _, _ => none
  | .makeSlice t l c => one2 (aMakeSlice T t (ρ l) (ρ c) H)
  | .slice t x lo hi none => orElse' (one1 (aSlice T t (ρ x) (lo.map ρ) (hi.map ρ) H) H) (aPur T ρ o H)
  | .slice t x none hi (some m) => match ρ m, T.underlying t with
    | .v (.int _ 0), some (.slice e) => match (T.info? e).isSome with
      | true => orElse' (one1 (aSlice0 T t (ρ x) none (hi.map ρ)) H) (aPur T ρ o H)
      | false => none
    | _, _ => none
  | .slice t x (some lo) (some hi) (some m) => one1 (aSlice3 T t (ρ x) (ρ lo) (ρ hi) (ρ m)) H
  | .fieldAddr t x f => one1 (aFieldAddr T t (ρ x) f) H
  | .field t x f => one1 (aField T t (ρ x) f) H
  | .indexAddr t x i => one1 (aIndexAddr T t (ρ x) (ρ i)) H
  | .index t x i => orElse' (one1 (aIndex T t (ρ x) (ρ i)) H) (aPur T ρ o H)
  | .lookup t x i ok => one1 (aLookup T t (ρ x) (ρ i) ok H) H
  | .mapUpdate t m k x | .insert t m k x => oneU (aMapUpdate T t (ρ m) (ρ k) (ρ x) H)
  | .mapEntry t m k => one2 (aMapEntry T t (ρ m) (ρ k) H)
  | .entryStore t m s x => oneU (aEntryStore (ρ m) (ρ s) (ρ x) H)
  | .range t x => one2 (aRange T t (ρ x) H)
  | .next it s => one2 (aNext (ρ it) s H)
  | .entry it => one1 (aEntry (ρ it) H) H
  | .typeAssert x t a ok => orElse' (one1 (aTypeAssert T (ρ x) a ok) H) (aPur T ρ o H)
  | .extract t i => one1 (aExtract (ρ t) i) H
  | .call c => orElse' (aCall T ρ c H) (aPur T ρ o H)
  | .defer c => match c.callee with
    | .value f => match (ρ f).norm with
      | .fn (.func g) first caps => match callOk T g with
        | true => some (.defer (.call (.func g) caps (first ++ c.args.toList.map ρ)), H)
        | false => none
      | _ => none
    | _ => none
  | .panic x => match (ρ x).norm with
    | .iface t u => some (.panic (.iface t u), H)
    | _ => none
  | .unOp .. => aPur T ρ o H
  | _ => none
variable {ρc : Operand → Value} {ρa : Operand → AV}
theorem VRs.map_ops (hρ : ∀ x, VR G (ρc x) (ρa x)) : ∀ (l : List Operand), VRs G (l.map ρc) (l.map ρa)
  | [] => by simp [VRs]
  | x :: l => by simp only [List.map_cons, VRs]; exact ⟨_, _, rfl, hρ x, VRs.map_ops hρ l⟩
theorem PVs.map_ops (hρ : ∀ x, VR G (ρc x) (ρa x)) : ∀ (l : List (Nat × Operand)), PVs G (l.map fun (i, x) => (i, ρc x)) (l.map fun (i, x) => (i, ρa x))
  | [] => by simp [PVs]
  | (i, x) :: l => by simp only [List.map_cons, PVs]; exact ⟨_, _, rfl, hρ x, PVs.map_ops hρ l⟩
theorem one1_some {r : Option AV} {x : AR} {H' : AH} (h : one1 r H = some (x, H')) : ∃ u, r = some u ∧ x = .val u ∧ H' = H := by
  unfold one1 at h
  split at h <;> simp only [Option.some.injEq, Prod.mk.injEq, reduceCtorEq] at h
  exact ⟨_, rfl, h.1.symm, h.2.symm⟩
theorem one2_some {r : Option (AV × AH)} {x : AR} {H' : AH} (h : one2 r = some (x, H')) : ∃ u, r = some (u, H') ∧ x = .val u := by
  unfold one2 at h
  split at h <;> simp only [Option.some.injEq, Prod.mk.injEq, reduceCtorEq] at h
  obtain ⟨h1, rfl⟩ := h
  exact ⟨_, rfl, h1.symm⟩
theorem oneU_some {r : Option AH} {x : AR} {H' : AH} (h : oneU r = some (x, H')) : r = some H' ∧ x = .skip := by
  unfold oneU at h
  split at h <;> simp only [Option.some.injEq, Prod.mk.injEq, reduceCtorEq] at h
  obtain ⟨h1, rfl⟩ := h
  exact ⟨rfl, h1.symm⟩
theorem orElse_some {a b : Option (AR × AH)} {x : AR × AH} (h : orElse' a b = some x) : a = some x ∨ b = some x := by
  unfold orElse' at h
  split at h
  · exact .inl h
  · exact .inr h
theorem aPur_sound (hR : Rel w G H) (hρ : ∀ x, VR G (ρc x) (ρa x)) {o : Oper} (hs : ∀ cs b, o.op ≠ .select cs b) {r : AR} {H' : AH} (h : aPur T ρa o H = some (r, H')) : OpRel T.P (execOp ρc o) w G H r H' := by
  unfold aPur at h
  split at h <;> try (cases h; done)
  rename_i hall
  have he : execOp ρc o = execOp (fun x => ((ρa x).toV).getD undef) o := by
    apply execOp_congr o hs
    intro x hx
    have := List.all_eq_true.1 hall x (by simpa using hx)
    obtain ⟨v, hv⟩ := Option.isSome_iff_exists.1 this
    simp only [hv, Option.getD_some]
    exact VR.toV _ _ _ (hρ x) hv
  rw [he]
  split at h <;> simp only [Option.some.injEq, Prod.mk.injEq, reduceCtorEq] at h <;> obtain ⟨rfl, rfl⟩ := h
  · rename_i x hp
    exact ⟨w, G, .refl _ _ _, hR, x, pur_ok hp w, by simp [VR]⟩
  · rename_i x hp
    exact ⟨w, G, .refl _ _ _, hR, x, pur_panic hp w, by simp [VR]⟩
theorem callOk_iff {f : FuncId} (h : callOk T f = true) : ∃ fn c, T.P.funcs[f]? = some fn ∧ fn.body = some c ∧ (fn.name == "runtime.NumGoroutine") = false := by
  unfold callOk at h
  split at h <;> try (cases h; done)
  rename_i fn hf
  obtain ⟨c, hc⟩ := Option.isSome_iff_exists.1 h
  exact ⟨fn, c, (T.fnOk f fn hf).1, hc, (T.fnOk f fn hf).2 h⟩
theorem run_callFunc {f : FuncId} (h : callOk T f = true) (args : Array Value) (w : World) : (callFunc f args).run T.P w = .ok (.enter f args) w := by
  obtain ⟨fn, c, h1, h2, h3⟩ := callOk_iff h
  have h3' : ¬ fn.name = "runtime.NumGoroutine" := by intro e; rw [e] at h3; simp at h3
  simp [callFunc, h1, h2, h3', Result.andThen]
theorem foldl_set_rel : ∀ (ps : List Tmp) {xs : List Value} {us : List AV} {ts : List Value} {uts : HT AV}, VRs G xs us → TRel G ts uts →
    TRel G ((ps.zip xs).foldl (fun tmps (t, a) => tmps.set t a) ts) (setZip ps us uts)
  | [], _, _, _, _, _, k => k
  | p :: ps, xs, [], ts, uts, h, k => by simp only [VRs] at h; subst h; exact k
  | p :: ps, xs, u :: us, ts, uts, h, k => by
    simp only [VRs] at h
    obtain ⟨y, ys, rfl, h1, h2⟩ := h
    exact foldl_set_rel ps h2 (k.set p h1)
theorem foldl_arr_list : ∀ (l : List (Tmp × Value)) (ts : Array Value), (l.foldl (fun tmps (t, a) => tmps.setIfInBounds t a) ts).toList = l.foldl (fun tmps (t, a) => tmps.set t a) ts.toList
  | [], _ => rfl
  | (t, a) :: l, ts => by simp only [List.foldl_cons]; rw [foldl_arr_list l]; simp
theorem aCall_sound (hR : Rel w G H) (hρ : ∀ x, VR G (ρc x) (ρa x)) {o : Oper} {c : Call} (ho : o.op = .call c) {r : AR} {H' : AH} (h : aCall T ρa c H = some (r, H')) : OpRel T.P (execOp ρc o) w G H r H' := by
  have hex : execOp ρc o = (do let d ← resolve ρc c o.type; invoke d.target d.args) := by simp only [execOp, ho]
  rw [hex]
  obtain ⟨callee, args, argTypes⟩ := c
  unfold aCall at h
  split at h
  · -- len
    rename_i hc
    simp only at hc; subst hc
    split at h <;> try (cases h; done)
    rename_i t x ht hx
    obtain ⟨u, h1, rfl, rfl⟩ := one1_some h
    obtain rfl : argTypes = #[t] := by apply Array.ext'; simpa using ht
    obtain rfl : args = #[x] := by apply Array.ext'; simpa using hx
    have := aLen_sound (T := T) hR #[] o.type (hρ x) h1
    have h2 := OpRel.of_v this
    simpa [resolve, invoke, builtin] using h2
  · rename_i hc
    simp only at hc; subst hc
    split at h <;> try (cases h; done)
    rename_i t t2 x y ht hx
    obtain rfl : argTypes = #[t, t2] := by apply Array.ext'; simpa using ht
    obtain rfl : args = #[x, y] := by apply Array.ext'; simpa using hx
    rcases orElse_some h with h | h
    · obtain ⟨u, h1, rfl⟩ := one2_some h
      have := aAppend_sound (T := T) hR o.type (hρ x) (hρ y) h1
      have h2 := OpRel.of_v this
      simpa [resolve, invoke, builtin] using h2
    · obtain ⟨u, h1, rfl⟩ := one2_some h
      have := aAppendZ_sound (T := T) hR o.type (hρ x) (hρ y) h1
      have h2 := OpRel.of_v this
      simpa [resolve, invoke, builtin] using h2
  · rename_i hc
    simp only at hc; subst hc
    split at h <;> try (cases h; done)
    rename_i t t2 x y ht hx
    obtain ⟨u, h1, rfl⟩ := one2_some h
    obtain rfl : argTypes = #[t, t2] := by apply Array.ext'; simpa using ht
    obtain rfl : args = #[x, y] := by apply Array.ext'; simpa using hx
    have := aCopy_sound (T := T) hR #[] o.type (hρ x) (hρ y) h1 t2
    have h2 := OpRel.of_v this
    simpa [resolve, invoke, builtin] using h2
  · rename_i hc
    simp only at hc; subst hc
    split at h <;> try (cases h; done)
    rename_i t x ht hx
    obtain ⟨u, h1, rfl, rfl⟩ := one1_some h
    obtain rfl : argTypes = #[t] := by apply Array.ext'; simpa using ht
    obtain rfl : args = #[x] := by apply Array.ext'; simpa using hx
    have := aCap_sound (T := T) hR o.type (hρ x) h1
    have h2 := OpRel.of_v this
    simpa [resolve, invoke, builtin] using h2
  · rename_i hc
    simp only at hc; subst hc
    split at h <;> try (cases h; done)
    rename_i t x ht hx
    obtain ⟨u, h1, rfl⟩ := one2_some h
    obtain rfl : argTypes = #[t] := by apply Array.ext'; simpa using ht
    obtain rfl : args = #[x] := by apply Array.ext'; simpa using hx
    have := aClear_sound (T := T) hR o.type (hρ x) h1
    have h2 := OpRel.of_v this
    simpa [resolve, invoke, builtin] using h2
  · rename_i hc
    simp only at hc; subst hc
    split at h <;> try (cases h; done)
    rename_i x hx
    obtain ⟨u, h1, rfl, rfl⟩ := one1_some h
    obtain rfl : args = #[x] := by apply Array.ext'; simpa using hx
    have := aSliceData_sound (T := T) hR argTypes o.type (hρ x) h1
    have h2 := OpRel.of_v this
    simpa [resolve, invoke, builtin] using h2
  · rename_i hc
    simp only at hc; subst hc
    split at h <;> try (cases h; done)
    rename_i t t2 x y ht hx
    obtain ⟨u, h1, rfl⟩ := one2_some h
    obtain rfl : argTypes = #[t, t2] := by apply Array.ext'; simpa using ht
    obtain rfl : args = #[x, y] := by apply Array.ext'; simpa using hx
    have := aUnsafeStr_sound (T := T) (it := t2) hR o.type (hρ x) (hρ y) h1
    have h2 := OpRel.of_v this
    simpa [resolve, invoke, builtin] using h2
  · rename_i hc
    simp only at hc; subst hc
    simp only [Option.some.injEq, Prod.mk.injEq] at h
    obtain ⟨rfl, rfl⟩ := h
    exact ⟨w, G, .refl _ _ _, hR, by simp [resolve, invoke, builtin]⟩
  · cases h
  · rename_i f hc
    simp only at hc; subst hc
    have hf := (hρ f).norm
    split at h
    · rename_i g first caps hn
      rw [hn] at hf
      simp only [VR] at hf
      obtain ⟨a, b, hfe, h2, h3⟩ := hf
      split at h
      · rename_i hok
        simp only [Option.some.injEq, Prod.mk.injEq] at h
        obtain ⟨rfl, rfl⟩ := h
        refine ⟨w, G, .refl _ _ _, hR, (⟨a⟩ : Array Value) ++ args.map ρc ++ ⟨b⟩, ?_, ?_⟩
        · simp [resolve, hfe, Deferred.ofValue, invoke, run_callFunc hok]
        · simp only [Array.toList_append, Array.toList_map]
          exact (h2.append (VRs.map_ops hρ _)).append h3
      · split at h <;> try (cases h; done)
        rename_i x hne hargs
        simp only [Option.some.injEq, Prod.mk.injEq] at h
        obtain ⟨rfl, rfl⟩ := h
        simp only [VRs] at h2 h3
        subst h2 h3
        obtain rfl : args = #[x] := by apply Array.ext'; simpa using hargs
        exact ⟨w, G, .refl _ _ _, hR, ρc x, by simp [resolve, hfe, Deferred.ofValue, invoke, noEsc_run hne], hρ x⟩
    · rename_i id hn
      rw [hn] at hf
      simp only [VR] at hf
      obtain ⟨p1, p2, q, hfe, p3⟩ := hf
      split at h <;> try (cases h; done)
      rename_i lp hget
      split at h <;> try (cases h; done)
      rename_i hsz
      rw [Nat.beq_eq] at hsz
      simp only [Option.some.injEq, Prod.mk.injEq] at h
      obtain ⟨rfl, rfl⟩ := h
      have hid : id < H.n := AH.lt_of_get (by rw [hget]; simp)
      have hO := hR.obj id hid
      rw [hget] at hO
      obtain ⟨o1, o2, o3, ts, dd, fn, o4, o5, o6⟩ := hO
      obtain rfl := p3 o1
      have hrun := run_yield (P := T.P) (w := w) (l := G.blk id) (args := args.map ρc) o4 (by simp [hsz])
      refine ⟨w, G, .refl _ _ _, hR, lp, fn, (lp.params.zip (args.map ρc)).foldl (fun tmps (t, a) => tmps.setIfInBounds t a) ⟨ts⟩, hget, ?_, ?_⟩
      · have e : (#[] ++ args.map ρc : Array Value) = args.map ρc := by simp
        simp only [resolve, hfe, Deferred.ofValue, Sem.run_bind, Sem.run_pure, Result.andThen_ok, invoke, e]
        exact hrun
      · rw [← Array.foldl_toList, foldl_arr_list, Array.toList_zip, Array.toList_map]
        exact foldl_set_rel _ (VRs.map_ops hρ _) o5
    · cases h
  · cases h
theorem avInt_iff {x : Value} {u : AV} (hx : VR G x u) (h : avInt u = true) : ∃ kk n, x = .int kk n := by
  unfold avInt at h
  split at h
  · simp only [VR] at hx; exact ⟨_, _, hx⟩
  · cases h
theorem OVR.map_ops (hρ : ∀ x, VR G (ρc x) (ρa x)) : ∀ (l : Option Operand), OVR G (l.map ρc) (l.map ρa)
  | none => trivial
  | some x => hρ x
theorem aop_sound (hR : Rel w G H) (hρ : ∀ x, VR G (ρc x) (ρa x)) {o : Oper} {r : AR} {H' : AH} (h : aop T ρa o H = some (r, H')) : OpRel T.P (execOp ρc o) w G H r H' := by
  have pur : ∀ {r : AR} {H' : AH}, (∀ cs b, o.op ≠ .select cs b) → aPur T ρa o H = some (r, H') → OpRel T.P (execOp ρc o) w G H r H' := fun hs h => aPur_sound hR hρ hs h
  unfold aop at h
  have same : ∀ {u : AV} {x : Operand}, (execOp ρc o).run T.P w = .ok (.value (ρc x)) w → VR G (ρc x) u → OpRel T.P (execOp ρc o) w G H (.val u) H := fun hr hv => ⟨w, G, .refl _ _ _, hR, _, hr, hv⟩
  cases ho : o.op with
  | move x =>
    rw [ho] at h
    simp only [Option.some.injEq, Prod.mk.injEq] at h
    obtain ⟨rfl, rfl⟩ := h
    exact same (x := x) (by simp [execOp, ho]) (hρ x)
  | assign x =>
    rw [ho] at h
    simp only [Option.some.injEq, Prod.mk.injEq] at h
    obtain ⟨rfl, rfl⟩ := h
    exact same (x := x) (by simp [execOp, ho]) (hρ x)
  | pick c a b =>
    rw [ho] at h
    simp only at h
    have hc := hρ c
    split at h <;> simp only [Option.some.injEq, Prod.mk.injEq, reduceCtorEq] at h <;> obtain ⟨rfl, rfl⟩ := h
    · rename_i e
      rw [e] at hc
      simp only [VR] at hc
      exact same (x := a) (by simp [execOp, ho, hc, asBool]) (hρ a)
    · rename_i e
      rw [e] at hc
      simp only [VR] at hc
      exact same (x := b) (by simp [execOp, ho, hc, asBool]) (hρ b)
  | alloc e =>
    rw [ho] at h
    obtain ⟨u, h1, rfl⟩ := one2_some h
    simpa [execOp, ho] using OpRel.of_v (aAlloc_sound (T := T) hR h1)
  | box t x =>
    rw [ho] at h
    obtain ⟨u, h1, rfl⟩ := one2_some h
    simpa [execOp, ho] using OpRel.of_v (aBox_sound (T := T) hR t (hρ x) h1)
  | build t ps =>
    rw [ho] at h
    obtain ⟨u, h1, rfl, rfl⟩ := one1_some h
    have hp : PVs G (ps.map fun (i, x) => (i, ρc x)).toList (ps.toList.map fun (i, x) => (i, ρa x)) := by rw [Array.toList_map]; exact PVs.map_ops hρ _
    simpa [execOp, ho] using OpRel.of_v (aBuild_sound (T := T) hR hp h1)
  | buildSlice t n ps =>
    rw [ho] at h
    obtain ⟨u, h1, rfl⟩ := one2_some h
    have hp : PVs G (ps.map fun (i, x) => (i, ρc x)).toList (ps.toList.map fun (i, x) => (i, ρa x)) := by rw [Array.toList_map]; exact PVs.map_ops hρ _
    simpa [execOp, ho] using OpRel.of_v (aBuildSlice_sound (T := T) hR hp h1)
  | load t a =>
    rw [ho] at h
    obtain ⟨u, h1, rfl, rfl⟩ := one1_some h
    simpa [execOp, ho] using OpRel.of_v (aLoad_sound (T := T) hR (hρ a) h1)
  | store t a x =>
    rw [ho] at h
    obtain ⟨h1, rfl⟩ := oneU_some h
    simpa [execOp, ho] using OpRel.of_u (aStore_sound (T := T) hR (hρ a) (hρ x) h1)
  | nilCheck x =>
    rw [ho] at h
    simp only at h
    have hc := (hρ x).norm
    split at h
    · rename_i e
      simp only [Option.some.injEq, Prod.mk.injEq] at h
      obtain ⟨rfl, rfl⟩ := h
      rw [e] at hc
      simp only [VR] at hc
      obtain ⟨_, _, a, hx, _⟩ := hc
      exact same (x := x) (by simp [execOp, ho, hx]) (hρ x)
    · rename_i e
      simp only [Option.some.injEq, Prod.mk.injEq] at h
      obtain ⟨rfl, rfl⟩ := h
      rw [e] at hc
      simp only [VR] at hc
      obtain ⟨_, _, _, _, hx, _⟩ := hc
      exact same (x := x) (by simp [execOp, ho, hx]) (hρ x)
    · rename_i e
      simp only [Option.some.injEq, Prod.mk.injEq] at h
      obtain ⟨rfl, rfl⟩ := h
      rw [e] at hc
      simp only [VR] at hc
      obtain ⟨_, _, hx, _⟩ := hc
      exact same (x := x) (by simp [execOp, ho, hx]) (hρ x)
    · rename_i e
      simp only [Option.some.injEq, Prod.mk.injEq] at h
      obtain ⟨rfl, rfl⟩ := h
      rw [e] at hc
      simp only [VR] at hc
      obtain ⟨_, _, _, hx, _⟩ := hc
      exact same (x := x) (by simp [execOp, ho, hx]) (hρ x)
    · rename_i e
      simp only [Option.some.injEq, Prod.mk.injEq] at h
      obtain ⟨rfl, rfl⟩ := h
      rw [e] at hc
      simp only [VR] at hc
      obtain ⟨_, hx, _⟩ := hc
      exact same (x := x) (by simp [execOp, ho, hx]) (hρ x)
    · exact pur (by rw [ho]; simp) h
  | binOp b t x y ty =>
    rw [ho] at h
    simp only at h
    split at h
    · rename_i k n j m e1 e2
      split at h
      · rename_i v hv
        simp only [Option.some.injEq, Prod.mk.injEq] at h
        obtain ⟨rfl, rfl⟩ := h
        have hx := hρ x
        have hy := hρ y
        rw [e1] at hx
        rw [e2] at hy
        simp only [VR] at hx hy
        refine ⟨w, G, .refl _ _ _, hR, v, ?_, by simp [VR]⟩
        have := fastBin_ok (T := T) hv t x y w
        simp only [execOp, ho, hx, hy, Sem.run_bind (x := do eqGuard b t x y (.int k n) (.int j m); binOp b t (.int k n) (.int j m)), this, Result.andThen_ok, Sem.run_pure]
      · exact pur (by rw [ho]; simp) h
    rcases orElse_some h with h1 | h1
    · obtain ⟨u, h2, rfl, rfl⟩ := one1_some h1
      simpa [execOp, ho] using OpRel.of_v (aNil_sound (T := T) (ox := x) (oy := y) hR (hρ x) (hρ y) h2)
    · rcases orElse_some h1 with h1 | h1
      · obtain ⟨u, h2, rfl, rfl⟩ := one1_some h1
        simpa [execOp, ho] using OpRel.of_v (aPtrEq_sound (T := T) (ox := x) (oy := y) hR (hρ x) (hρ y) h2)
      · exact pur (by rw [ho]; simp) h1
  | unOp b t x =>
    rw [ho] at h
    exact pur (by rw [ho]; simp) h
  | convert s d x =>
    rw [ho] at h
    rcases orElse_some h with h1 | h1
    · obtain ⟨u, h2, rfl⟩ := one2_some h1
      simpa [execOp, ho] using OpRel.of_v (aConvert_sound (T := T) hR (hρ x) h2)
    · rcases orElse_some h1 with h1 | h1
      · obtain ⟨u, h2, rfl, rfl⟩ := one1_some h1
        simpa [execOp, ho] using OpRel.of_v (aUnsafe_sound (T := T) hR (hρ x) h2)
      · exact pur (by rw [ho]; simp) h1
  | makeInterface t x =>
    rw [ho] at h
    obtain ⟨u, h1, rfl, rfl⟩ := one1_some h
    simpa [execOp, ho] using OpRel.of_v (aMakeIface_sound (T := T) hR (hρ x) h1)
  | makeFunc fn first caps =>
    rw [ho] at h
    simp only at h
    split at h <;> simp only [Option.some.injEq, Prod.mk.injEq, reduceCtorEq] at h
    obtain ⟨rfl, rfl⟩ := h
    refine ⟨w, G, .refl _ _ _, hR, .func fn (first.map ρc) (caps.map ρc), by simp [execOp, ho, Instr.makeFunc], ?_⟩
    simp only [VR]
    refine ⟨(first.map ρc).toList, (caps.map ρc).toList, rfl, ?_, ?_⟩
    · rw [Array.toList_map]; exact VRs.map_ops hρ _
    · rw [Array.toList_map]; exact VRs.map_ops hρ _
  | makeMap t r =>
    rw [ho] at h
    simp only at h
    split at h
    · rename_i k e hu
      simp only [Option.some.injEq, Prod.mk.injEq] at h
      obtain ⟨rfl, rfl⟩ := h
      simpa [execOp, ho] using OpRel.of_v (aMakeMap_sound (T := T) hR hu none (by simp))
    · rename_i k e x hu
      split at h <;> simp only [Option.some.injEq, Prod.mk.injEq, reduceCtorEq] at h
      rename_i hi
      obtain ⟨rfl, rfl⟩ := h
      have this := avInt_iff (hρ x) hi
      obtain ⟨kk, n, hx'⟩ := this
      simpa [execOp, ho] using OpRel.of_v (aMakeMap_sound (T := T) hR hu (some (ρc x)) (by intro v hv; simp at hv; subst hv; exact ⟨kk, n, hx'⟩))
    · cases h
  | makeSlice t l c =>
    rw [ho] at h
    obtain ⟨u, h1, rfl⟩ := one2_some h
    simpa [execOp, ho] using OpRel.of_v (aMakeSlice_sound (T := T) hR (hρ l) (hρ c) h1)
  | slice t x lo hi mx =>
    rw [ho] at h
    cases mx with
    | none =>
      rcases orElse_some h with h1 | h1
      · obtain ⟨u, h2, rfl, rfl⟩ := one1_some h1
        simpa [execOp, ho] using OpRel.of_v (aSlice_sound (T := T) hR (hρ x) (OVR.map_ops hρ lo) (OVR.map_ops hρ hi) h2)
      · exact pur (by rw [ho]; simp) h1
    | some m =>
      cases lo with
      | some l =>
        cases hi with
        | none => simp at h
        | some hh =>
          obtain ⟨u, h2, rfl, rfl⟩ := one1_some h
          simpa [execOp, ho] using OpRel.of_v (aSlice3_sound (T := T) hR (hρ x) (hρ l) (hρ hh) (hρ m) h2)
      | none =>
        simp only at h
        split at h <;> try (cases h; done)
        rename_i k e hm hu
        split at h <;> try (cases h; done)
        rename_i hie
        rcases orElse_some h with h1 | h1
        · obtain ⟨u, h2, rfl, rfl⟩ := one1_some h1
          simpa [execOp, ho] using OpRel.of_v (aSlice0_sound (T := T) (k := k) hR (hρ x) (OVR.map_ops hρ hi) (hρ m) hm (fun e' he' => by rw [hu] at he'; simp at he'; subst he'; exact hie) h2)
        · exact pur (by rw [ho]; simp) h1
  | fieldAddr t x f =>
    rw [ho] at h
    obtain ⟨u, h1, rfl, rfl⟩ := one1_some h
    simpa [execOp, ho] using OpRel.of_v (aFieldAddr_sound (T := T) hR (hρ x) h1)
  | field t x f =>
    rw [ho] at h
    obtain ⟨u, h1, rfl, rfl⟩ := one1_some h
    simpa [execOp, ho] using OpRel.of_v (aField_sound (T := T) hR (hρ x) h1)
  | indexAddr t x i =>
    rw [ho] at h
    obtain ⟨u, h1, rfl, rfl⟩ := one1_some h
    simpa [execOp, ho] using OpRel.of_v (aIndexAddr_sound (T := T) hR (hρ x) (hρ i) h1)
  | index t x i =>
    rw [ho] at h
    rcases orElse_some h with h1 | h1
    · obtain ⟨u, h2, rfl, rfl⟩ := one1_some h1
      simpa [execOp, ho] using OpRel.of_v (aIndex_sound (T := T) hR (hρ x) (hρ i) h2)
    · exact pur (by rw [ho]; simp) h1
  | lookup t x i ok =>
    rw [ho] at h
    obtain ⟨u, h1, rfl, rfl⟩ := one1_some h
    simpa [execOp, ho] using OpRel.of_v (aLookup_sound (T := T) hR (hρ x) (hρ i) h1)
  | mapUpdate t m k x =>
    rw [ho] at h
    obtain ⟨h1, rfl⟩ := oneU_some h
    simpa [execOp, ho] using OpRel.of_u (aMapUpdate_sound (T := T) hR (hρ m) (hρ k) (hρ x) h1)
  | insert t m k x =>
    rw [ho] at h
    obtain ⟨h1, rfl⟩ := oneU_some h
    simpa [execOp, ho] using OpRel.of_u (aMapUpdate_sound (T := T) hR (hρ m) (hρ k) (hρ x) h1)
  | mapEntry t m k =>
    rw [ho] at h
    obtain ⟨u, h1, rfl⟩ := one2_some h
    simpa [execOp, ho] using OpRel.of_v (aMapEntry_sound (T := T) hR (hρ m) (hρ k) h1)
  | entryStore t m s x =>
    rw [ho] at h
    obtain ⟨h1, rfl⟩ := oneU_some h
    simpa [execOp, ho] using OpRel.of_u (aEntryStore_sound (T := T) (t := t) hR (hρ m) (hρ s) (hρ x) h1)
  | range t x =>
    rw [ho] at h
    obtain ⟨u, h1, rfl⟩ := one2_some h
    simpa [execOp, ho] using OpRel.of_v (aRange_sound (T := T) hR (hρ x) h1)
  | next it s =>
    rw [ho] at h
    obtain ⟨u, h1, rfl⟩ := one2_some h
    simpa [execOp, ho] using OpRel.of_v (aNext_sound (T := T) hR o.type (hρ it) h1)
  | entry it =>
    rw [ho] at h
    obtain ⟨u, h1, rfl, rfl⟩ := one1_some h
    simpa [execOp, ho] using OpRel.of_v (aEntry_sound (T := T) hR (hρ it) h1)
  | typeAssert x t a ok =>
    rw [ho] at h
    rcases orElse_some h with h1 | h1
    · obtain ⟨u, h2, rfl, rfl⟩ := one1_some h1
      simpa [execOp, ho] using OpRel.of_v (aTypeAssert_sound (T := T) hR (hρ x) h2)
    · exact pur (by rw [ho]; simp) h1
  | extract t i =>
    rw [ho] at h
    obtain ⟨u, h1, rfl, rfl⟩ := one1_some h
    simpa [execOp, ho] using OpRel.of_v (aExtract_sound (T := T) hR (hρ t) h1)
  | call c =>
    rw [ho] at h
    rcases orElse_some h with h1 | h1
    · exact aCall_sound hR hρ ho h1
    · exact pur (by rw [ho]; simp) h1
  | defer c =>
    rw [ho] at h
    simp only at h
    split at h <;> try (cases h; done)
    rename_i f hc
    split at h <;> try (cases h; done)
    rename_i g first caps hn
    split at h <;> simp only [Option.some.injEq, Prod.mk.injEq, reduceCtorEq] at h
    obtain ⟨rfl, rfl⟩ := h
    have hf := (hρ f).norm
    rw [hn] at hf
    simp only [VR] at hf
    obtain ⟨a, b, hfe, h2, h3⟩ := hf
    refine ⟨w, G, .refl _ _ _, hR, { target := .fn (.func g) ⟨b⟩, args := (⟨a⟩ : Array Value) ++ c.args.map ρc }, ?_, ?_⟩
    · simp [execOp, ho, resolve, hc, hfe, Deferred.ofValue]
    · refine ⟨b, ((⟨a⟩ : Array Value) ++ c.args.map ρc).toList, rfl, h3, ?_⟩
      simp only [Array.toList_append, Array.toList_map]
      exact h2.append (VRs.map_ops hρ _)
  | panic x =>
    rw [ho] at h
    simp only at h
    split at h <;> simp only [Option.some.injEq, Prod.mk.injEq, reduceCtorEq] at h
    rename_i t u hn
    obtain ⟨rfl, rfl⟩ := h
    have hx := (hρ x).norm
    rw [hn] at hx
    have hx' := hx
    simp only [VR] at hx'
    obtain ⟨y, hxe, hy⟩ := hx'
    refine ⟨w, G, .refl _ _ _, hR, ρc x, ?_, hx⟩
    simp [execOp, ho, hxe, Instr.panic, goPanic, Sem.run, Result.andThen]
  | _ => rw [ho] at h; simp at h
end
end Go.Proofs.Ytlajcmoiopaemaa
