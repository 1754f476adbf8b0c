/- The evaluator is right: parts of it. No program in sight. -/
import Derived.Test.YtlajcmoiopaemaaAv12
import Derived.Test.YtlajcmoiopaemaaAv11e
import Derived.LoopNIn
import Derived.RangeFuncNested
set_option linter.unusedVariables false
set_option linter.unusedSimpArgs false
noncomputable section
namespace Go.Proofs.Ytlajcmoiopaemaa
section
variable {P : Program}
theorem LeavesInM.mono {F : Fence} {n : Nat} {fn : Func} {tmps : Array Value} {R R' : Ending → World → Prop} (hr : ∀ e w, R e w → R' e w) : ∀ {ds : List Deferred} {u : FrameMode} {w : World}, LeavesInM F n P fn tmps R ds u w → LeavesInM F n P fn tmps R' ds u w
  | [], u, w, h => by
    cases u with
    | run => exact h
    | returning => obtain ⟨v, h1, h2⟩ := h; exact ⟨v, h1, hr _ _ h2⟩
    | panicking ch => exact hr _ _ h
  | d :: ds, u, w, ⟨h0, h⟩ => by
    refine ⟨h0, ?_⟩
    rcases h with ⟨r, w', h1, h2, h3⟩ | ⟨h1, fv, cap, f, args, h2, h3, h4, h5⟩
    · exact .inl ⟨r, w', h1, h2, LeavesInM.mono hr h3⟩
    · refine .inr ⟨h1, fv, cap, f, args, h2, h3, h4, CallsDIn.mono h5 (fun e u' w' he => ?_)⟩
      cases e with
      | returned v => exact LeavesInM.mono hr he
      | panicked ch => exact LeavesInM.mono hr he
      | outgrown => exact hr _ _ he
theorem roundsIn_mono {F : Fence} {n : Nat} {c : Code} {Q Q' : Exit → Act → World → Prop} (hq : ∀ e a w, Q e a w → Q' e a w) : ∀ {m : Nat} {a : Act} {w : World}, Code.roundsIn F n P c Q m a w → Code.roundsIn F n P c Q' m a w
  | 0, _, _, h => h
  | m + 1, a, w, h => wpIn_mono h (fun e a w q => by
    cases e with
    | normal => exact roundsIn_mono hq q
    | _ => exact hq _ _ _ q)
end
def ModeRel (G : Gh) : FrameMode → AMode → Prop
  | .returning, .returning => True
  | .panicking ch, .panicking u => ∃ x, ch = [{ v := x, recovered := false }] ∧ VR G x u
  | .panicking ch, .recovered => ∃ x, ch = [{ v := x, recovered := true }]
  | _, _ => False
theorem ModeRel.mono {G G' : Gh} (h : G.le G') {m : FrameMode} {a : AMode} (k : ModeRel G m a) : ModeRel G' m a := by
  cases m <;> cases a <;> simp only [ModeRel] at k ⊢
  · obtain ⟨x, h1, h2⟩ := k
    exact ⟨x, h1, VR.mono h _ _ h2⟩
  · exact k
theorem EndRel.mono {G G' : Gh} (h : G.le G') {e : Ending} {a : AEnd} (k : EndRel G e a) : EndRel G' e a := by
  cases e <;> cases a <;> simp only [EndRel] at k ⊢
  · exact VR.mono h _ _ k
  · obtain ⟨x, h1, h2⟩ := k
    exact ⟨x, h1, VR.mono h _ _ h2⟩
theorem ExRel.mono {G G' : Gh} (h : G.le G') {e : Exit} {a : AExit} (k : ExRel G e a) : ExRel G' e a := by
  cases e <;> cases a <;> simp only [ExRel] at k ⊢ <;> first | exact k | skip
  obtain ⟨x, h1, h2⟩ := k
  exact ⟨x, h1, VR.mono h _ _ h2⟩
theorem ModeRel.settle {G : Gh} {m : FrameMode} {a : AMode} (k : ModeRel G m a) : ModeRel G (settle m) (settleA a) := by
  cases m <;> cases a <;> simp only [ModeRel] at k
  · trivial
  · obtain ⟨x, rfl, h⟩ := k
    exact ⟨x, rfl, h⟩
  · obtain ⟨x, rfl⟩ := k
    trivial
def LeaveOk (P : Program) (fn : Func) (tmps : HT AV) (ds : List ADef) (m : AMode) (H : AH) (r : AEnd) (H' : AH) : Prop :=
  ∀ (w : World) (G : Gh) (ct : Array Value) (cds : List Deferred) (mode : FrameMode), Rel w G H → TRel G ct.toList tmps → DRs G cds ds → ModeRel G mode m →
    LeavesInM Fence.wide 0 P fn ct (fun ce w' => ∃ G', Ext w G H w' G' H' ∧ Rel w' G' H' ∧ EndRel G' ce r) cds mode w
def DefOk (T : Tab) (g : FuncId) (args : List AV) (m : AMode) (H : AH) (m' : AMode) (H' : AH) : Prop :=
  callOk T g = true ∧ ∀ (w : World) (G : Gh) (cargs : Array Value) (mode : FrameMode), Rel w G H → VRs G cargs.toList args → ModeRel G mode m →
    CallsDIn Fence.wide 0 T.P g cargs mode w (fun ce mode' w' => ∃ G', Ext w G H w' G' H' ∧ Rel w' G' H' ∧ ModeRel G' mode' m' ∧ ∃ v, ce = .returned v)
def LoopOk (P : Program) (r : Option Nat) (x : Code) (a : AAct) (H : AH) (e : AExit) (a' : AAct) (H' : AH) : Prop :=
  ∃ k, ∀ (w : World) (G : Gh) (ca : Act) (rr : Option Nat), Rel w G H → ARel G ca a → RR G rr r →
    Code.roundsIn (FR rr) 0 P x (Next' P w G H e a' H') k ca w
structure EvOk (T : Tab) (e : Ev) : Prop where
  F : ∀ f args H r H', e.F f args H = some (r, H') → CallOk T.P f args H r H'
  L : ∀ fn tmps ds m H r H', e.L fn tmps ds m H = some (r, H') → LeaveOk T.P fn tmps ds m H r H'
  D : ∀ g args m H m' H', e.D g args m H = some (m', H') → DefOk T g args m H m' H'
  C : ∀ r c a H x a' H', e.C r c a H = some (x, a', H') → CodeOk T.P r c a H x a' H'
  W : ∀ r c a H x a' H', e.C r (.loop c) a H = some (x, a', H') → LoopOk T.P r c a H x a' H'
  Y : ∀ id args H r H', e.Y id args H = some (r, H') → RoundOk T.P id args H r H'
theorem EvOk.none (T : Tab) : EvOk T Ev.none := by
  refine ⟨?_, ?_, ?_, ?_, ?_, ?_⟩ <;> intros <;> rename_i h <;> simp [Ev.none] at h
section
variable {T : Tab} {w : World} {G : Gh} {H H' : AH}
/-! ### results -/
theorem aLoad_here (hR : Rel w G H) {t : TypeId} {x : Value} {u r : AV} (hx : VR G x u) (h : aLoad T t u H = some r) : ∃ y, (do loadVar t (← asAddr x) : Sem Value).run T.P w = .ok y w ∧ VR G y r := by
  unfold aLoad at h
  split at h <;> try (cases h; done)
  rename_i d i p hd hi hp
  obtain ⟨a, rfl, ha⟩ := hx.addr hp
  split at h
  · rename_i hg
    split at h <;> try (cases h; done)
    rename_i us hus
    simp only [Option.some.injEq] at h
    subst h
    obtain ⟨xs, h1, h2, h3⟩ := rd_sound hR ha hus
    refine ⟨.agg xs.toArray, ?_, by simp only [VR]; exact ⟨xs, rfl, h2⟩⟩
    have hl := run_loadCells_list (P := T.P) w a xs (fun j v hj => h3 j v hj)
    simp [asAddr, loadVar, run_tagg hd, hg, run_tsize hi, ← h1, hl, Result.andThen]
  · rename_i hg
    split at h <;> try (cases h; done)
    rename_i y hus
    simp only [Option.some.injEq] at h
    subst h
    obtain ⟨xs, h1, h2, h3⟩ := rd_sound hR ha hus
    simp only [VRs] at h2
    obtain ⟨z, _, rfl, h4, _⟩ := h2
    refine ⟨z, ?_, h4⟩
    have hc := h3 0 z rfl
    have : a.add 0 = a := by unfold Addr.add; rfl
    rw [this] at hc
    simp [asAddr, loadVar, run_tagg hd, hg, run_load, hc, Result.andThen]
theorem TRel.getD {t : HT AV} {xs : Array Value} (h : TRel G xs.toList t) (i : Nat) : VR G (xs.getD i undef) (t.or i) := by
  have := h.or i
  rw [Array.getElem?_toList] at this
  simpa [Array.getD_eq_getD_getElem?] using this
def resOf (tmps : Array Value) : ResultVar → Sem Value
  | .tmp t => pure (tmps.getD t undef)
  | .cell a t => do loadVar t (← asAddr (tmps.getD a undef))
theorem aRes_sound (hR : Rel w G H) {us : HT AV} {xs : Array Value} (h : TRel G xs.toList us) : ∀ {l : List ResultVar} {rs : List AV}, aRes T us H l = some rs → ∃ ys : List Value, (l.mapM (resOf xs)).run T.P w = .ok ys w ∧ VRs G ys rs
  | [], rs, k => by
    simp only [aRes, Option.some.injEq] at k
    subst k
    exact ⟨[], by simp [List.mapM_nil], by simp [VRs]⟩
  | .tmp t :: l, rs, k => by
    simp only [aRes] at k
    split at k <;> simp only [Option.some.injEq, reduceCtorEq] at k
    rename_i rs' hk
    subst k
    obtain ⟨ys, h1, h2⟩ := aRes_sound hR h hk
    refine ⟨xs.getD t undef :: ys, by simp [List.mapM_cons, resOf, h1, Result.andThen], ?_⟩
    simp only [VRs]
    exact ⟨_, _, rfl, h.getD t, h2⟩
  | .cell a t :: l, rs, k => by
    simp only [aRes] at k
    split at k <;> simp only [Option.some.injEq, reduceCtorEq] at k
    rename_i u rs' hu hk
    subst k
    obtain ⟨ys, h1, h2⟩ := aRes_sound hR h hk
    obtain ⟨y, h3, h4⟩ := aLoad_here hR (h.getD a) hu
    refine ⟨y :: ys, by simp only [List.mapM_cons, resOf, Sem.run_bind] at h1 h3 ⊢; rw [h3]; simp [h1, Result.andThen], ?_⟩
    simp only [VRs]
    exact ⟨_, _, rfl, h4, h2⟩
theorem aResults_sound (hR : Rel w G H) {fn : Func} {us : HT AV} {xs : Array Value} {u : AV} (h : TRel G xs.toList us) (k : aResults T fn us H = some u) : ∃ v, (results fn xs).run T.P w = .ok v w ∧ VR G v u := by
  have hres : results fn xs = (do let vs ← fn.results.mapM (resOf xs); pure (if h : vs.size = 1 then vs[0] else .tuple vs)) := by
    unfold results
    congr 1
  unfold aResults at k
  have key : ∀ {rs : List AV}, aRes T us H fn.results.toList = some rs → ∃ ys : Array Value, (fn.results.mapM (resOf xs)).run T.P w = .ok ys w ∧ VRs G ys.toList rs := by
    intro rs hrs
    obtain ⟨ys, h1, h2⟩ := aRes_sound hR h hrs
    refine ⟨ys.toArray, ?_, by simpa using h2⟩
    rw [Array.mapM_eq_mapM_toList]
    simp only [map_eq_pure_bind, Sem.run_bind, h1, Result.andThen_ok, Sem.run_pure]
  split at k <;> simp only [Option.some.injEq, reduceCtorEq] at k
  · rename_i z hz
    subst k
    obtain ⟨ys, h1, h2⟩ := key hz
    simp only [VRs] at h2
    obtain ⟨y, ys', h3, h4, rfl⟩ := h2
    obtain ⟨ys⟩ := ys
    simp only at h3
    subst h3
    refine ⟨y, ?_, h4⟩
    rw [hres]
    simp [h1, Result.andThen]
  · rename_i l hne hl
    subst k
    obtain ⟨ys, h1, h2⟩ := key hl
    have hn : ¬ ys.size = 1 := by
      intro e
      have := h2.length
      rw [Array.length_toList, e] at this
      match l, this with
      | [z], _ => exact hne z rfl
    refine ⟨.tuple ys, ?_, by simp only [VR]; exact ⟨ys.toList, rfl, h2⟩⟩
    rw [hres]
    simp [h1, Result.andThen, hn]
end
end Go.Proofs.Ytlajcmoiopaemaa
