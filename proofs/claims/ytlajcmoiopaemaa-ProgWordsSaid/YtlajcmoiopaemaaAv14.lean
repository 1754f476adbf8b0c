/- The evaluator is right: each of its steps. No program in sight. -/
import Derived.Test.YtlajcmoiopaemaaAv13
set_option linter.unusedVariables false
set_option linter.unusedSimpArgs false
noncomputable section
namespace Go.Proofs.Ytlajcmoiopaemaa
section
variable {T : Tab} {w : World} {G : Gh} {H H' : AH} {e : Ev}
theorem Rel.putObj (hR : Rel w G H) {id : Nat} (hl : (H.get id).live = true) (o : Obj) (ao : AObj) (hO : OR (w.putObj (G.blk id) o) G id ao) :
    Rel (w.putObj (G.blk id) o) G (H.set id ao) ∧ Ext w G H (w.putObj (G.blk id) o) G (H.set id ao) := by
  have hid : id < H.n := AH.lt_of_get (by intro e; rw [e] at hl; cases hl)
  refine hR.update id hl ao rfl rfl rfl (by simp) (fun b _ hb => World.putObj_heap_other hb) rfl (fun _ _ => ⟨rfl, rfl, rfl⟩) (Nat.le_refl _) (fun _ => ⟨rfl, rfl⟩) rfl (fun _ _ => rfl) (.inl rfl) ?_ hO
  rw [World.putObj_size]; exact hR.blt id hl
theorem loop_set (hR : Rel w G H) {id : Nat} {l : ALoop} (hg : H.get id = .loop l) (s : LoopState) (p : Option Code) :
    ∃ r : Loop, w.heap[G.blk id]? = some (.loop r) ∧ r.state = l.state ∧ r.pending = l.pending ∧
      Rel (w.putObj (G.blk id) (.loop { r with state := s, pending := p })) G (H.set id (.loop { l with state := s, pending := p })) ∧
      Ext w G H (w.putObj (G.blk id) (.loop { r with state := s, pending := p })) G (H.set id (.loop { l with state := s, pending := p })) := by
  have hid : id < H.n := AH.lt_of_get (by rw [hg]; simp)
  have hO := hR.obj id hid
  rw [hg] at hO
  obtain ⟨o1, o2, o3, ts, dd, fn, o4, o5, o6⟩ := hO
  refine ⟨_, o4, rfl, rfl, ?_⟩
  refine hR.putObj (by rw [hg]; rfl) _ _ ⟨o1, o2, o3, ts, dd, fn, ?_, o5, o6⟩
  exact World.putObj_heap_same (hR.blt id (by rw [hg]; rfl))
theorem CodeOk.wp {P : Program} {r : Option Nat} {c : Code} {a : AAct} {H1 : AH} {x : AExit} {a' : AAct} (h : CodeOk P r c a H1 x a' H') {w0 : World} {G0 : Gh} {H0 : AH} {ca : Act} {rr : Option Nat}
    (hE : Ext w0 G0 H0 w G H1) (hR : Rel w G H1) (hA : ARel G ca a) (hr : RR G rr r) : c.wpIn (FR rr) 0 P (Next' P w0 G0 H0 x a' H') ca w :=
  wpIn_mono (h w G ca rr hR hA hr) (fun ce ca' w' ⟨G', e1, r1, a1, x1⟩ => ⟨G', hE.trans e1, r1, a1, x1⟩)
theorem frame_rel {fn : Func} {args : List AV} {cargs : Array Value} (h : VRs G cargs.toList args) (hok : frameOk fn args = true) : ARel G { tmps := cargs ++ Array.replicate (fn.ntmps - cargs.size) undef, defers := [] } (frame fn args) := by
  refine ⟨?_, rfl⟩
  simp only [frameOk, Nat.ble_eq, lenR_eq] at hok
  simp only [frame, Array.toList_append, Array.toList_replicate]
  exact TRel.frame h hok
theorem leave_post {fn : Func} {r : AEnd} {w0 : World} {G0 : Gh} {H0 : AH} {x : AExit} {a' : AAct} {H1 : AH} (E : EvOk T e) (h : leaveF e fn (some (x, a', H1)) = some (r, H')) {ce : Exit} {ca' : Act} {w' : World}
    (hq : Next' T.P w0 G0 H0 x a' H1 ce ca' w') : bodyPostM Fence.wide 0 T.P fn (fun ce w' => ∃ G', Ext w0 G0 H0 w' G' H' ∧ Rel w' G' H' ∧ EndRel G' ce r) ce ca' w' := by
  obtain ⟨G', e1, r1, a1, x1⟩ := hq
  have fin : ∀ {m : AMode} {mode : FrameMode}, e.L fn a'.tmps a'.defers m H1 = some (r, H') → ModeRel G' mode m →
      LeavesInM Fence.wide 0 T.P fn ca'.tmps (fun ce w' => ∃ G', Ext w0 G0 H0 w' G' H' ∧ Rel w' G' H' ∧ EndRel G' ce r) ca'.defers mode w' := fun hl hm =>
    LeavesInM.mono (fun ce w'' ⟨G2, e2, r2, x2⟩ => ⟨G2, e1.trans e2, r2, x2⟩) (E.L _ _ _ _ _ _ _ hl w' G' ca'.tmps ca'.defers _ r1 a1.1 a1.2 hm)
  cases x <;> simp only [leaveF, reduceCtorEq] at h <;> cases ce <;> simp only [ExRel] at x1
  · exact fin h trivial
  · exact fin h trivial
  · exact fin h x1
theorem stepF_ok {C : CallF} (hC : ∀ f args H r H', C f args H = some (r, H') → CallOk T.P f args H r H') (E : EvOk T e) : ∀ f args H r H', stepF T C e f args H = some (r, H') → CallOk T.P f args H r H' := by
  intro f args H r H' h
  unfold stepF at h
  split at h
  · rename_i x hx
    simp only [Option.some.injEq] at h
    subst h
    exact hC _ _ _ _ _ hx
  · unfold bodyF at h
    split at h <;> try (cases h; done)
    rename_i fn hfn
    unfold enterF at h
    split at h <;> try (cases h; done)
    rename_i c hc
    split at h <;> try (cases h; done)
    rename_i hfo
    intro w G cargs hR hv
    cases hx : e.C none c (frame fn args) H with
    | none => rw [hx] at h; simp [leaveF] at h
    | some y =>
      obtain ⟨x, a', H1⟩ := y
      rw [hx] at h
      have hw := (E.C _ _ _ _ _ _ _ hx).wp (rr := none) (.refl w G H) hR (frame_rel (fn := fn) hv hfo) (by trivial)
      refine (callsIn_wide (n := 0)).1 (callsIn_of_wp_marks (T.fnOk f fn hfn).1 hc trivial (wpIn_mono hw (fun ce ca' w' hq => leave_post E h hq)))
theorem stepL_ok (E : EvOk T e) : ∀ fn tmps ds m H r H', stepL T e fn tmps ds m H = some (r, H') → LeaveOk T.P fn tmps ds m H r H' := by
  intro fn tmps ds m H r H' h w G ct cds mode hR hv hd hm
  have hrun : mode ≠ .run := by rintro rfl; cases m <;> simp [ModeRel] at hm
  unfold stepL at h
  split at h
  · simp only [DRs] at hd
    subst hd
    unfold endL at h
    split at h
    · split at h <;> simp only [Option.some.injEq, Prod.mk.injEq, reduceCtorEq] at h
      rename_i u hu
      obtain ⟨rfl, rfl⟩ := h
      cases mode <;> simp only [ModeRel] at hm
      obtain ⟨v, h1, h2⟩ := aResults_sound hR hv hu
      exact ⟨v, h1, G, .refl _ _ _, hR, h2⟩
    · simp only [Option.some.injEq, Prod.mk.injEq] at h
      obtain ⟨rfl, rfl⟩ := h
      cases mode <;> simp only [ModeRel] at hm
      obtain ⟨x, rfl, hx⟩ := hm
      exact ⟨G, .refl _ _ _, hR, x, rfl, hx⟩
    · cases h
  · rename_i id ds
    split at h <;> try (cases h; done)
    rename_i hg
    obtain ⟨d, cds', rfl, h1, h2⟩ := hd
    obtain ⟨d1, d2, d3⟩ := h1
    have hid : id < H.n := AH.lt_of_get (by rw [hg]; simp)
    have hO := hR.obj id hid
    rw [hg] at hO
    obtain ⟨o1, cs, o2, o3⟩ := hO
    simp only [DRs] at o3
    subst o3
    obtain rfl := d3 o1
    obtain ⟨r1, e1⟩ := hR.putObj (id := id) (by rw [hg]; rfl) (.deferred none) .dead trivial
    refine ⟨hrun, .inl ⟨_, _, rfl, run_takeDeferred o2, ?_⟩⟩
    exact LeavesInM.mono (fun ce w'' ⟨G2, e2, r2, x2⟩ => ⟨G2, e1.trans e2, r2, x2⟩) (E.L _ _ _ _ _ _ _ h _ G ct _ mode r1 hv h2 hm)
  · rename_i g caps args ds
    split at h <;> try (cases h; done)
    rename_i m' H1 hD
    obtain ⟨d, cds', rfl, h1, h2⟩ := hd
    obtain ⟨p, q, rfl, h3, h4⟩ := h1
    obtain ⟨hok, hD⟩ := E.D _ _ _ _ _ _ hD
    refine ⟨hrun, .inr ⟨fun h => (by cases h), .func g, ⟨p⟩, g, (⟨q⟩ : Array Value) ++ ⟨p⟩, rfl, ?_, fun _ _ => trivial, ?_⟩⟩
    · simp only [invoke]; exact run_callFunc hok _ _
    · have hD' := hD w G ((⟨q⟩ : Array Value) ++ ⟨p⟩) mode hR (by rw [Array.toList_append]; exact h4.append h3) hm
      refine CallsDIn.mono (n := 0) hD' ?_
      rintro ce u' w' ⟨G1, e1, r1, m1, v, rfl⟩
      exact LeavesInM.mono (fun ce w'' ⟨G2, e2, r2, x2⟩ => ⟨G2, e1.trans e2, r2, x2⟩) (E.L _ _ _ _ _ _ _ h w' G1 ct cds' _ r1 (hv.mono e1.le) (h2.mono e1.le) m1.settle)
  · cases h
theorem evOpsS_sound {ops : Array Oper} {c₀ : Frame} {cs : List Frame} {Q : Exit → Act → List Frame → World → Prop} {a' : AAct} {m' : AMode} {w0 : World} {G0 : Gh} {H0 : AH}
    (hQ : ∀ (ca' : Act) (u' : FrameMode) (w' : World) (G' : Gh), Ext w0 G0 H0 w' G' H' → Rel w' G' H' → ARel G' ca' a' → ModeRel G' u' m' → Q .normal ca' ({ c₀ with mode := u' } :: cs) w') :
    ∀ (l : List Oper) (i : Nat), l = ops.toList.drop i → ∀ (a : AAct) (m : AMode) (H : AH), evOpsS T ops l a m H = some (.normal, a', m', H') →
      ∀ (w : World) (G : Gh) (ca : Act) (u : FrameMode), Ext w0 G0 H0 w G H → Rel w G H → ARel G ca a → ModeRel G u m → wpOpsSIn Fence.wide 0 T.P ops Q (List.range' i (ops.size - i)) ca ({ c₀ with mode := u } :: cs) w := by
  intro l
  induction l with
  | nil =>
    intro i hl a m H h w G ca u hE hR hA hm
    simp only [evOpsS, Option.some.injEq, Prod.mk.injEq, true_and] at h
    obtain ⟨rfl, rfl, rfl⟩ := h
    have : ops.size - i = 0 := by
      have := congrArg List.length hl
      simp at this; omega
    rw [this]
    exact hQ _ _ _ _ hE hR hA hm
  | cons o rest ih =>
    intro i hl a m H h w G ca u hE hR hA hm
    have hi : i < ops.size := by
      have := congrArg List.length hl
      simp at this; omega
    have hoi : ops[i]? = some o := by
      have : (ops.toList.drop i)[0]? = some o := by rw [← hl]; rfl
      rw [List.getElem?_drop] at this
      simpa using this
    have hrest : rest = ops.toList.drop (i + 1) := by
      have : (ops.toList.drop i).drop 1 = rest := by rw [← hl]; rfl
      rw [← this, List.drop_drop]
    have hrg : List.range' i (ops.size - i) = i :: List.range' (i + 1) (ops.size - (i + 1)) := by
      rw [show ops.size - i = (ops.size - (i + 1)) + 1 by omega, List.range'_succ]
    rw [hrg]
    simp only [wpOpsSIn, hoi]
    refine ⟨fun _ _ => trivial, ?_⟩
    have ih := ih (i + 1) hrest
    simp only [evOpsS] at h
    split at h <;> try (cases h; done)
    · rename_i hw
      rw [awant_sound hA hw, if_pos rfl]
      split at h <;> try (cases h; done)
      · rename_i u1 H1 hop
        obtain ⟨w1, G1, e1, r1, y, hy, hv⟩ := aop_sound (T := T) hR hA.eval hop
        rw [hy]
        exact ih _ _ _ h _ _ _ _ (hE.trans e1) r1 ((hA.mono e1.le).put _ hv) (hm.mono e1.le)
      · rename_i H1 hop
        obtain ⟨w1, G1, e1, r1, hy⟩ := aop_sound (T := T) hR hA.eval hop
        rw [hy]
        exact ih _ _ _ h _ _ _ _ (hE.trans e1) r1 ((hA.mono e1.le).put _ (by simp [VR])) (hm.mono e1.le)
      · rename_i H1 hop
        obtain ⟨w1, G1, e1, r1, hy⟩ := aop_sound (T := T) hR hA.eval hop
        simp only at hy
        rw [hy]
        simp only
        split at h
        · rename_i pu
          cases u <;> simp only [ModeRel] at hm
          obtain ⟨x, rfl, hx⟩ := hm
          simp only [recoverD]
          exact ih _ _ _ h _ _ _ _ (hE.trans e1) r1 ((hA.mono e1.le).put _ (VR.mono e1.le _ _ hx)) ⟨x, rfl⟩
        · rename_i hne
          have hrec : recoverD ({ c₀ with mode := u } :: cs) = none := by
            cases m with
            | panicking pu => exact absurd rfl (hne pu)
            | returning => cases u <;> simp only [ModeRel] at hm; rfl
            | recovered =>
              cases u <;> simp only [ModeRel] at hm
              obtain ⟨x, rfl⟩ := hm
              rfl
          rw [hrec]
          exact ih _ _ _ h _ _ _ _ (hE.trans e1) r1 ((hA.mono e1.le).put _ (by simp [VR])) (hm.mono e1.le)
    · rename_i hw
      rw [awant_sound hA hw]
      simp only [Bool.false_eq_true, if_false]
      exact ih _ _ _ h _ _ _ _ hE hR (hA.put _ (by simp [VR])) hm
theorem callOk_of {g : FuncId} {fn : Func} (h : T.fn.get g = some fn) (hb : fn.body.isSome = true) : callOk T g = true := by
  unfold callOk
  rw [h]
  exact hb
theorem stepD_ok (E : EvOk T e) : ∀ g args m H m' H', stepD T e g args m H = some (m', H') → DefOk T g args m H m' H' := by
  intro g args m H m' H' h
  unfold stepD at h
  split at h <;> try (cases h; done)
  rename_i fn hfn
  unfold bodyD at h
  split at h <;> try (cases h; done)
  rename_i bd id ops rest hbody
  split at h <;> try (cases h; done)
  rename_i a1 m1 H1 hfo hev
  refine ⟨callOk_of hfn (by rw [hbody]; rfl), fun w G cargs mode hR hv hm => ?_⟩
  refine callsDIn_of_wpSIn (T.fnOk g fn hfn).1 hbody trivial (fun c₀ cs hmode => wpSIn_seq (wpSIn_region ?_))
  have hfr : (c₀ :: cs) = ({ c₀ with mode := mode } :: cs) := by subst hmode; rfl
  rw [hfr, List.range_eq_range', show ops.size = ops.size - 0 from rfl]
  refine evOpsS_sound (w0 := w) (G0 := G) (H0 := H) ?_ ops.toList 0 (by simp) _ _ _ hev _ _ _ _ (.refl _ _ _) hR (frame_rel hv hfo) hm
  intro ca' u' w' G' e1 r1 A1 M1
  cases hx : e.C none rest a1 H1 with
  | none => rw [hx] at h; simp [endD] at h
  | some y =>
    obtain ⟨x, a2, H2⟩ := y
    rw [hx] at h
    refine wpSIn_of_wpIn rfl (wpIn_mono (E.C _ _ _ _ _ _ _ hx w' G' ca' none r1 A1 (by trivial)) (fun ce ca2 w2 hq => ?_))
    obtain ⟨G2, e2, r2, A2, x2⟩ := hq
    have fin : (match a2.defers, aResults T fn a2.tmps H2 with | [], some _ => some (m1, H2) | _, _ => none) = some (m', H') →
        ca2.defers = [] ∧ ∃ u'', ({ c₀ with mode := u' } :: cs) = { c₀ with mode := u'' } :: cs ∧ ∃ v, (results fn ca2.tmps).run T.P w2 = .ok v w2 ∧
          ∃ G', Ext w G H w2 G' H' ∧ Rel w2 G' H' ∧ ModeRel G' u'' m' ∧ ∃ v', Ending.returned v = .returned v' := by
      intro h
      split at h <;> try (cases h; done)
      rename_i u hd hres
      simp only [Option.some.injEq, Prod.mk.injEq] at h
      obtain ⟨rfl, rfl⟩ := h
      obtain ⟨v, v1, v2⟩ := aResults_sound r2 A2.1 hres
      have hds := A2.2
      rw [hd] at hds
      exact ⟨hds, u', rfl, v, v1, G2, e1.trans e2, r2, M1.mono e2.le, v, rfl⟩
    cases x <;> simp only [endD, reduceCtorEq] at h <;> cases ce <;> simp only [ExRel] at x2
    · exact fin h
    · exact fin h
end
end Go.Proofs.Ytlajcmoiopaemaa
