/- The evaluator is right: code, ranges over functions, rounds; and all of it. No program in sight. -/
import Derived.Test.YtlajcmoiopaemaaAv14
import Derived.Test.YtlajcmoiopaemaaAv14m
import Derived.Scope
set_option linter.unusedVariables false
set_option linter.unusedSimpArgs false
noncomputable section
namespace Go.Proofs.Ytlajcmoiopaemaa
section
variable {T : Tab} {w : World} {G : Gh} {H H' : AH} {e : Ev}
def DrawOk (T : Tab) (dr : DrawF) : Prop := ∀ cf yf, (∀ f args H e H', cf f args H = some (e, H') → CallOk T.P f args H e H') → (∀ id args H e H', yf id args H = some (e, H') → RoundOk T.P id args H e H') →
  ∀ r id ops a H x a' H', dr cf yf r ops a H = some (x, a', H') → CodeOk T.P r (.region id ops true) a H x a' H'
theorem evDraw_ok (hm : T.P.follows .mixedOrders = true) : DrawOk T (evDraw T) := by
  intro cf yf hcf hyf r id ops a H x a' H' h w G ca rr hR hA hr
  refine wpIn_region_any hm ?_
  exact evDraw_sound hcf hyf h (Ext.heap_eq G H rfl rfl rfl rfl) (hR.heap_eq rfl) hA hr
theorem region_ok {cf : CallF} {yf : YldF} (hcf : ∀ f args H e H', cf f args H = some (e, H') → CallOk T.P f args H e H') (hyf : ∀ id args H e H', yf id args H = some (e, H') → RoundOk T.P id args H e H')
    {r : Option Nat} {id : Nat} {ops : Array Oper} {a : AAct} {H : AH} {x : AExit} {a' : AAct} {H' : AH} (h : evOps T cf yf r ops ops.toList a H = some (x, a', H')) : CodeOk T.P r (.region id ops false) a H x a' H' := by
  intro w G ca rr hR hA hr
  refine wpIn_region ?_
  rw [List.range_eq_range', show ops.size = ops.size - 0 from rfl]
  exact evOps_sound hcf hyf ops.toList 0 (by simp) a H x a' H' h w w G G H ca rr (.refl _ _ _) hR hA hr
theorem rangeEnd_ok (E : EvOk T e) {r : Option Nat} {a : AAct} {l : Nat} {z : AEnd} {H2 : AH} {x : AExit} {a' : AAct} (h : rangeEnd e r a l (some (z, H2)) = some (x, a', H'))
    {w0 : World} {G0 : Gh} {H0 : AH} {rr : Option Nat} {b : Nat} {ca : Act} {G1 : Gh} (hl1 : l < G1.n) (hb : G1.gen l = 1 ∧ b = G1.blk l) (hA : ARel G1 ca a) (hr : RR G1 rr r)
    {ce : Ending} {w2 : World} {G2 : Gh} (hE : Ext w0 G0 H0 w2 G2 H2) (hle : G1.le G2) (hR : Rel w2 G2 H2) (hx : EndRel G2 ce z) : rangePost (FR rr) 0 T.P b (Next' T.P w0 G0 H0 x a' H') ca ce w2 := by
  unfold rangeEnd at h
  split at h
  · rename_i heq
    simp only [Option.some.injEq, Prod.mk.injEq] at heq
    obtain ⟨rfl, rfl⟩ := heq
    cases ce <;> simp only [EndRel] at hx
    split at h <;> try (cases h; done)
    rename_i lp hg
    have hid : l < H2.n := AH.lt_of_get (by rw [hg]; simp)
    have hgen : G2.gen l = 1 := by
      have hO := hR.obj l hid
      rw [hg] at hO
      exact hO.1
    have hblk : b = G2.blk l := by
      rw [hb.2, (hle.same l hl1 (by omega)).1]
    subst hblk
    obtain ⟨rec, h1, h2, h3, r3, e3⟩ := loop_set hR hg .exhausted lp.pending
    have hpend : ({ rec with state := .exhausted, pending := lp.pending } : Loop) = { rec with state := .exhausted } := by rw [← h3]
    have hlp : ({ lp with state := .exhausted, pending := lp.pending } : ALoop) = { lp with state := .exhausted } := rfl
    rw [hpend] at r3 e3
    split at h <;> try (cases h; done)
    rename_i hbusy
    have hend := run_endLoop (P := T.P) h1 (by rw [h2]; exact hbusy)
    split at h
    · rename_i hp
      simp only [Option.some.injEq, Prod.mk.injEq] at h
      obtain ⟨rfl, rfl, rfl⟩ := h
      have hpe : rec.pending = none := h3.trans hp
      have hend' : (Instr.endLoop (G2.blk l)).run T.P w2 = .ok none (w2.putObj (G2.blk l) (.loop { rec with state := .exhausted })) := by rw [hend, hpe]
      exact ⟨none, _, hend', G2, hE.trans e3, r3, hA.mono hle, trivial⟩
    · rename_i c' hp
      have hpe : rec.pending = some c' := h3.trans hp
      have hend' : (Instr.endLoop (G2.blk l)).run T.P w2 = .ok (some c') (w2.putObj (G2.blk l) (.loop { rec with state := .exhausted })) := by rw [hend, hpe]
      exact ⟨some c', _, hend', (E.C _ _ _ _ _ _ _ h).wp (hE.trans e3) r3 (hA.mono hle) (hr.mono hle)⟩
  · rename_i u H3 heq
    simp only [Option.some.injEq, Prod.mk.injEq] at heq
    obtain ⟨rfl, rfl⟩ := heq
    simp only [Option.some.injEq, Prod.mk.injEq] at h
    obtain ⟨rfl, rfl, rfl⟩ := h
    cases ce <;> simp only [EndRel] at hx
    exact ⟨G2, hE, hR, hA.mono hle, hx⟩
  · rename_i heq
    cases heq
theorem rangeGo_ok (E : EvOk T e) {r : Option Nat} {f : Operand} {ps : Array Tmp} {asg body : Code} {a : AAct} {d : Nat} {mark : List ADef} {H1 : AH} {x : AExit} {a' : AAct}
    (h : rangeGo T e r ps asg body a d mark H1 (a.eval f).norm = some (x, a', H')) {w0 : World} {G0 : Gh} {H0 : AH} {ca : Act} {rr : Option Nat} {w1 : World} {G1 : Gh} {cmark : List Deferred} {dd : Nat}
    (hE : Ext w0 G0 H0 w1 G1 H1) (hR : Rel w1 G1 H1) (hA : ARel G1 ca a) (hr : RR G1 rr r) (hm : DRs G1 cmark mark) (hd : d < G1.n ∧ 1 ≤ G1.gen d ∧ (G1.gen d = 1 → dd = G1.blk d)) (fn : FuncId)
    (henter : (Instr.enterLoop fn ca.tmps ps asg body rr).run T.P w0 = .ok (w1.heap.size, cmark) (w1.alloc (.loop { state := .ready, pending := none, fn, tmps := ca.tmps, params := ps, assign := asg, body, defers := dd }))) :
    ∃ (l : Nat) (mark : List Deferred) (w₁ : World) (d : Deferred) (w₁' : World) (f' : FuncId) (args : Array Value) (w₂ : World),
      (Instr.enterLoop fn ca.tmps ps asg body (FR rr).round).run T.P w0 = .ok (l, mark) w₁ ∧
      (resolve ca.eval (rangeCall f l) 0).run T.P w₁ = .ok d w₁' ∧
      (∀ f', Target.leads T.P w₁' d.target d.args = some f' → (FR rr).fn f') ∧
      (invoke d.target d.args).run T.P w₁' = .ok (.enter f' args) w₂ ∧
      ((FR rr).depth.isSome = true → 1 ≤ 0) ∧
      CallsIn (FR rr) (0 - 1) T.P f' args w₂ (rangePost (FR rr) 0 T.P l (Next' T.P w0 G0 H0 x a' H') { ca with defers := mark ++ ca.defers }) := by
  unfold rangeGo at h
  split at h <;> try (cases h; done)
  rename_i g first caps hn
  split at h <;> try (cases h; done)
  rename_i hok
  have hf := (hA.eval f).norm
  rw [hn] at hf
  simp only [VR] at hf
  obtain ⟨p, q, hfe, h2, h3⟩ := hf
  have hpush := hR.push (.loop { state := .ready, pending := none, fn, tmps := ca.tmps, params := ps, assign := asg, body, defers := dd }) 0 (.loop { state := .ready, pending := none, tmps := a.tmps, params := ps, assign := asg, body := body, defers := d })
    (w' := w1.alloc (.loop { state := .ready, pending := none, fn, tmps := ca.tmps, params := ps, assign := asg, body, defers := dd })) rfl rfl rfl rfl (by
      have hle := Gh.le_new hR 0
      have hgd := hle.gen d hd.1
      refine ⟨by simp [Gh.new, hR.n], Nat.lt_of_lt_of_le hd.1 hle.n, Nat.le_trans hd.2.1 hgd, ca.tmps.toList, dd, fn, ?_, hA.1.mono hle, fun e => ?_⟩
      rotate_left
      · have e' : (G1.new w1.heap.size 0).gen d = 1 := e
        have := hd.2.1
        rw [(hle.same d hd.1 (by omega)).1]
        exact hd.2.2 (by omega)
      · have : (G1.new w1.heap.size 0).blk H1.n = w1.heap.size := by simp [Gh.new, hR.n]
        rw [this]
        exact World.alloc_heap_new _ _)
  obtain ⟨r2, e2⟩ := hpush
  obtain ⟨W, hW⟩ : ∃ W : World, W = w1.alloc (.loop { state := .ready, pending := none, fn, tmps := ca.tmps, params := ps, assign := asg, body, defers := dd }) := ⟨_, rfl⟩
  rw [← hW] at henter r2 e2
  cases hF : e.F g (first ++ [.yld H1.n] ++ caps) (H1.push (.loop { state := .ready, pending := none, tmps := a.tmps, params := ps, assign := asg, body := body, defers := d })) with
  | none => rw [hF] at h; simp [rangeEnd] at h
  | some y =>
    obtain ⟨z, H2⟩ := y
    rw [hF] at h
    refine ⟨w1.heap.size, cmark, W, ⟨.fn (.func g) ⟨q⟩, (⟨p⟩ : Array Value) ++ #[.func (.yield w1.heap.size) #[] #[]]⟩, W, g, ((⟨p⟩ : Array Value) ++ #[.func (.yield w1.heap.size) #[] #[]]) ++ ⟨q⟩, W, henter, ?_, fun _ _ => trivial, ?_, fun h => (by cases h), ?_⟩
    · have hc : ca.eval (.const (.func (.yield w1.heap.size) #[] #[])) = .func (.yield w1.heap.size) #[] #[] := rfl
      simp [resolve, rangeCall, hfe, Deferred.ofValue, hc]
    · simp only [invoke]; exact run_callFunc hok _ _
    · have hbn : (G1.new w1.heap.size 0).blk H1.n = w1.heap.size := by simp [Gh.new, hR.n]
      have hgn : (G1.new w1.heap.size 0).gen H1.n = 1 := by simp [Gh.new, hR.n]
      have hnn : H1.n < (G1.new w1.heap.size 0).n := by simp [Gh.new, hR.n]
      have hcall := E.F _ _ _ _ _ hF _ _ (((⟨p⟩ : Array Value) ++ #[.func (.yield w1.heap.size) #[] #[]]) ++ ⟨q⟩) r2 (by
        simp only [Array.toList_append]
        refine ((VRs.mono e2.le _ _ h2).append ?_).append (VRs.mono e2.le _ _ h3)
        simp only [VRs]
        refine ⟨_, [], rfl, ?_, rfl⟩
        simp only [VR]
        exact ⟨hnn, by omega, _, rfl, fun _ => hbn.symm⟩)
      refine callsIn_FR (rr := rr) (Calls.mono hcall ?_)
      rintro ce w3 ⟨G3, e3, r3, x3⟩
      refine rangeEnd_ok E h hnn ⟨hgn, hbn.symm⟩ ?_ (hr.mono e2.le) ((hE.trans e2).trans e3) e3.le r3 x3
      refine ⟨hA.1.mono e2.le, ?_⟩
      have key : ∀ {m : List ADef} {cm : List Deferred}, DRs G1 cm m → DRs (G1.new w1.heap.size 0) (cm ++ ca.defers) (m ++ a.defers) := by
        intro m
        induction m with
        | nil => intro cm h; simp only [DRs] at h; subst h; exact hA.2.mono e2.le
        | cons y m ih =>
          rintro cm ⟨dd', rest, rfl, k1, k2⟩
          exact ⟨dd', rest ++ ca.defers, rfl, k1.mono e2.le, ih k2⟩
      exact key hm
theorem rangeC_ok (E : EvOk T e) {r : Option Nat} {f : Operand} {ps : Array Tmp} {asg body : Code} {a : AAct} {x : AExit} {a' : AAct} (h : rangeC T e r f ps asg body a H = some (x, a', H')) : CodeOk T.P r (.rangeFunc f ps asg body) a H x a' H' := by
  intro w G ca rr hR hA hr
  unfold rangeC at h
  cases r with
  | none =>
    simp only at h
    cases rr with
    | some b => simp only [RR] at hr
    | none =>
      refine wpIn_rangeFunc (fun fn _ => ?_)
      obtain ⟨r1, e1⟩ := hR.push (.deferred (some [])) 0 (.deferred []) (w' := w.alloc (.deferred (some []))) rfl rfl rfl rfl (by
        refine ⟨by simp [Gh.new, hR.n], [], ?_, rfl⟩
        have : (G.new w.heap.size 0).blk H.n = w.heap.size := by simp [Gh.new, hR.n]
        rw [this]
        exact World.alloc_heap_new _ _)
      have hbn : (G.new w.heap.size 0).blk H.n = w.heap.size := by simp [Gh.new, hR.n]
      have hgn : (G.new w.heap.size 0).gen H.n = 1 := by simp [Gh.new, hR.n]
      have hnn : H.n < (G.new w.heap.size 0).n := by simp [Gh.new, hR.n]
      refine rangeGo_ok E (w1 := w.alloc (.deferred (some []))) (cmark := [{ target := .collected w.heap.size, args := #[] }]) (dd := w.heap.size) h e1 r1 (hA.mono e1.le) (hr.mono e1.le) ?_ ⟨hnn, by omega, fun _ => hbn.symm⟩ fn ?_
      · exact ⟨_, [], rfl, ⟨hnn, by omega, fun _ => by rw [hbn]⟩, rfl⟩
      · rw [run_enterLoop_outer, alloc_sz]
  | some l0 =>
    simp only at h
    split at h <;> try (cases h; done)
    rename_i lp hg
    cases rr with
    | none => simp only [RR] at hr
    | some b =>
      have hid : l0 < H.n := AH.lt_of_get (by rw [hg]; simp)
      have hO := hR.obj l0 hid
      rw [hg] at hO
      obtain ⟨o1, o2, o3, ts, dd, fn0, o4, o5, o6⟩ := hO
      have hb : b = G.blk l0 := hr.2.2 o1
      refine wpIn_rangeFunc (fun fn _ => ?_)
      refine rangeGo_ok E (w1 := w) (cmark := []) (dd := dd) h (.refl _ _ _) hR hA hr (by simp [DRs]) ⟨o2, o3, o6⟩ fn ?_
      rw [hb]
      exact run_enterLoop_inner o4 _ _ _ _ _
theorem loopC_ok (E : EvOk T e) {r : Option Nat} {c : Code} {a : AAct} {x : AExit} {a' : AAct} (h : loopC e r c (e.C r c a H) = some (x, a', H')) : LoopOk T.P r c a H x a' H' := by
  cases hx : e.C r c a H with
  | none => rw [hx] at h; simp [loopC] at h
  | some y =>
    obtain ⟨x1, a1, H1⟩ := y
    rw [hx] at h
    have hC := E.C _ _ _ _ _ _ _ hx
    have other : x1 ≠ .normal → (x1, a1, H1) = (x, a', H') → LoopOk T.P r c a H x a' H' := by
      intro hne he
      simp only [Prod.mk.injEq] at he
      obtain ⟨rfl, rfl, rfl⟩ := he
      refine ⟨1, fun w G ca rr hR hA hr => ?_⟩
      refine wpIn_mono (hC.wp (.refl w G H) hR hA hr) (fun ce ca' w' hq => ?_)
      cases ce with
      | normal =>
        obtain ⟨G', _, _, _, hx⟩ := hq
        cases x1 <;> simp only [ExRel] at hx
        exact absurd rfl hne
      | _ => exact hq
    cases x1 with
    | normal =>
      simp only [loopC] at h
      obtain ⟨k, hk⟩ := E.W _ _ _ _ _ _ _ h
      refine ⟨k + 1, fun w G ca rr hR hA hr => ?_⟩
      refine wpIn_mono (hC.wp (.refl w G H) hR hA hr) (fun ce ca' w' hq => ?_)
      obtain ⟨G', e1, r1, A1, hx⟩ := hq
      cases ce <;> simp only [ExRel] at hx
      exact roundsIn_mono (fun ce ca2 w2 ⟨G2, e2, r2, A2, x2⟩ => ⟨G2, e1.trans e2, r2, A2, x2⟩) (hk w' G' ca' rr r1 A1 (hr.mono e1.le))
    | exit _ => simp only [loopC, Option.some.injEq] at h; exact other (by simp) h
    | goto _ => simp only [loopC, Option.some.injEq] at h; exact other (by simp) h
    | ret => simp only [loopC, Option.some.injEq] at h; exact other (by simp) h
    | panic _ => simp only [loopC, Option.some.injEq] at h; exact other (by simp) h
theorem loopM_ok (E : EvOk T e) {r : Option Nat} {c : Code} {a : AAct} {x : AExit} {a' : AAct} (h : loopM T e r c a H (mapSh c) = some (x, a', H')) : LoopOk T.P r c a H x a' H' := by
  unfold loopM at h
  split at h
  · rename_i sh hsh
    unfold loopGo at h
    split at h
    · rename_i st hst
      exact mapLoop_ok E (mapSh_spec hsh) (mapSt_spec hst) h
    · exact loopC_ok E h
  · exact loopC_ok E h
theorem LoopOk.code {r : Option Nat} {c : Code} {a : AAct} {x : AExit} {a' : AAct} (h : LoopOk T.P r c a H x a' H') : CodeOk T.P r (.loop c) a H x a' H' := by
  obtain ⟨k, hk⟩ := h
  intro w G ca rr hR hA hr
  exact wpIn_loop_rounds k (hk w G ca rr hR hA hr)
theorem stepR_scope {P : Program} {b : Frame} {a : Act} {k : List Item} {cs : List Frame} {w : World} {c : Code} :
    step P (lone (b.atR a (.code (.scope c) :: k)) cs w) = .next (lone (b.atR a (.code c :: .inScope c :: k)) cs w) :=
  step_lone_go (by simp [stepG, stepG.exec, Frame.atR])
theorem stepR_inScope {P : Program} {b : Frame} {a : Act} {k : List Item} {cs : List Frame} {w : World} {c : Code} : step P (lone (b.atR a (.inScope c :: k)) cs w) = .next (lone (b.atR a k) cs w) :=
  step_lone_go (by simp [stepG, stepG.exec, Frame.atR])
theorem wpIn_scope_straight {F : Fence} {n : Nat} {P : Program} {Q : Exit → Act → World → Prop} {a : Act} {w : World} {c : Code} (h : c.wpIn F n P (Exit.noGoto Q) a w) : (Code.scope c).wpIn F n P Q a w := by
  intro b k cs hro hb hr
  have h0 : (lone (b.atR a (.code (.scope c) :: k)) cs w).fenced P F := fenced_calm hb hr rfl
  obtain ⟨e, a₁, w₁, hq, harr⟩ := h b (.inScope c :: k) cs hro hb hr
  cases e with
  | normal => exact ⟨.normal, a₁, w₁, hq, .head h0 stepR_scope (StepsIn.trans harr (.one (fenced_calm hb hr rfl) stepR_inScope))⟩
  | exit id' =>
    have hx : exitTo id' (.inScope c :: k) = exitTo id' k := by simp [exitTo]
    exact ⟨.exit id', a₁, w₁, hq, fun k' hk => .head h0 stepR_scope (harr.1 k' (by rw [hx]; exact hk)),
      fun hr' hk => let ⟨k₁, h1, h2⟩ := harr.2 hr' (by rw [hx]; exact hk); ⟨k₁, h1, .head h0 stepR_scope h2⟩⟩
  | goto l => exact hq.elim
  | ret => exact ⟨_, a₁, w₁, hq, .of_steps (.one h0 stepR_scope) harr⟩
  | panic ch => exact ⟨_, a₁, w₁, hq, .of_steps (.one h0 stepR_scope) harr⟩
  | outgrown => exact ⟨_, a₁, w₁, hq, .of_steps (.one h0 stepR_scope) harr⟩
theorem stepC_ok {dr : DrawF} (hdr : DrawOk T dr) (E : EvOk T e) : ∀ r c a H x a' H', stepC T dr e r c a H = some (x, a', H') → CodeOk T.P r c a H x a' H' := by
  intro r c a H x a' H' h
  have here : ∀ {w : World} {G : Gh} {ca : Act} {ce : Exit}, Rel w G H → ARel G ca a → ∀ {ax : AExit}, ExRel G ce ax → Next' T.P w G H ax a H ce ca w := fun hR hA _ hx => ⟨_, .refl _ _ _, hR, hA, hx⟩
  unfold stepC at h
  split at h
  · simp only [Option.some.injEq, Prod.mk.injEq] at h
    obtain ⟨rfl, rfl, rfl⟩ := h
    exact fun w G ca rr hR hA hr => wpIn_skip (here hR hA trivial)
  · simp only [Option.some.injEq, Prod.mk.injEq] at h
    obtain ⟨rfl, rfl, rfl⟩ := h
    exact fun w G ca rr hR hA hr => wpIn_label (here hR hA trivial)
  · simp only [Option.some.injEq, Prod.mk.injEq] at h
    obtain ⟨rfl, rfl, rfl⟩ := h
    exact fun w G ca rr hR hA hr => wpIn_exit (here hR hA rfl)
  · simp only [Option.some.injEq, Prod.mk.injEq] at h
    obtain ⟨rfl, rfl, rfl⟩ := h
    exact fun w G ca rr hR hA hr => wpIn_goto (here hR hA rfl)
  · simp only [Option.some.injEq, Prod.mk.injEq] at h
    obtain ⟨rfl, rfl, rfl⟩ := h
    exact fun w G ca rr hR hA hr => wpIn_ret (here hR hA trivial)
  · cases h
  · rename_i c1
    cases hx : e.C r c1 a H with
    | none => rw [hx] at h; simp [scopeC] at h
    | some y =>
      obtain ⟨x1, a1, H1⟩ := y
      rw [hx] at h
      intro w G ca rr hR hA hr
      refine wpIn_scope_straight (wpIn_mono ((E.C _ _ _ _ _ _ _ hx).wp (.refl w G H) hR hA hr) (fun ce ca' w' hq => ?_))
      obtain ⟨G', e1, r1, A1, hx1⟩ := hq
      cases x1 <;> simp only [scopeC, Option.some.injEq, Prod.mk.injEq, reduceCtorEq] at h <;> obtain ⟨rfl, rfl, rfl⟩ := h <;> cases ce <;> simp only [ExRel] at hx1 <;> exact ⟨G', e1, r1, A1, hx1⟩
  · rename_i c1 c2
    cases hx : e.C r c1 a H with
    | none => rw [hx] at h; simp [thenC] at h
    | some y =>
      obtain ⟨x1, a1, H1⟩ := y
      rw [hx] at h
      intro w G ca rr hR hA hr
      refine wpIn_seq (wpIn_mono ((E.C _ _ _ _ _ _ _ hx).wp (.refl w G H) hR hA hr) (fun ce ca' w' hq => ?_))
      obtain ⟨G', e1, r1, A1, hx1⟩ := hq
      cases x1 with
      | normal =>
        simp only [thenC] at h
        cases ce <;> simp only [ExRel] at hx1
        exact (E.C _ _ _ _ _ _ _ h).wp e1 r1 A1 (hr.mono e1.le)
      | _ =>
        simp only [thenC, Option.some.injEq, Prod.mk.injEq] at h
        obtain ⟨rfl, rfl, rfl⟩ := h
        cases ce <;> simp only [ExRel] at hx1 <;> exact ⟨G', e1, r1, A1, hx1⟩
  · rename_i t c1 c2
    intro w G ca rr hR hA hr
    have hv := hA.eval t
    cases hb : a.eval t with
    | v b =>
      rw [hb] at h hv
      simp only [VR] at hv
      cases b with
      | bool b =>
        cases b with
        | true => simp only [condC] at h; exact wpIn_cond_true hv ((E.C _ _ _ _ _ _ _ h).wp (.refl _ _ _) hR hA hr)
        | false => simp only [condC] at h; exact wpIn_cond_false hv ((E.C _ _ _ _ _ _ _ h).wp (.refl _ _ _) hR hA hr)
      | _ => simp [condC] at h
    | _ => rw [hb] at h; simp [condC] at h
  · rename_i id c1
    cases hx : e.C r c1 a H with
    | none => rw [hx] at h; simp [blockC] at h
    | some y =>
      obtain ⟨x1, a1, H1⟩ := y
      rw [hx] at h
      intro w G ca rr hR hA hr
      refine wpIn_block (wpIn_mono ((E.C _ _ _ _ _ _ _ hx).wp (.refl w G H) hR hA hr) (fun ce ca' w' hq => ?_))
      obtain ⟨G', e1, r1, A1, hx1⟩ := hq
      cases x1 with
      | exit j =>
        simp only [blockC] at h
        cases ce <;> simp only [ExRel] at hx1
        subst hx1
        simp only [Exit.inBlock]
        split at h
        · rename_i hj
          rw [Nat.beq_eq] at hj
          simp only [Option.some.injEq, Prod.mk.injEq] at h
          obtain ⟨rfl, rfl, rfl⟩ := h
          rw [if_pos hj]
          exact ⟨G', e1, r1, A1, trivial⟩
        · rename_i hj
          have hj' : ¬ _ = id := fun e => by rw [← Nat.beq_eq, hj] at e; cases e
          simp only [Option.some.injEq, Prod.mk.injEq] at h
          obtain ⟨rfl, rfl, rfl⟩ := h
          rw [if_neg hj']
          exact ⟨G', e1, r1, A1, rfl⟩
      | _ =>
        simp only [blockC, Option.some.injEq, Prod.mk.injEq] at h
        obtain ⟨rfl, rfl, rfl⟩ := h
        cases ce <;> simp only [ExRel] at hx1 <;> exact ⟨G', e1, r1, A1, hx1⟩
  · exact (loopM_ok E h).code
  · rename_i id ops draw
    unfold regionC at h
    cases draw with
    | false => exact region_ok E.F E.Y h
    | true => exact hdr _ _ E.F E.Y _ _ _ _ _ _ _ _ h
  · exact rangeC_ok E h
theorem stepW_ok {dr : DrawF} (E : EvOk T e) : ∀ r c a H x a' H', stepC T dr e r (.loop c) a H = some (x, a', H') → LoopOk T.P r c a H x a' H' := by
  intro r c a H x a' H' h
  simp only [stepC] at h
  exact loopM_ok E h
theorem stepY_ok (E : EvOk T e) : ∀ id args H r H', stepY e id args H = some (r, H') → RoundOk T.P id args H r H' := by
  intro id args H r H' h w G lp fn tmps hR hg hv
  unfold stepY at h
  rw [hg] at h
  simp only at h
  have hid : id < H.n := AH.lt_of_get (by rw [hg]; simp)
  have hgen : G.gen id = 1 := by
    have hO := hR.obj id hid
    rw [hg] at hO
    exact hO.1
  have hrr : RR G (some (G.blk id)) (some id) := ⟨by rw [hR.n]; exact hid, by omega, fun _ => rfl⟩
  cases hx : e.C (some id) lp.assign { tmps := yieldTmps lp args, defers := [] } H with
  | none => rw [hx] at h; simp [midY] at h
  | some y =>
    obtain ⟨x1, a1, H1⟩ := y
    rw [hx] at h
    cases x1 <;> simp only [midY, reduceCtorEq] at h
    split at h <;> try (cases h; done)
    rename_i l1 hg1
    split at h <;> try (cases h; done)
    rename_i hst
    refine roundIn_of_wpIn (F := Fence.wide) trivial ?_
    have hA : ARel G { tmps := tmps, defers := [] } { tmps := yieldTmps lp args, defers := [] } := ⟨hv, rfl⟩
    refine wpIn_mono ((E.C _ _ _ _ _ _ _ hx).wp (rr := some (G.blk id)) (.refl w G H) hR hA hrr) (fun ce ca' w' hq => ?_)
    obtain ⟨G1, e1, r1, A1, hx1⟩ := hq
    cases ce <;> simp only [ExRel] at hx1
    have hbk : ∀ {G' : Gh} {H2 : AH} {w2 : World} {l2 : ALoop}, G.le G' → Rel w2 G' H2 → H2.get id = .loop l2 → G'.blk id = G.blk id := by
      intro G' H2 w2 l2 hle hR2 hg2
      have hO := hR2.obj id (AH.lt_of_get (by rw [hg2]; simp))
      rw [hg2] at hO
      exact (hle.same id (by rw [hR.n]; exact hid) (by rw [hgen]; exact hO.1.symm)).1
    obtain ⟨rec, k1, k2, k3, k4, k5⟩ := loop_set r1 hg1 .busy l1.pending
    rw [hbk e1.le r1 hg1] at k1 k4 k5
    have hrec : ({ rec with state := .busy, pending := l1.pending } : Loop) = { rec with state := .busy } := by rw [← k3]
    have hl1 : ({ l1 with state := .busy, pending := l1.pending } : ALoop) = { l1 with state := .busy } := rfl
    rw [hrec] at k4 k5
    refine ⟨_, run_beginRound k1 (by rw [k2, hst]), ?_⟩
    cases hx2 : e.C (some id) lp.body a1 (H1.set id (.loop { l1 with state := .busy })) with
    | none => rw [hx2] at h; simp [endY] at h
    | some y =>
      obtain ⟨x2, a2, H3⟩ := y
      rw [hx2] at h
      simp only [endY] at h
      split at h <;> try (cases h; done)
      rename_i l3 jump hg3 hj
      simp only [Option.some.injEq, Prod.mk.injEq] at h
      obtain ⟨rfl, rfl⟩ := h
      refine wpIn_mono ((E.C _ _ _ _ _ _ _ hx2).wp (rr := some (G.blk id)) (e1.trans k5) k4 A1 (hrr.mono e1.le)) (fun ce ca2 w2 hq => ?_)
      obtain ⟨G3, e3, r3, A3, hx3⟩ := hq
      obtain ⟨rec3, j1, j2, j3, j4, j5⟩ := loop_set r3 hg3 (if jump.isNone then .ready else .done) jump
      rw [hbk e3.le r3 hg3] at j1 j4 j5
      have hend := run_endRound (P := T.P) jump j1
      have fin : ∃ v w', (Instr.endRound (G.blk id) jump).run T.P w2 = .ok v w' ∧ ∃ G', Ext w G H w' G' (H3.set id (.loop { l3 with state := if jump.isNone then .ready else .done, pending := jump })) ∧ Rel w' G' (H3.set id (.loop { l3 with state := if jump.isNone then .ready else .done, pending := jump })) ∧ EndRel G' (.returned v) (.ret (.v (.bool jump.isNone))) :=
        ⟨_, _, hend, G3, e3.trans j5, j4, by simp [EndRel, VR]⟩
      cases x2 <;> simp only [jumpOf, Option.some.injEq, reduceCtorEq] at hj <;> subst hj <;> cases ce <;> simp only [ExRel] at hx3
      · exact fin
      · subst hx3; exact fin
      · subst hx3; exact fin
      · exact fin
theorem evN_ok {C : CallF} (hC : ∀ f args H r H', C f args H = some (r, H') → CallOk T.P f args H r H') {dr : DrawF} (hdr : DrawOk T dr) : ∀ n, EvOk T (evN T C dr n)
  | 0 => EvOk.none T
  | n + 1 =>
    have E := evN_ok hC hdr n
    ⟨stepF_ok hC E, stepL_ok E, stepD_ok E, stepC_ok hdr E, stepW_ok (dr := dr) E, stepY_ok E⟩
end
end Go.Proofs.Ytlajcmoiopaemaa
