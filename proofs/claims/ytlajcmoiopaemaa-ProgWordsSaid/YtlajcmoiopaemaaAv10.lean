/- Walks over the abstract heap: operations in the text's order. No program in sight. -/
import Derived.Test.YtlajcmoiopaemaaAv9
import Derived.RangeFuncIn
import Derived.RangeFuncCalls
set_option linter.unusedVariables false
set_option linter.unusedSimpArgs false
noncomputable section
namespace Go.Proofs.Ytlajcmoiopaemaa
structure AAct where
  tmps : HT AV
  defers : List ADef
def AAct.eval (a : AAct) : Operand → AV
  | .tmp t => a.tmps.or t
  | .const v => .v v
  | .global g => .v (.pointer (some ⟨g, 0, none⟩))
  | .func f => .fn (.func f) [] []
def AAct.put (a : AAct) (dst : Option Tmp) (u : AV) : AAct := match dst with
  | some d => { a with tmps := a.tmps.upd d u }
  | none => a
def ARel (G : Gh) (ca : Act) (a : AAct) : Prop := TRel G ca.tmps.toList a.tmps ∧ DRs G ca.defers a.defers
inductive AExit where
  | normal
  | exit (id : Nat)
  | goto (l : Nat)
  | ret
  | panic (u : AV)
inductive AEnd where
  | ret (u : AV)
  | panic (u : AV)
def EndRel (G : Gh) : Ending → AEnd → Prop
  | .returned x, .ret u => VR G x u
  | .panicked chain, .panic u => ∃ x, chain = [{ v := x, recovered := false }] ∧ VR G x u
  | _, _ => False
def ExRel (G : Gh) : Exit → AExit → Prop
  | .normal, .normal => True
  | .exit i, .exit j => i = j
  | .goto i, .goto j => i = j
  | .ret, .ret => True
  | .panic chain, .panic u => ∃ x, chain = [{ v := x, recovered := false }] ∧ VR G x u
  | _, _ => False
def FR (r : Option Nat) : Fence := { Fence.wide with round := r }
def RR (G : Gh) : Option Nat → Option Nat → Prop
  | none, none => True
  | some b, some id => id < G.n ∧ 1 ≤ G.gen id ∧ (G.gen id = 1 → b = G.blk id)
  | _, _ => False
section
variable {P : Program} {w : World} {G G' : Gh} {H H' : AH}
theorem RR.mono {r : Option Nat} {a : Option Nat} (h : G.le G') (k : RR G r a) : RR G' r a := by
  cases r <;> cases a <;> simp only [RR] at k ⊢
  obtain ⟨h1, h0, h2⟩ := k
  have hg := h.gen _ h1
  refine ⟨Nat.lt_of_lt_of_le h1 h.n, Nat.le_trans h0 hg, fun e => ?_⟩
  rw [(h.same _ h1 (by omega)).1]; exact h2 (by omega)
theorem ARel.mono {ca : Act} {a : AAct} (h : G.le G') (k : ARel G ca a) : ARel G' ca a := ⟨k.1.mono h, k.2.mono h⟩
theorem ARel.eval {ca : Act} {a : AAct} (h : ARel G ca a) (x : Operand) : VR G (ca.eval x) (a.eval x) := by
  cases x with
  | tmp t =>
    have := h.1.or t
    rw [Array.getElem?_toList] at this
    simpa [Act.eval, AAct.eval, Array.getD_eq_getD_getElem?] using this
  | const v => simp [Act.eval, AAct.eval, VR]
  | global g => simp [Act.eval, AAct.eval, VR]
  | func f => simp only [Act.eval, AAct.eval, VR]; exact ⟨[], [], rfl, rfl, rfl⟩
theorem ARel.put {ca : Act} {a : AAct} (h : ARel G ca a) (d : Option Tmp) {x : Value} {u : AV} (hx : VR G x u) : ARel G (ca.put d x) (a.put d u) := by
  cases d with
  | none => exact h
  | some d => exact ⟨by simp only [Act.put, AAct.put, Array.toList_setIfInBounds]; exact h.1.set d hx, h.2⟩
def awant (ops : Array Oper) (a : AAct) (o : Oper) : Option Bool := match o.guard with
  | none => some true
  | some (j, want) => match (ops[j]?).bind (·.dst) with
    | some d => match a.tmps.get d with
      | some (.v (.bool b)) => some (b == want)
      | some (.v _) => some false
      | _ => none
    | none => some false
theorem awant_sound {ops : Array Oper} {ca : Act} {a : AAct} {o : Oper} {b : Bool} (hA : ARel G ca a) (h : awant ops a o = some b) : Region.wanted o (yielded ops ca.tmps) = b := by
  unfold awant at h
  unfold Region.wanted
  cases hg : o.guard with
  | none => rw [hg] at h; simp only [Option.some.injEq] at h; exact h
  | some p =>
    obtain ⟨j, want⟩ := p
    rw [hg] at h
    simp only at h ⊢
    unfold yielded
    cases hd : (ops[j]?).bind (·.dst) with
    | none => rw [hd] at h; simp only [Option.some.injEq] at h; subst h; simp
    | some d =>
      rw [hd] at h
      simp only at h
      simp only [Option.bind_some]
      split at h <;> simp only [Option.some.injEq, reduceCtorEq] at h
      · rename_i c hu
        obtain ⟨x, h1, h2⟩ := hA.1.get hu
        rw [Array.getElem?_toList] at h1
        simp only [VR] at h2
        subst h2
        simp [h1, ← h]
      · rename_i x hne hu
        obtain ⟨y, h1, h2⟩ := hA.1.get hu
        rw [Array.getElem?_toList] at h1
        simp only [VR] at h2
        subst h2
        subst h
        cases y <;> first | (simp [h1]; done) | (exact absurd rfl (hne _))
/-- a Go function's call, and what it comes to -/
def CallOk (P : Program) (f : FuncId) (args : List AV) (H : AH) (e : AEnd) (H' : AH) : Prop :=
  ∀ (w : World) (G : Gh) (cargs : Array Value), Rel w G H → VRs G cargs.toList args →
    Calls P f cargs w fun ce w' => ∃ G', Ext w G H w' G' H' ∧ Rel w' G' H' ∧ EndRel G' ce e
/-- a round of a range over a function -/
def RoundOk (P : Program) (id : Nat) (args : List AV) (H : AH) (e : AEnd) (H' : AH) : Prop :=
  ∀ (w : World) (G : Gh) (lp : ALoop) (fn : FuncId) (tmps : Array Value), Rel w G H → H.get id = .loop lp → TRel G tmps.toList (yieldTmps lp args) →
    RoundIn Fence.wide 0 P (G.blk id) fn tmps lp.assign lp.body w fun ce w' => ∃ G', Ext w G H w' G' H' ∧ Rel w' G' H' ∧ EndRel G' ce e
def CodeOk (P : Program) (r : Option Nat) (c : Code) (a : AAct) (H : AH) (e : AExit) (a' : AAct) (H' : AH) : Prop :=
  ∀ (w : World) (G : Gh) (ca : Act) (rr : Option Nat), Rel w G H → ARel G ca a → RR G rr r →
    c.wpIn (FR rr) 0 P (fun ce ca' w' => ∃ G', Ext w G H w' G' H' ∧ Rel w' G' H' ∧ ARel G' ca' a' ∧ ExRel G' ce e) ca w
theorem about_wide (rr : Option Nat) (o : Oper) (w : World) (ρ : Operand → Value) : ∀ f, o.about P w ρ = some f → (FR rr).fn f := fun _ _ => trivial
theorem room_FR (rr : Option Nat) (n : Nat) : (FR rr).room n := fun _ h => by cases h
theorem callsIn_FR {rr : Option Nat} {f : FuncId} {args : Array Value} {w : World} {R : Ending → World → Prop} (h : Calls P f args w R) : CallsIn (FR rr) 0 P f args w R := by
  have := callsIn_wide (n := 0) |>.2 h
  exact this
abbrev CallF := FuncId → List AV → AH → Option (AEnd × AH)
abbrev YldF := Nat → List AV → AH → Option (AEnd × AH)
/-- operations, in the text's order -/
def evOps (T : Tab) (cf : CallF) (yf : YldF) (r : Option Nat) (ops : Array Oper) : List Oper → AAct → AH → Option (AExit × AAct × AH)
  | [], a, H => some (.normal, a, H)
  | o :: rest, a, H => match awant ops a o with
    | some true => match aop T a.eval o H with
      | some (.val u, H') => evOps T cf yf r ops rest (a.put o.dst u) H'
      | some (.skip, H') => evOps T cf yf r ops rest (a.put o.dst (.v undef)) H'
      | some (.defer d, H') => match r with
        | none => evOps T cf yf r ops rest (AAct.put { a with defers := d :: a.defers } o.dst (.v undef)) H'
        | some _ => none
      | some (.call f args, H') => match cf f args H' with
        | some (.ret u, H2) => evOps T cf yf r ops rest (a.put o.dst u) H2
        | some (.panic u, H2) => some (.panic u, a, H2)
        | none => none
      | some (.yield id args, H') => match yf id args H' with
        | some (.ret u, H2) => evOps T cf yf r ops rest (a.put o.dst u) H2
        | some (.panic u, H2) => some (.panic u, a, H2)
        | none => none
      | some (.panic u, H') => some (.panic u, a, H')
      | some (.recov, _) => none
      | none => none
    | some false => evOps T cf yf r ops rest (a.put o.dst (.v undef)) H
    | none => none
theorem semAt_eq {r : Option Nat} {o : Oper} {ρ : Operand → Value} (h : r = none ∨ ∀ c, o.op ≠ .defer c) : o.semAt r ρ = execOp ρ o := by
  unfold Oper.semAt
  cases r with
  | none => simp
  | some l =>
    rcases h with h | h
    · cases h
    · cases ho : o.op <;> simp_all
def Next' (P : Program) (w : World) (G : Gh) (H : AH) (e : AExit) (a' : AAct) (H' : AH) : Exit → Act → World → Prop :=
  fun ce ca' w' => ∃ G', Ext w G H w' G' H' ∧ Rel w' G' H' ∧ ARel G' ca' a' ∧ ExRel G' ce e
theorem aop_no_defer {T : Tab} {ρ : Operand → AV} {o : Oper} {x : AR} (h : aop T ρ o H = some (x, H')) (hx : ∀ d, x ≠ .defer d) : ∀ c, o.op ≠ .defer c := by
  intro c hc
  unfold aop at h
  rw [hc] at h
  simp only at h
  split at h <;> try (cases h; done)
  split at h <;> try (cases h; done)
  split at h <;> simp only [Option.some.injEq, Prod.mk.injEq, reduceCtorEq] at h
  exact hx _ h.1.symm
/-- one operation, carried on -/
theorem oper_wp {T : Tab} {rr r : Option Nat} {o : Oper} {ca : Act} {a : AAct} {x : AR} {w : World} {G : Gh} {H H1 : AH} {K : Act → World → Prop} {Q : Exit → Act → World → Prop} (hR : Rel w G H) (hA : ARel G ca a) (hr : RR G rr r) (h : aop T a.eval o H = some (x, H1))
    (hdef : ∀ d, x = .defer d → r = none)
    (hk : ∀ w1 G1, Ext w G H w1 G1 H1 → Rel w1 G1 H1 → match x with
      | .val u => ∀ y, VR G1 y u → K (ca.put o.dst y) w1
      | .skip => K (ca.put o.dst undef) w1
      | .defer d => ∀ y, DR G1 y d → K ({ ca with defers := y :: ca.defers }.put o.dst undef) w1
      | .call f args => ∀ cargs : Array Value, VRs G1 cargs.toList args → Calls T.P f cargs w1 fun
          | .returned v, w'' => K (ca.put o.dst v) w''
          | .panicked chain, w'' => Q (.panic chain) ca w''
          | .outgrown, _ => LetsOut Q
      | .yield id args => ∀ lp fn, ∀ tmps : Array Value, H1.get id = .loop lp → TRel G1 tmps.toList (yieldTmps lp args) → RoundIn Fence.wide 0 T.P (G1.blk id) fn tmps lp.assign lp.body w1 fun
          | .returned v, w'' => K (ca.put o.dst v) w''
          | .panicked chain, w'' => Q (.panic chain) ca w''
          | .outgrown, _ => LetsOut Q
      | .panic u => ∀ y, VR G1 y u → Q (.panic [{ v := y, recovered := false }]) ca w1
      | .recov => False) : o.wpIn (FR rr) 0 T.P ca w K Q := by
  refine ⟨about_wide rr o w _, ?_⟩
  have hsem : o.semAt (FR rr).round ca.eval = execOp ca.eval o := by
    apply semAt_eq
    by_cases hd : ∃ d, x = .defer d
    · obtain ⟨d, rfl⟩ := hd
      have := hdef d rfl
      subst this
      cases rr with
      | none => exact .inl rfl
      | some b => simp only [RR] at hr
    · exact .inr (aop_no_defer h (fun d e => hd ⟨d, e⟩))
  rw [hsem]
  obtain ⟨w1, G1, e1, r1, hx⟩ := aop_sound (T := T) hR hA.eval h
  have hk := hk w1 G1 e1 r1
  cases x with
  | val u => obtain ⟨y, hy, hv⟩ := hx; rw [hy]; exact hk y hv
  | skip => rw [hx]; exact hk
  | defer d => obtain ⟨y, hy, hv⟩ := hx; rw [hy]; exact hk y hv
  | call f args =>
    obtain ⟨cargs, hy, hv⟩ := hx
    rw [hy]
    exact ⟨fun h => (by cases h), callsIn_FR (hk cargs hv)⟩
  | yield id args =>
    obtain ⟨lp, fn, tmps, hg, hy, hv⟩ := hx
    rw [hy]
    exact ⟨fun h => (by cases h), hk lp fn tmps hg hv⟩
  | panic u => obtain ⟨y, hy, hv⟩ := hx; rw [hy]; exact hk y hv
  | recov => exact hk.elim
theorem evOps_sound {T : Tab} {cf : CallF} {yf : YldF} {r : Option Nat} {ops : Array Oper} (hcf : ∀ f args H e H', cf f args H = some (e, H') → CallOk T.P f args H e H') (hyf : ∀ id args H e H', yf id args H = some (e, H') → RoundOk T.P id args H e H') :
    ∀ (l : List Oper) (i : Nat), l = ops.toList.drop i → ∀ (a : AAct) (H : AH) (e : AExit) (a' : AAct) (H' : AH), evOps T cf yf r ops l a H = some (e, a', H') →
      ∀ (w0 w : World) (G0 G : Gh) (H0 : AH) (ca : Act) (rr : Option Nat), Ext w0 G0 H0 w G H → Rel w G H → ARel G ca a → RR G rr r → wpOpsIn (FR rr) 0 T.P ops (Next' T.P w0 G0 H0 e a' H') (List.range' i (ops.size - i)) ca w := by
  intro l
  induction l with
  | nil =>
    intro i hl a H e a' H' h w0 w G0 G H0 ca rr hE hR hA hr
    simp only [evOps, Option.some.injEq, Prod.mk.injEq] at h
    obtain ⟨rfl, rfl, rfl⟩ := h
    have : ops.size - i = 0 := by
      have := congrArg List.length hl
      simp at this; omega
    rw [this]
    exact ⟨G, hE, hR, hA, trivial⟩
  | cons o rest ih =>
    intro i hl a H e a' H' h w0 w G0 G H0 ca rr hE hR hA hr
    have hi : i < ops.size := by
      have := congrArg List.length hl
      simp at this; omega
    have hoi : ops[i]? = some o := by
      have : (ops.toList.drop i)[0]? = some o := by rw [← hl]; rfl
      rw [List.getElem?_drop] at this
      simpa using this
    have hrest : rest = ops.toList.drop (i + 1) := by
      have : (ops.toList.drop i).drop 1 = rest := by rw [← hl]; rfl
      rw [← this, List.drop_drop]
    have hrg : List.range' i (ops.size - i) = i :: List.range' (i + 1) (ops.size - (i + 1)) := by
      rw [show ops.size - i = (ops.size - (i + 1)) + 1 by omega, List.range'_succ]
    rw [hrg]
    simp only [wpOpsIn, hoi]
    have ih := ih (i + 1) hrest
    simp only [evOps] at h
    split at h <;> try (cases h; done)
    · rename_i hw
      rw [awant_sound hA hw, if_pos rfl]
      split at h <;> try (cases h; done)
      · rename_i u H1 hop
        exact oper_wp hR hA hr hop (by simp) (fun w1 G1 e1 r1 y hy => ih _ _ _ _ _ h _ _ _ _ _ _ _ (hE.trans e1) r1 ((hA.mono e1.le).put _ hy) (hr.mono e1.le))
      · rename_i H1 hop
        exact oper_wp hR hA hr hop (by simp) (fun w1 G1 e1 r1 => ih _ _ _ _ _ h _ _ _ _ _ _ _ (hE.trans e1) r1 ((hA.mono e1.le).put _ (by simp [VR])) (hr.mono e1.le))
      · rename_i d H1 hop
        split at h <;> try (cases h; done)
        refine oper_wp hR hA hr hop (fun _ _ => rfl) (fun w1 G1 e1 r1 y hy => ih _ _ _ _ _ h _ _ _ _ _ _ _ (hE.trans e1) r1 (ARel.put ?_ _ (by simp [VR])) (hr.mono e1.le))
        have := hA.mono e1.le
        exact ⟨this.1, y, _, rfl, hy, this.2⟩
      · rename_i f args H1 hop
        refine oper_wp hR hA hr hop (by simp) (fun w1 G1 e1 r1 cargs hv => ?_)
        split at h <;> try (cases h; done)
        · rename_i u H2 hc
          refine Calls.mono (hcf _ _ _ _ _ hc w1 G1 cargs r1 hv) ?_
          rintro ce w2 ⟨G2, e2, r2, hend⟩
          cases ce <;> simp only [EndRel] at hend
          exact ih _ _ _ _ _ h _ _ _ _ _ _ _ ((hE.trans e1).trans e2) r2 (((hA.mono e1.le).mono e2.le).put _ hend) ((hr.mono e1.le).mono e2.le)
        · rename_i u H2 hc
          simp only [Option.some.injEq, Prod.mk.injEq] at h
          obtain ⟨rfl, rfl, rfl⟩ := h
          refine Calls.mono (hcf _ _ _ _ _ hc w1 G1 cargs r1 hv) ?_
          rintro ce w2 ⟨G2, e2, r2, hend⟩
          cases ce <;> simp only [EndRel] at hend
          exact ⟨G2, (hE.trans e1).trans e2, r2, (hA.mono e1.le).mono e2.le, hend⟩
      · rename_i id args H1 hop
        refine oper_wp hR hA hr hop (by simp) (fun w1 G1 e1 r1 lp fn tmps hg hv => ?_)
        split at h <;> try (cases h; done)
        · rename_i u H2 hc
          refine RoundIn.mono (hyf _ _ _ _ _ hc w1 G1 lp fn tmps r1 hg hv) ?_
          rintro ce w2 ⟨G2, e2, r2, hend⟩
          cases ce <;> simp only [EndRel] at hend
          exact ih _ _ _ _ _ h _ _ _ _ _ _ _ ((hE.trans e1).trans e2) r2 (((hA.mono e1.le).mono e2.le).put _ hend) ((hr.mono e1.le).mono e2.le)
        · rename_i u H2 hc
          simp only [Option.some.injEq, Prod.mk.injEq] at h
          obtain ⟨rfl, rfl, rfl⟩ := h
          refine RoundIn.mono (hyf _ _ _ _ _ hc w1 G1 lp fn tmps r1 hg hv) ?_
          rintro ce w2 ⟨G2, e2, r2, hend⟩
          cases ce <;> simp only [EndRel] at hend
          exact ⟨G2, (hE.trans e1).trans e2, r2, (hA.mono e1.le).mono e2.le, hend⟩
      · rename_i u H1 hop
        simp only [Option.some.injEq, Prod.mk.injEq] at h
        obtain ⟨rfl, rfl, rfl⟩ := h
        exact oper_wp hR hA hr hop (by simp) (fun w1 G1 e1 r1 y hy => ⟨G1, hE.trans e1, r1, hA.mono e1.le, y, rfl, hy⟩)
    · rename_i hw
      rw [awant_sound hA hw]
      simp only [Bool.false_eq_true, if_false]
      exact ⟨about_wide rr o w _, ih _ _ _ _ _ h _ _ _ _ _ _ _ hE hR (hA.put _ (by simp [VR])) hr⟩
end
end Go.Proofs.Ytlajcmoiopaemaa
