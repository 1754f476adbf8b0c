/- Regions that draw the order of their operations. No program in sight. -/
import Derived.Test.YtlajcmoiopaemaaAv10
set_option linter.unusedVariables false
set_option linter.unusedSimpArgs false
noncomputable section
namespace Go.Proofs.Ytlajcmoiopaemaa
inductive EOne where
  | light (u : AV)
  | heavy (u : AV) (H : AH)
  | boom (u : AV) (H : AH)
def isLight : Op → Bool
  | .move _ | .assign _ | .pick .. | .build .. | .load .. | .nilCheck _ | .binOp .. | .makeInterface .. | .makeFunc .. | .slice .. | .fieldAddr .. | .field .. | .indexAddr .. | .index .. | .lookup .. | .typeAssert .. | .extract .. | .unOp .. | .entry _ => true
  | .call c => match c.callee with
    | .builtin .len => true
    | _ => false
  | _ => false
section
variable {T : Tab} {w : World} {G : Gh} {H H' : AH}
theorem aPur_same {ρ : Operand → AV} {o : Oper} {x : AR} (h : aPur T ρ o H = some (x, H')) : H' = H := by
  unfold aPur at h
  split at h <;> try (cases h; done)
  split at h <;> simp only [Option.some.injEq, Prod.mk.injEq, reduceCtorEq] at h <;> exact h.2.symm
theorem one1_same {r : Option AV} {x : AR} (h : one1 r H = some (x, H')) : H' = H := by
  obtain ⟨_, _, _, h⟩ := one1_some h; exact h
theorem aop_light {ρ : Operand → AV} {o : Oper} {x : AR} (h : aop T ρ o H = some (x, H')) (hl : isLight o.op = true) : H' = H := by
  have key : ∀ {r : Option AV}, orElse' (one1 r H) (aPur T ρ o H) = some (x, H') → H' = H := fun h => by
    rcases orElse_some h with h | h
    · exact one1_same h
    · exact aPur_same h
  unfold aop at h
  cases ho : o.op <;> rw [ho] at h hl <;> simp only [isLight] at hl <;> try (cases hl; done)
  all_goals simp only at h
  case call c =>
    rcases orElse_some h with h | h
    · unfold aCall at h
      split at hl <;> try (cases hl; done)
      rename_i hc
      rw [hc] at h
      simp only at h
      split at h <;> try (cases h; done)
      exact one1_same h
    · exact aPur_same h
  all_goals first
    | exact one1_same h
    | exact key h
    | exact aPur_same h
    | (simp only [Option.some.injEq, Prod.mk.injEq] at h; exact h.2.symm)
    | skip
  case pick => split at h <;> simp only [Option.some.injEq, Prod.mk.injEq, reduceCtorEq] at h <;> exact h.2.symm
  case makeFunc => split at h <;> simp only [Option.some.injEq, Prod.mk.injEq, reduceCtorEq] at h; exact h.2.symm
  case nilCheck => split at h <;> first | exact aPur_same h | (simp only [Option.some.injEq, Prod.mk.injEq] at h; exact h.2.symm)
  case binOp =>
    split at h
    · split at h
      · simp only [Option.some.injEq, Prod.mk.injEq] at h; exact h.2.symm
      · exact aPur_same h
    · rcases orElse_some h with h | h
      · exact one1_same h
      · exact key h
  case slice a b c d e =>
    cases e with
    | none => exact key h
    | some m =>
      cases c with
      | some _ =>
        cases d with
        | none => simp at h
        | some _ => exact one1_same h
      | none =>
        simp only at h
        split at h <;> try (cases h; done)
        split at h <;> try (cases h; done)
        exact key h
def evOne (T : Tab) (cf : CallF) (yf : YldF) (ops : Array Oper) (a : AAct) (o : Oper) (H : AH) : Option EOne := match awant ops a o with
  | some false => some (.light (.v undef))
  | some true => match aop T a.eval o H with
    | some (.val u, H') => match isLight o.op with
      | true => some (.light u)
      | false => some (.heavy u H')
    | some (.skip, H') => some (.heavy (.v undef) H')
    | some (.call f args, H') => match cf f args H' with
      | some (.ret u, H2) => some (.heavy u H2)
      | some (.panic u, H2) => some (.boom u H2)
      | none => none
    | some (.yield id args, H') => match yf id args H' with
      | some (.ret u, H2) => some (.heavy u H2)
      | some (.panic u, H2) => some (.boom u H2)
      | none => none
    | some (.panic u, H') => some (.boom u H')
    | _ => none
  | none => none
/-- one operation that is next, carried on -/
theorem evOne_wp {cf : CallF} {yf : YldF} {rr r : Option Nat} {ops : Array Oper} {i : Nat} {o : Oper} {ca : Act} {a : AAct} {e : EOne} {K : Act → World → Prop} {Q : Exit → Act → World → Prop}
    (hcf : ∀ f args H e H', cf f args H = some (e, H') → CallOk T.P f args H e H') (hyf : ∀ id args H e H', yf id args H = some (e, H') → RoundOk T.P id args H e H')
    (hi : ops[i]? = some o) (hR : Rel w G H) (hA : ARel G ca a) (hr : RR G rr r) (h : evOne T cf yf ops a o H = some e)
    (hk : match e with
      | .light u => ∀ w1 G1, Ext w G H w1 G1 H → Rel w1 G1 H → ∀ y, VR G1 y u → K (ca.put o.dst y) w1
      | .heavy u H' => ∀ w1 G1, Ext w G H w1 G1 H' → Rel w1 G1 H' → ∀ y, VR G1 y u → K (ca.put o.dst y) w1
      | .boom u H' => ∀ w1 G1, Ext w G H w1 G1 H' → Rel w1 G1 H' → ∀ y, VR G1 y u → Q (.panic [{ v := y, recovered := false }]) ca w1) :
    wpOpIn (FR rr) 0 T.P ops Q i K ca w := by
  simp only [wpOpIn, hi]
  unfold evOne at h
  split at h
  · rename_i hw
    rw [awant_sound hA hw]
    simp only [Option.some.injEq] at h
    subst h
    simp only [Bool.false_eq_true, if_false]
    exact ⟨about_wide rr o w _, hk w G (.refl _ _ _) hR _ (by simp [VR])⟩
  · rename_i hw
    rw [awant_sound hA hw, if_pos rfl]
    split at h
    · rename_i u H1 hop
      refine oper_wp hR hA hr hop (by simp) (fun w1 G1 e1 r1 y hy => ?_)
      split at h
      · rename_i hl
        simp only [Option.some.injEq] at h
        subst h
        obtain rfl := aop_light hop hl
        exact hk w1 G1 e1 r1 y hy
      · simp only [Option.some.injEq] at h
        subst h
        exact hk w1 G1 e1 r1 y hy
    · rename_i H1 hop
      refine oper_wp hR hA hr hop (by simp) (fun w1 G1 e1 r1 => ?_)
      simp only [Option.some.injEq] at h
      subst h
      exact hk w1 G1 e1 r1 _ (by simp [VR])
    · rename_i f args H1 hop
      refine oper_wp hR hA hr hop (by simp) (fun w1 G1 e1 r1 cargs hv => ?_)
      split at h <;> try (cases h; done)
      · rename_i u H2 hc
        simp only [Option.some.injEq] at h
        subst h
        refine Calls.mono (hcf _ _ _ _ _ hc w1 G1 cargs r1 hv) ?_
        rintro ce w2 ⟨G2, e2, r2, hend⟩
        cases ce <;> simp only [EndRel] at hend
        exact hk w2 G2 (e1.trans e2) r2 _ hend
      · rename_i u H2 hc
        simp only [Option.some.injEq] at h
        subst h
        refine Calls.mono (hcf _ _ _ _ _ hc w1 G1 cargs r1 hv) ?_
        rintro ce w2 ⟨G2, e2, r2, hend⟩
        cases ce <;> simp only [EndRel] at hend
        obtain ⟨x, rfl, hx⟩ := hend
        exact hk w2 G2 (e1.trans e2) r2 _ hx
    · rename_i id args H1 hop
      refine oper_wp hR hA hr hop (by simp) (fun w1 G1 e1 r1 lp fn tmps hg hv => ?_)
      split at h <;> try (cases h; done)
      · rename_i u H2 hc
        simp only [Option.some.injEq] at h
        subst h
        refine RoundIn.mono (hyf _ _ _ _ _ hc w1 G1 lp fn tmps r1 hg hv) ?_
        rintro ce w2 ⟨G2, e2, r2, hend⟩
        cases ce <;> simp only [EndRel] at hend
        exact hk w2 G2 (e1.trans e2) r2 _ hend
      · rename_i u H2 hc
        simp only [Option.some.injEq] at h
        subst h
        refine RoundIn.mono (hyf _ _ _ _ _ hc w1 G1 lp fn tmps r1 hg hv) ?_
        rintro ce w2 ⟨G2, e2, r2, hend⟩
        cases ce <;> simp only [EndRel] at hend
        obtain ⟨x, rfl, hx⟩ := hend
        exact hk w2 G2 (e1.trans e2) r2 _ hx
    · rename_i u H1 hop
      refine oper_wp hR hA hr hop (by simp) (fun w1 G1 e1 r1 y hy => ?_)
      simp only [Option.some.injEq] at h
      subst h
      exact hk w1 G1 e1 r1 y hy
    · cases h
  · cases h
end
/-! ### What comes ahead of what -/
def afters (o : Oper) : List Nat := (o.after.toList.filter (fun e => Region.binds .any e)).map (·.on)
structure PL where
  o : Oper
  m : Nat
  ms : List Tmp
def maskOf (prev : List (Option Tmp × Nat)) : List Nat → Nat
  | [] => 0
  | j :: l => Nat.lor (Nat.lor (Nat.shiftLeft 1 j) (prev.getD j (none, 0)).2) (maskOf prev l)
def mkOf (m : Nat) : Nat → List (Option Tmp × Nat) → List Tmp
  | _, [] => []
  | j, (none, _) :: l => mkOf m (j + 1) l
  | j, (some d, _) :: l => match Nat.testBit m j with
    | true => mkOf m (j + 1) l
    | false => d :: mkOf m (j + 1) l
def planGo : List Oper → List (Option Tmp × Nat) → List PL
  | [], _ => []
  | o :: l, prev => ⟨o, maskOf prev (afters o), mkOf (maskOf prev (afters o)) 0 prev⟩ :: planGo l (prev ++ [(o.dst, maskOf prev (afters o))])
def earlier : List Oper → Nat → Bool
  | [], _ => true
  | o :: l, i => (afters o).all (fun j => Nat.ble (j + 1) i) && earlier l (i + 1)
def apart : List Oper → Bool
  | [] => true
  | o :: l => match o.dst with
    | none => apart l
    | some d => l.all (fun x => match x.dst with | none => true | some d' => !Nat.beq d d') && apart l
theorem testBit_maskOf {prev : List (Option Tmp × Nat)} : ∀ {l : List Nat} {k : Nat}, (maskOf prev l).testBit k = true → ∃ j ∈ l, k = j ∨ ((prev.getD j (none, 0)).2).testBit k = true
  | [], k, h => by simp [maskOf] at h
  | j :: l, k, h => by
    have h : ((1 <<< j ||| (prev.getD j (none, 0)).2) ||| maskOf prev l).testBit k = true := h
    rw [Nat.testBit_or, Nat.testBit_or, Bool.or_eq_true, Bool.or_eq_true] at h
    rcases h with (h | h) | h
    · rw [Nat.testBit_shiftLeft] at h
      simp only [Bool.and_eq_true, decide_eq_true_eq] at h
      refine ⟨j, by simp, .inl ?_⟩
      have h2 := h.2
      have h1 := h.1
      have : k - j = 0 := by
        cases hk : k - j with
        | zero => rfl
        | succ n => rw [hk] at h2; simp [Nat.testBit_succ] at h2
      omega
    · exact ⟨j, by simp, .inr h⟩
    · obtain ⟨j', h1, h2⟩ := testBit_maskOf h
      exact ⟨j', by simp [h1], h2⟩
theorem mem_mkOf {m : Nat} : ∀ {l : List (Option Tmp × Nat)} {j k : Nat} {d : Tmp} {x : Nat}, l[k]? = some (some d, x) → m.testBit (j + k) = false → d ∈ mkOf m j l
  | [], j, k, d, x, h, hm => by simp at h
  | (none, _) :: l, j, 0, d, x, h, hm => by simp at h
  | (some d', _) :: l, j, 0, d, x, h, hm => by
    simp at h
    obtain ⟨rfl, _⟩ := h
    rw [Nat.add_zero] at hm
    simp [mkOf, hm]
  | (none, _) :: l, j, k + 1, d, x, h, hm => by
    simp only [mkOf]
    exact mem_mkOf (l := l) (k := k) (x := x) (by simpa using h) (by rw [← hm]; congr 1; omega)
  | (some d', _) :: l, j, k + 1, d, x, h, hm => by
    have := mem_mkOf (m := m) (l := l) (j := j + 1) (k := k) (d := d) (x := x) (by simpa using h) (by rw [← hm]; congr 1; omega)
    simp only [mkOf]
    split
    · exact this
    · exact List.mem_cons_of_mem _ this
/-- what the plan says of the operation at a place -/
theorem planGo_at : ∀ {l : List Oper} {prev : List (Option Tmp × Nat)} {k : Nat} {p : PL}, (planGo l prev)[k]? = some p →
    l[k]? = some p.o ∧ ∃ pv, pv = prev ++ ((planGo l prev).take k).map (fun q => (q.o.dst, q.m)) ∧ p.m = maskOf pv (afters p.o) ∧ p.ms = mkOf p.m 0 pv
  | [], prev, k, p, h => by simp [planGo] at h
  | o :: l, prev, 0, p, h => by
    simp only [planGo, List.getElem?_cons_zero, Option.some.injEq] at h
    subst h
    exact ⟨by simp, prev, by simp, rfl, rfl⟩
  | o :: l, prev, k + 1, p, h => by
    simp only [planGo, List.getElem?_cons_succ] at h
    obtain ⟨h1, pv, h2, h3, h4⟩ := planGo_at h
    refine ⟨by simpa using h1, pv, ?_, h3, h4⟩
    rw [h2]
    simp [planGo]
theorem planGo_len : ∀ {l : List Oper} {prev : List (Option Tmp × Nat)}, (planGo l prev).length = l.length
  | [], _ => rfl
  | o :: l, prev => by simp [planGo, planGo_len]
theorem earlier_at : ∀ {l : List Oper} {i k : Nat} {o : Oper}, earlier l i = true → l[k]? = some o → ∀ j ∈ afters o, j < i + k
  | [], i, k, o, h, hk => by simp at hk
  | x :: l, i, 0, o, h, hk => by
    simp only [List.getElem?_cons_zero, Option.some.injEq] at hk
    subst hk
    simp only [earlier, Bool.and_eq_true, List.all_eq_true] at h
    intro j hj
    have := h.1 j hj
    rw [Nat.ble_eq] at this
    omega
  | x :: l, i, k + 1, o, h, hk => by
    simp only [earlier, Bool.and_eq_true] at h
    intro j hj
    have := earlier_at (l := l) (i := i + 1) (k := k) h.2 (by simpa using hk) j hj
    omega
theorem apart_at : ∀ {l : List Oper}, apart l = true → ∀ {i j : Nat} {x y : Oper} {d : Tmp}, l[i]? = some x → l[j]? = some y → x.dst = some d → y.dst = some d → i = j
  | [], h, i, j, x, y, d, hi, hj, hx, hy => by simp at hi
  | o :: l, h, i, j, x, y, d, hi, hj, hx, hy => by
    have htail : apart l = true := by
      simp only [apart] at h
      split at h
      · exact h
      · rw [Bool.and_eq_true] at h; exact h.2
    have hhead : ∀ (k : Nat) (z : Oper), o.dst = some d → l[k]? = some z → z.dst = some d → False := by
      intro k z ho hz hzd
      simp only [apart, ho, Bool.and_eq_true, List.all_eq_true] at h
      have := h.1 z (List.mem_of_getElem? hz)
      rw [hzd] at this
      simp at this
    cases i with
    | zero =>
      simp at hi; subst hi
      cases j with
      | zero => rfl
      | succ j => exact (hhead j y hx (by simpa using hj) hy).elim
    | succ i =>
      cases j with
      | zero =>
        simp at hj; subst hj
        exact (hhead i x hy (by simpa using hi) hx).elim
      | succ j =>
        have := apart_at htail (i := i) (j := j) (by simpa using hi) (by simpa using hj) hx hy
        omega
end Go.Proofs.Ytlajcmoiopaemaa
