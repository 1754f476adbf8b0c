/- A region that draws its order: one pass in the text's order, a look at every other order, and why that is enough. No program in sight. -/
import Derived.Test.YtlajcmoiopaemaaAv11
import Derived.Test.YtlajcmoiopaemaaAv10b
set_option linter.unusedVariables false
set_option linter.unusedSimpArgs false
noncomputable section
namespace Go.Proofs.Ytlajcmoiopaemaa
/-! ### Values that are the same -/
def all2 (f : Value → Value → Bool) : List Value → List Value → Bool
  | [], [] => true
  | a :: l, b :: k => f a b && all2 f l k
  | _, _ => false
def vsame1 (f : Value → Value → Bool) : Value → Value → Bool
  | .bool a, .bool b => a == b
  | .int k a, .int j b => decide (k = j) && a == b
  | .string a, .string b => decide (a = b)
  | .pointer a, .pointer b => decide (a = b)
  | .slice a l c, .slice b l' c' => decide (a = b) && l == l' && c == c'
  | .map a, .map b => decide (a = b)
  | .nilFunc, .nilFunc => true
  | .nilIface, .nilIface => true
  | .agg a, .agg b => all2 f a.toList b.toList
  | .tuple a, .tuple b => all2 f a.toList b.toList
  | _, _ => false
def vsame : Value → Value → Bool := vsame1 (vsame1 (vsame1 (vsame1 (fun _ _ => false))))
theorem all2_eq {f : Value → Value → Bool} (hf : ∀ {a b : Value}, f a b = true → a = b) : ∀ {l k : List Value}, all2 f l k = true → l = k
  | [], [], _ => rfl
  | [], _ :: _, h => by simp [all2] at h
  | _ :: _, [], h => by simp [all2] at h
  | a :: l, b :: k, h => by
    simp only [all2, Bool.and_eq_true] at h
    rw [hf h.1, all2_eq hf h.2]
theorem vsame1_eq {f : Value → Value → Bool} (hf : ∀ {a b : Value}, f a b = true → a = b) : ∀ {a b : Value}, vsame1 f a b = true → a = b := by
  intro a b h
  unfold vsame1 at h
  split at h
  case h_9 x y =>
    have := all2_eq hf h
    cases x; cases y
    simp only at this
    rw [this]
  case h_10 x y =>
    have := all2_eq hf h
    cases x; cases y
    simp only at this
    rw [this]
  all_goals simp_all
theorem vsame_eq : ∀ {a b : Value}, vsame a b = true → a = b := vsame1_eq (vsame1_eq (vsame1_eq (vsame1_eq (fun h => by cases h))))
mutual
def AV.same : AV → AV → Bool
  | .any, .any => true
  | .v a, .v b => vsame a b
  | .ptr a b c, .ptr a' b' c' => Nat.beq a a' && Nat.beq b b' && Nat.beq c c'
  | .cptr l o, .cptr l' o' => AV.sames l l' && Nat.beq o o'
  | .sl a b c d e f, .sl a' b' c' d' e' f' => Nat.beq a a' && Nat.beq b b' && Nat.beq c c' && Nat.beq d d' && Nat.beq e e' && Nat.beq f f'
  | .csl l b c d, .csl l' b' c' d' => AV.sames l l' && Nat.beq b b' && Nat.beq c c' && Nat.beq d d'
  | .esl, .esl => true
  | .map a, .map b => Nat.beq a b
  | .yld a, .yld b => Nat.beq a b
  | .iface t x, .iface t' x' => Nat.beq t t' && AV.same x x'
  | .agg l, .agg l' => AV.sames l l'
  | .tuple l, .tuple l' => AV.sames l l'
  | _, _ => false
def AV.sames : List AV → List AV → Bool
  | [], [] => true
  | x :: l, y :: l' => AV.same x y && AV.sames l l'
  | _, _ => false
end
mutual
theorem AV.same_eq : ∀ (a b : AV), AV.same a b = true → a = b
  | .any, b, h => by cases b <;> simp_all [AV.same]
  | .v a, b, h => by
    cases b <;> simp only [AV.same, reduceCtorEq, Bool.false_eq_true] at h
    rw [vsame_eq h]
  | .ptr _ _ _, b, h => by cases b <;> simp_all [AV.same]
  | .cptr l o, b, h => by
    cases b <;> simp only [AV.same, Bool.and_eq_true, Nat.beq_eq, reduceCtorEq, Bool.false_eq_true] at h
    rw [AV.sames_eq _ _ h.1, h.2]
  | .sl _ _ _ _ _ _, b, h => by cases b <;> simp_all [AV.same]
  | .csl l _ _ _, b, h => by
    cases b <;> simp only [AV.same, Bool.and_eq_true, Nat.beq_eq, reduceCtorEq, Bool.false_eq_true] at h
    rw [AV.sames_eq _ _ h.1.1.1, h.1.1.2, h.1.2, h.2]
  | .esl, b, h => by cases b <;> simp_all [AV.same]
  | .map _, b, h => by cases b <;> simp_all [AV.same]
  | .fn _ _ _, b, h => by cases b <;> simp_all [AV.same]
  | .yld _, b, h => by cases b <;> simp_all [AV.same]
  | .iface t x, b, h => by
    cases b <;> simp only [AV.same, Bool.and_eq_true, Nat.beq_eq, reduceCtorEq, Bool.false_eq_true] at h
    rw [AV.same_eq _ _ h.2, h.1]
  | .agg l, b, h => by
    cases b <;> simp only [AV.same, reduceCtorEq, Bool.false_eq_true] at h
    rw [AV.sames_eq _ _ h]
  | .tuple l, b, h => by
    cases b <;> simp only [AV.same, reduceCtorEq, Bool.false_eq_true] at h
    rw [AV.sames_eq _ _ h]
theorem AV.sames_eq : ∀ (a b : List AV), AV.sames a b = true → a = b
  | [], [], _ => rfl
  | [], _ :: _, h => by simp [AV.sames] at h
  | _ :: _, [], h => by simp [AV.sames] at h
  | x :: l, y :: l', h => by
    simp only [AV.sames, Bool.and_eq_true] at h
    rw [AV.same_eq _ _ h.1, AV.sames_eq _ _ h.2]
end
def AEnt.sames : List AEnt → List AEnt → Bool
  | [], [] => true
  | a :: l, b :: k => vsame a.key b.key && (AV.same a.val b.val && (Nat.beq a.born b.born && AEnt.sames l k))
  | _, _ => false
def AObj.same : AObj → AObj → Bool
  | .dead, .dead => true
  | .cells l g x, .cells k j y => Nat.beq g j && (Nat.beq x y && AV.sames l k)
  | .map l c, .map k d => Nat.beq c d && AEnt.sames l k
  | _, _ => false
theorem AEnt.sames_eq : ∀ {a b : List AEnt}, AEnt.sames a b = true → a = b
  | [], [], _ => rfl
  | [], _ :: _, h => by simp [AEnt.sames] at h
  | _ :: _, [], h => by simp [AEnt.sames] at h
  | ⟨k, v, b⟩ :: l, ⟨k', v', b'⟩ :: l', h => by
    simp only [AEnt.sames, Bool.and_eq_true, Nat.beq_eq] at h
    rw [vsame_eq h.1, AV.same_eq _ _ h.2.1, h.2.2.1, AEnt.sames_eq h.2.2.2]
theorem AObj.same_eq {a b : AObj} (h : AObj.same a b = true) : a = b := by
  unfold AObj.same at h
  split at h
  · rfl
  · simp only [Bool.and_eq_true, Nat.beq_eq] at h
    rw [h.1, h.2.1, AV.sames_eq _ _ h.2.2]
  · simp only [Bool.and_eq_true, Nat.beq_eq] at h
    rw [h.1, AEnt.sames_eq h.2]
  · cases h
/-! ### Blocks that are made at any time: the first f operations; what is not behind one of them is run without it -/
def killM (m n0 : Nat) : Nat → AH → AH
  | 0, H => H
  | f + 1, H => match Nat.testBit m f with
    | true => killM m n0 f H
    | false => killM m n0 f (H.set (n0 + f) .dead)
def reviveM (m n0 : Nat) (A : AH) : Nat → AH → AH
  | 0, H => H
  | f + 1, H => match Nat.testBit m f with
    | true => reviveM m n0 A f H
    | false => reviveM m n0 A f (H.set (n0 + f) (A.get (n0 + f)))
def Loose (m n0 f j : Nat) : Prop := n0 ≤ j ∧ j < n0 + f ∧ m.testBit (j - n0) = false
instance (m n0 f j : Nat) : Decidable (Loose m n0 f j) := by unfold Loose; infer_instance
theorem loose_succ {m n0 f j : Nat} : Loose m n0 (f + 1) j ↔ Loose m n0 f j ∨ (j = n0 + f ∧ m.testBit f = false) := by
  unfold Loose
  constructor
  · rintro ⟨h1, h2, h3⟩
    by_cases e : j = n0 + f
    · subst e; rw [Nat.add_sub_cancel_left] at h3; exact .inr ⟨rfl, h3⟩
    · exact .inl ⟨h1, by omega, h3⟩
  · rintro (⟨h1, h2, h3⟩ | ⟨rfl, h⟩)
    · exact ⟨h1, by omega, h3⟩
    · exact ⟨by omega, by omega, by rw [Nat.add_sub_cancel_left]; exact h⟩
theorem killM_n (m n0 : Nat) : ∀ (f : Nat) (H : AH), (killM m n0 f H).n = H.n
  | 0, H => rfl
  | f + 1, H => by
    simp only [killM]; split
    · exact killM_n m n0 f H
    · rw [killM_n m n0 f]; rfl
theorem reviveM_n (m n0 : Nat) (A : AH) : ∀ (f : Nat) (H : AH), (reviveM m n0 A f H).n = H.n
  | 0, H => rfl
  | f + 1, H => by
    simp only [reviveM]; split
    · exact reviveM_n m n0 A f H
    · rw [reviveM_n m n0 A f]; rfl
theorem killM_get {m n0 : Nat} : ∀ (f : Nat) (H : AH) (j : Nat), (killM m n0 f H).get j = if Loose m n0 f j then .dead else H.get j
  | 0, H, j => by rw [if_neg (by unfold Loose; omega)]; rfl
  | f + 1, H, j => by
    simp only [killM]
    split
    · rename_i hb
      rw [killM_get f H j]
      by_cases h : Loose m n0 f j
      · rw [if_pos h, if_pos (loose_succ.2 (.inl h))]
      · rw [if_neg h, if_neg (fun h2 => by rcases loose_succ.1 h2 with h3 | ⟨_, h3⟩; exact h h3; rw [hb] at h3; cases h3)]
    · rename_i hb
      rw [killM_get f _ j, AH.get_set]
      by_cases h : Loose m n0 f j
      · rw [if_pos h, if_pos (loose_succ.2 (.inl h))]
      · rw [if_neg h]
        by_cases e : j = n0 + f
        · rw [if_pos e, if_pos (loose_succ.2 (.inr ⟨e, hb⟩))]; split <;> rfl
        · rw [if_neg e, if_neg (fun h2 => by rcases loose_succ.1 h2 with h3 | ⟨h3, _⟩; exact h h3; exact e h3)]
theorem reviveM_get {m n0 : Nat} {A : AH} : ∀ (f : Nat) (H : AH) (j : Nat), n0 + f ≤ H.n → (reviveM m n0 A f H).get j = if Loose m n0 f j then A.get j else H.get j
  | 0, H, j, _ => by rw [if_neg (by unfold Loose; omega)]; rfl
  | f + 1, H, j, hn => by
    simp only [reviveM]
    split
    · rename_i hb
      rw [reviveM_get f H j (by omega)]
      by_cases h : Loose m n0 f j
      · rw [if_pos h, if_pos (loose_succ.2 (.inl h))]
      · rw [if_neg h, if_neg (fun h2 => by rcases loose_succ.1 h2 with h3 | ⟨_, h3⟩; exact h h3; rw [hb] at h3; cases h3)]
    · rename_i hb
      rw [reviveM_get f _ j (by rw [AH.set_n]; omega), AH.get_set]
      by_cases h : Loose m n0 f j
      · rw [if_pos h, if_pos (loose_succ.2 (.inl h))]
      · rw [if_neg h]
        by_cases e : j = n0 + f
        · rw [if_pos e, if_pos (by omega), if_pos (loose_succ.2 (.inr ⟨e, hb⟩)), e]
        · rw [if_neg e, if_neg (fun h2 => by rcases loose_succ.1 h2 with h3 | ⟨h3, _⟩; exact h h3; exact e h3)]
structure Flt where
  f : Nat
  n0 : Nat
  b : Nat
def EOne.revive (fl : Flt) (m : Nat) (A : AH) : EOne → EOne
  | .light u => .light u
  | .heavy u H => .heavy u (reviveM m fl.n0 A fl.f H)
  | .boom u H => .boom u H
def evOneK (T : Tab) (cf : CallF) (yf : YldF) (ops : Array Oper) (fl : Flt) (m : Nat) (a : AAct) (o : Oper) (H : AH) : Option EOne := match evOne T cf yf ops a o (killM m fl.n0 fl.f H) with
  | some e => some (e.revive fl m H)
  | none => none
/-- what makes a block of its own, whatever stands in the heap -/
def isFloat (o : Oper) : Bool := match o.op with
  | .alloc _ => o.guard.isNone && o.dst.isSome
  | .makeMap _ none => o.guard.isNone && o.dst.isSome
  | .makeSlice _ _ _ => o.guard.isNone && o.dst.isSome
  | .buildSlice _ _ _ => o.guard.isNone && o.dst.isSome
  | .box _ _ => o.guard.isNone && o.dst.isSome
  | _ => false
def isFl (fl : Flt) (i : Nat) (o : Oper) : Bool := isFloat o && Nat.testBit fl.b i
def bornE (H : AH) (s : Nat) : Option (AV × AObj) → Option EOne
  | some (u, ao) => match AObj.same (H.get s) ao with
    | true => some (.light u)
    | false => none
  | none => none
def evOneF (T : Tab) (cf : CallF) (yf : YldF) (ops : Array Oper) (fl : Flt) (i m : Nat) (a : AAct) (o : Oper) (H : AH) : Option EOne := match Nat.ble (i + 1) fl.f && isFl fl i o with
  | true => bornE H (fl.n0 + i) (aBorn T a.eval (fl.n0 + i) o.op)
  | false => evOneK T cf yf ops fl m a o H
/-! ### The pass -/
structure PRec where
  o : Oper
  m : Nat
  A : AAct
  n : Nat
  V : AH
  res : Option EOne
def PRec.put (ts : HT AV) (r : PRec) : HT AV := match r.res, r.o.dst with
  | some (.light u), some d => ts.upd d u
  | some (.heavy u _), some d => ts.upd d u
  | _, _ => ts
def PRec.isHeavy (r : PRec) : Bool := match r.res with
  | some (.heavy _ _) => true
  | _ => false
def PRec.isBoom (r : PRec) : Bool := match r.res with
  | some (.boom _ _) => true
  | _ => false
def maskT : List Tmp → HT AV → HT AV
  | [], ts => ts
  | d :: l, ts => maskT l (ts.upd d .any)
def stopped (b : Option Nat) (m : Nat) : Bool := match b with
  | some p => Nat.testBit m p
  | none => false
def consP (r : PRec) : Option (List PRec) → Option (List PRec)
  | some rs => some (r :: rs)
  | none => none
def setO (ts : HT AV) (d : Option Tmp) (u : AV) : HT AV := match d with
  | some d => ts.upd d u
  | none => ts
def pass (T : Tab) (cf : CallF) (yf : YldF) (ops : Array Oper) (fl : Flt) (df : List ADef) : List PL → Nat → HT AV → Nat → AH → List Nat → Option Nat → Option (List PRec)
  | [], _, _, _, _, _, _ => some []
  | p :: l, i, ts, n, H, hs, b => match stopped b p.m with
    | true => consP ⟨p.o, p.m, ⟨.e, []⟩, n, H, none⟩ (pass T cf yf ops fl df l (i + 1) ts n H hs b)
    | false => match evOneF T cf yf ops fl i p.m ⟨maskT p.ms ts, df⟩ p.o H with
      | some (.light u) => consP ⟨p.o, p.m, ⟨maskT p.ms ts, df⟩, n, H, some (.light u)⟩ (pass T cf yf ops fl df l (i + 1) (setO ts p.o.dst u) n H hs b)
      | some (.heavy u H') => match hs.all (Nat.testBit p.m) with
        | true => consP ⟨p.o, p.m, ⟨maskT p.ms ts, df⟩, n, H, some (.heavy u H')⟩ (pass T cf yf ops fl df l (i + 1) (setO ts p.o.dst u) (i + 1) H' (i :: hs) b)
        | false => none
      | some (.boom u H') => match hs.all (Nat.testBit p.m), b with
        | true, none => consP ⟨p.o, p.m, ⟨maskT p.ms ts, df⟩, n, H, some (.boom u H')⟩ (pass T cf yf ops fl df l (i + 1) ts n H (i :: hs) (some i))
        | _, _ => none
      | none => none
def tsOf (ts : HT AV) (p : List PRec) : HT AV := p.foldl PRec.put ts
def curOf : AH → List PRec → AH
  | H, [] => H
  | H, r :: p => match r.res with
    | some (.heavy _ H') => curOf H' p
    | _ => curOf H p
def nOf : Nat → Nat → List PRec → Nat
  | _, n, [] => n
  | i, n, r :: p => match r.isHeavy with
    | true => nOf (i + 1) (i + 1) p
    | false => nOf (i + 1) n p
def bOf : Nat → Option Nat → List PRec → Option Nat
  | _, b, [] => b
  | i, b, r :: p => match r.isBoom with
    | true => bOf (i + 1) (some i) p
    | false => bOf (i + 1) b p
structure Fact (T : Tab) (cf : CallF) (yf : YldF) (ops : Array Oper) (fl : Flt) (df : List ADef) (i : Nat) (ts : HT AV) (n : Nat) (H : AH) (hs : List Nat) (b : Option Nat) (mk : List Tmp) (p : List PRec) (x : PRec) : Prop where
  n : x.n = nOf i n p
  V : x.V = curOf H p
  skip : x.res = none → stopped (bOf i b p) x.m = true
  run : ∀ e, x.res = some e → x.A = ⟨maskT mk (tsOf ts p), df⟩ ∧ evOneF T cf yf ops fl (i + p.length) x.m x.A x.o x.V = some e ∧ stopped (bOf i b p) x.m = false
  chain : x.isHeavy = true ∨ x.isBoom = true → (∀ h ∈ hs, x.m.testBit h = true) ∧ ∀ j y, p[j]? = some y → y.isHeavy = true ∨ y.isBoom = true → x.m.testBit (i + j) = true
  boom : x.isBoom = true → bOf i b p = none
theorem consP_some {r : PRec} {o : Option (List PRec)} {rs : List PRec} (h : consP r o = some rs) : ∃ rs', o = some rs' ∧ rs = r :: rs' := by
  unfold consP at h
  split at h <;> simp only [Option.some.injEq, reduceCtorEq] at h
  exact ⟨_, rfl, h.symm⟩
section
variable {T : Tab} {cf : CallF} {yf : YldF} {ops : Array Oper} {fl : Flt} {df : List ADef}
theorem Fact.cons {i : Nat} {ts : HT AV} {n : Nat} {H : AH} {hs : List Nat} {b : Option Nat} {mk : List Tmp} {p : List PRec} {x r : PRec} {ts' : HT AV} {n' : Nat} {H' : AH} {hs' : List Nat} {b' : Option Nat}
    (h : Fact T cf yf ops fl df (i + 1) ts' n' H' hs' b' mk p x) (hts : ts' = r.put ts) (hn : n' = match r.isHeavy with | true => i + 1 | false => n) (hH : H' = match r.res with | some (.heavy _ H') => H' | _ => H)
    (hb : b' = match r.isBoom with | true => some i | false => b) (hhs : hs' = if r.isHeavy = true ∨ r.isBoom = true then i :: hs else hs) : Fact T cf yf ops fl df i ts n H hs b mk (r :: p) x := by
  have en : nOf i n (r :: p) = nOf (i + 1) n' p := by rw [hn]; simp only [nOf]; cases r.isHeavy <;> rfl
  have eb : bOf i b (r :: p) = bOf (i + 1) b' p := by rw [hb]; simp only [bOf]; cases r.isBoom <;> rfl
  have eH : curOf H (r :: p) = curOf H' p := by rw [hH]; simp only [curOf]; split <;> rfl
  have et : tsOf ts (r :: p) = tsOf ts' p := by rw [hts]; rfl
  refine ⟨by rw [en]; exact h.n, by rw [eH]; exact h.V, by rw [eb]; exact h.skip, by rw [eb, et, List.length_cons, show i + (p.length + 1) = i + 1 + p.length by omega]; exact h.run, fun hx => ?_, by rw [eb]; exact h.boom⟩
  obtain ⟨c1, c2⟩ := h.chain hx
  refine ⟨fun k hk => c1 k (by rw [hhs]; split <;> simp [hk]), fun j y hj hy => ?_⟩
  cases j with
  | zero =>
    simp at hj; subst hj
    rw [Nat.add_zero]
    exact c1 i (by rw [hhs, if_pos hy]; simp)
  | succ j =>
    have := c2 j y (by simpa using hj) hy
    rwa [show i + 1 + j = i + (j + 1) by omega] at this
theorem pass_facts : ∀ {l : List PL} {i : Nat} {ts : HT AV} {n : Nat} {H : AH} {hs : List Nat} {b : Option Nat} {rs : List PRec}, pass T cf yf ops fl df l i ts n H hs b = some rs →
    rs.length = l.length ∧ ∀ k p, l[k]? = some p → ∃ x, rs[k]? = some x ∧ x.o = p.o ∧ x.m = p.m ∧ Fact T cf yf ops fl df i ts n H hs b p.ms (rs.take k) x
  | [], i, ts, n, H, hs, b, rs, h => by
    simp only [pass, Option.some.injEq] at h
    subst h
    exact ⟨rfl, fun k p hk => by simp at hk⟩
  | q :: l, i, ts, n, H, hs, b, rs, h => by
    have key : ∀ {r : PRec} {ts' : HT AV} {n' : Nat} {H' : AH} {hs' : List Nat} {b' : Option Nat}, consP r (pass T cf yf ops fl df l (i + 1) ts' n' H' hs' b') = some rs →
        r.o = q.o → r.m = q.m → Fact T cf yf ops fl df i ts n H hs b q.ms [] r → ts' = r.put ts → (n' = match r.isHeavy with | true => i + 1 | false => n) → (H' = match r.res with | some (.heavy _ H') => H' | _ => H) →
        (b' = match r.isBoom with | true => some i | false => b) → (hs' = if r.isHeavy = true ∨ r.isBoom = true then i :: hs else hs) →
        rs.length = (q :: l).length ∧ ∀ k p, (q :: l)[k]? = some p → ∃ x, rs[k]? = some x ∧ x.o = p.o ∧ x.m = p.m ∧ Fact T cf yf ops fl df i ts n H hs b p.ms (rs.take k) x := by
      intro r ts' n' H' hs' b' h ho hm hf e1 e2 e3 e4 e5
      obtain ⟨rs', h1, rfl⟩ := consP_some h
      obtain ⟨hl, ih⟩ := pass_facts h1
      refine ⟨by simp [hl], fun k p hk => ?_⟩
      cases k with
      | zero =>
        simp at hk; subst hk
        exact ⟨r, by simp, ho, hm, by simpa using hf⟩
      | succ k =>
        obtain ⟨x, h1, h2, h3, h4⟩ := ih k p (by simpa using hk)
        exact ⟨x, by simpa using h1, h2, h3, by rw [List.take_succ_cons]; exact h4.cons e1 e2 e3 e4 e5⟩
    simp only [pass] at h
    split at h
    · rename_i hs'
      refine key h rfl rfl ⟨rfl, rfl, fun _ => hs', fun e he => ?_, fun hx => ?_, fun hx => ?_⟩ rfl rfl rfl rfl ?_
      · simp at he
      · simp [PRec.isHeavy, PRec.isBoom] at hx
      · simp [PRec.isBoom] at hx
      · simp [PRec.isHeavy, PRec.isBoom]
    · rename_i hst
      split at h
      · rename_i u he
        refine key h rfl rfl ⟨rfl, rfl, fun hx => (by simp at hx), fun e h' => ?_, fun hx => ?_, fun hx => ?_⟩ ?_ rfl rfl rfl ?_
        · simp only [Option.some.injEq] at h'
          subst h'
          exact ⟨rfl, he, hst⟩
        · simp [PRec.isHeavy, PRec.isBoom] at hx
        · simp [PRec.isBoom] at hx
        · simp only [PRec.put, setO]; cases q.o.dst <;> rfl
        · simp [PRec.isHeavy, PRec.isBoom]
      · rename_i u H' he
        split at h <;> try (cases h; done)
        rename_i hall
        refine key h rfl rfl ⟨rfl, rfl, fun hx => (by simp at hx), fun e h' => ?_, fun hx => ?_, fun hx => ?_⟩ ?_ rfl rfl rfl ?_
        · simp only [Option.some.injEq] at h'
          subst h'
          exact ⟨rfl, he, hst⟩
        · exact ⟨fun k hk => List.all_eq_true.1 hall k hk, fun j y hj => by simp at hj⟩
        · simp [PRec.isBoom] at hx
        · simp only [PRec.put, setO]; cases q.o.dst <;> rfl
        · simp [PRec.isHeavy]
      · rename_i u H' he
        split at h <;> try (cases h; done)
        rename_i hall
        refine key h rfl rfl ⟨rfl, rfl, fun hx => (by simp at hx), fun e h' => ?_, fun hx => ?_, fun hx => rfl⟩ ?_ rfl rfl rfl ?_
        · simp only [Option.some.injEq] at h'
          subst h'
          exact ⟨rfl, he, hst⟩
        · exact ⟨fun k hk => List.all_eq_true.1 hall k hk, fun j y hj => by simp at hj⟩
        · simp only [PRec.put]
        · simp [PRec.isHeavy, PRec.isBoom]
      · cases h
end
/-! ### A look at the other orders -/
def later (m : Nat) : Nat → List PRec → Bool
  | _, [] => false
  | j, r :: rs => (r.isHeavy && Nat.testBit m j) || later m (j + 1) rs
def sameL : Option EOne → Option EOne → Bool
  | some (.light u), some (.light v) => AV.same u v
  | _, _ => false
def chkV (T : Tab) (cf : CallF) (yf : YldF) (ops : Array Oper) (fl : Flt) (x : PRec) (i n : Nat) (V : AH) (rest : List PRec) : Bool :=
  Nat.beq n x.n || later x.m n rest || sameL (evOneF T cf yf ops fl i x.m x.A x.o V) x.res
def chkGo (T : Tab) (cf : CallF) (yf : YldF) (ops : Array Oper) (fl : Flt) (x : PRec) (i : Nat) : Nat → List PRec → Bool
  | _, [] => true
  | j, r :: rs => (match r.res with
    | some (.heavy _ V) => Nat.testBit r.m i || chkV T cf yf ops fl x i (j + 1) V rs
    | _ => true) && chkGo T cf yf ops fl x i (j + 1) rs
def chkAll (T : Tab) (cf : CallF) (yf : YldF) (ops : Array Oper) (fl : Flt) (H : AH) (rs : List PRec) : Nat → List PRec → Bool
  | _, [] => true
  | i, x :: xs => (match x.res with
    | some (.light _) => chkV T cf yf ops fl x i 0 H rs && chkGo T cf yf ops fl x i 0 rs
    | _ => true) && chkAll T cf yf ops fl H rs (i + 1) xs
/-- a state of the heap on the way -/
def Ver (H : AH) (rs : List PRec) (n : Nat) (V : AH) : Prop :=
  (n = 0 ∧ V = H) ∨ ∃ k y u, n = k + 1 ∧ rs[k]? = some y ∧ y.res = some (.heavy u V)
theorem later_at {m : Nat} : ∀ {rs : List PRec} {j : Nat}, later m j rs = true → ∃ k y, rs[k]? = some y ∧ y.isHeavy = true ∧ m.testBit (j + k) = true
  | [], j, h => by simp [later] at h
  | r :: rs, j, h => by
    simp only [later, Bool.or_eq_true, Bool.and_eq_true] at h
    rcases h with h | h
    · exact ⟨0, r, by simp, h.1, h.2⟩
    · obtain ⟨k, y, h1, h2, h3⟩ := later_at h
      exact ⟨k + 1, y, by simpa using h1, h2, by rw [← h3]; congr 1; omega⟩
theorem sameL_eq {a : Option EOne} {u : AV} (h : sameL a (some (.light u)) = true) : a = some (.light u) := by
  unfold sameL at h
  split at h <;> try (cases h; done)
  rename_i u' v hv
  simp only [Option.some.injEq, EOne.light.injEq] at hv
  subst hv
  rw [AV.same_eq _ _ h]
section
variable {T : Tab} {cf : CallF} {yf : YldF} {ops : Array Oper} {fl : Flt}
theorem chkGo_at {x : PRec} {i : Nat} : ∀ {rs : List PRec} {j k : Nat} {y : PRec} {u : AV} {V : AH}, chkGo T cf yf ops fl x i j rs = true → rs[k]? = some y → y.res = some (.heavy u V) →
    y.m.testBit i = true ∨ chkV T cf yf ops fl x i (j + k + 1) V (rs.drop (k + 1)) = true
  | [], j, k, y, u, V, h, hk, hy => by simp at hk
  | r :: rs, j, 0, y, u, V, h, hk, hy => by
    simp at hk; subst hk
    simp only [chkGo, hy, Bool.and_eq_true, Bool.or_eq_true] at h
    simpa using h.1
  | r :: rs, j, k + 1, y, u, V, h, hk, hy => by
    simp only [chkGo, Bool.and_eq_true] at h
    have := chkGo_at h.2 (by simpa using hk) hy
    rw [show j + (k + 1) + 1 = j + 1 + k + 1 by omega]
    simpa using this
theorem chkAll_at {H : AH} {rs : List PRec} : ∀ {xs : List PRec} {i k : Nat} {x : PRec} {u : AV}, chkAll T cf yf ops fl H rs i xs = true → xs[k]? = some x → x.res = some (.light u) →
    chkV T cf yf ops fl x (i + k) 0 H rs = true ∧ chkGo T cf yf ops fl x (i + k) 0 rs = true
  | [], i, k, x, u, h, hk, hx => by simp at hk
  | y :: xs, i, 0, x, u, h, hk, hx => by
    simp at hk; subst hk
    simp only [chkAll, hx, Bool.and_eq_true] at h
    exact h.1
  | y :: xs, i, k + 1, x, u, h, hk, hx => by
    simp only [chkAll, Bool.and_eq_true] at h
    have := chkAll_at h.2 (by simpa using hk) hx
    rw [show i + (k + 1) = i + 1 + k by omega]
    exact this
/-- a light operation comes to the same in whatever state it may be met -/
theorem chk_light {H : AH} {rs : List PRec} (h : chkAll T cf yf ops fl H rs 0 rs = true) {i : Nat} {x : PRec} {u : AV} (hi : rs[i]? = some x) (hx : x.res = some (.light u)) {n : Nat} {V : AH} (hV : Ver H rs n V) :
    n = x.n ∨ (∃ k y, n = k + 1 ∧ rs[k]? = some y ∧ y.isHeavy = true ∧ y.m.testBit i = true) ∨ (∃ j y, n ≤ j ∧ rs[j]? = some y ∧ y.isHeavy = true ∧ x.m.testBit j = true) ∨ evOneF T cf yf ops fl i x.m x.A x.o V = some (.light u) := by
  obtain ⟨h0, h1⟩ := chkAll_at h hi hx
  rw [Nat.zero_add] at h0 h1
  have key : ∀ {rest : List PRec}, (∀ k y, rest[k]? = some y → rs[n + k]? = some y) → chkV T cf yf ops fl x i n V rest = true →
      n = x.n ∨ (∃ j y, n ≤ j ∧ rs[j]? = some y ∧ y.isHeavy = true ∧ x.m.testBit j = true) ∨ evOneF T cf yf ops fl i x.m x.A x.o V = some (.light u) := by
    intro rest hrest hc
    simp only [chkV, Bool.or_eq_true, Nat.beq_eq] at hc
    rcases hc with (hc | hc) | hc
    · exact .inl hc
    · obtain ⟨k, y, k1, k2, k3⟩ := later_at hc
      exact .inr (.inl ⟨n + k, y, by omega, hrest k y k1, k2, k3⟩)
    · rw [hx] at hc
      exact .inr (.inr (sameL_eq hc))
  rcases hV with ⟨rfl, rfl⟩ | ⟨k, y, u', rfl, hy1, hy2⟩
  · rcases key (by simp) h0 with h | h | h
    · exact .inl h
    · exact .inr (.inr (.inl h))
    · exact .inr (.inr (.inr h))
  · have hyh : y.isHeavy = true := by simp [PRec.isHeavy, hy2]
    rcases chkGo_at h1 hy1 hy2 with h | h
    · exact .inr (.inl ⟨k, y, rfl, hy1, hyh, h⟩)
    · rw [Nat.zero_add] at h
      rcases key (fun k' y' hk' => by rw [List.getElem?_drop] at hk'; exact hk') h with h | h | h
      · exact .inl h
      · exact .inr (.inr (.inl h))
      · exact .inr (.inr (.inr h))
end
end Go.Proofs.Ytlajcmoiopaemaa
