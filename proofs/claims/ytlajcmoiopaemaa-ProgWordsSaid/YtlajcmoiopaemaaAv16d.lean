/- Regions that draw their order, in a shape that the kernel runs fast; it is the same. No program in sight. -/
import Derived.Test.YtlajcmoiopaemaaAv16
set_option linter.unusedVariables false
set_option linter.unusedSimpArgs false
noncomputable section
namespace Go.Proofs.Ytlajcmoiopaemaa
def memR (t : Nat) (l : List Nat) : Bool := @List.rec Nat (fun _ => Bool) false (fun d _ ih => @Bool.rec (fun _ => Bool) ih true (Nat.beq t d)) l
theorem memR_iff {t : Nat} : ∀ {l : List Nat}, memR t l = true ↔ t ∈ l
  | [] => by simp [memR]
  | d :: l => by
    show @Bool.rec (fun _ => Bool) (memR t l) true (Nat.beq t d) = true ↔ _
    cases h : Nat.beq t d with
    | true => rw [Nat.beq_eq] at h; subst h; simp
    | false =>
      have : t ≠ d := by rintro rfl; simp at h
      simp only [List.mem_cons, this, false_or]
      exact memR_iff
def maskO (b : Bool) (o : Option AV) : Option AV := @Option.rec AV (fun _ => Option AV) none (fun u => some (@Bool.rec (fun _ => AV) u .any b)) o
theorem maskT_get2 : ∀ {l : List Tmp} {ts : HT AV} {t : Nat}, (maskT l ts).get t = maskO (memR t l) (ts.get t)
  | [], ts, t => by show ts.get t = maskO false (ts.get t); cases ts.get t <;> rfl
  | d :: l, ts, t => by
    simp only [maskT]
    rw [maskT_get2, HT.get_upd]
    show _ = maskO (@Bool.rec (fun _ => Bool) (memR t l) true (Nat.beq t d)) (ts.get t)
    by_cases h : t = d
    · subst h
      have hb : Nat.beq t t = true := by rw [Nat.beq_eq]
      rw [if_pos rfl, hb]
      cases ts.get t with
      | none => rfl
      | some u => cases memR t l <;> rfl
    · have hb : Nat.beq t d = false := by
        rw [Bool.eq_false_iff]; intro e; rw [Nat.beq_eq] at e; exact h e
      rw [if_neg h, hb]
def orO (o : Option AV) : AV := @Option.rec AV (fun _ => AV) (.v undef) (fun u => u) o
def evalM (ms : List Tmp) (ts : HT AV) : Operand → AV := @Operand.rec (fun _ => AV) (fun t => orO (maskO (memR t ms) (ts.get t))) (fun v => .v v) (fun g => .v (.pointer (some ⟨g, 0, none⟩))) (fun f => .fn (.func f) [] [])
theorem evalM_eq (ms : List Tmp) (ts : HT AV) (df : List ADef) : (⟨maskT ms ts, df⟩ : AAct).eval = evalM ms ts := by
  funext x
  cases x with
  | tmp t => show (maskT ms ts).or t = _; unfold HT.or; rw [maskT_get2]; rfl
  | const v => rfl
  | global g => rfl
  | func f => rfl
def nthR (l : List Oper) : Nat → Option Oper := @List.rec Oper (fun _ => Nat → Option Oper) (fun _ => none) (fun o _ ih j => @Nat.rec (fun _ => Option Oper) (some o) (fun k _ => ih k) j) l
theorem nthR_eq : ∀ (l : List Oper) (j : Nat), nthR l j = l[j]?
  | [], j => by simp [nthR]
  | o :: l, 0 => rfl
  | o :: l, j + 1 => by show nthR l j = _; rw [nthR_eq l j]; simp
def boolO (w : Bool) (v : Value) : Option Bool := @Value.casesOn (fun _ => Option Bool) v (fun b => some (@Bool.rec (fun _ => Bool) (@Bool.rec (fun _ => Bool) true false b) b w)) (fun _ _ => some false) (fun _ _ => some false) (fun _ _ _ => some false) (fun _ => some false) (fun _ => some false) (fun _ _ _ => some false) (fun _ => some false) (fun _ => some false) (fun _ _ _ => some false) (some false) (fun _ _ => some false) (some false) (fun _ => some false) (fun _ => some false)
def wantV (w : Bool) (o : Option AV) : Option Bool := @Option.rec AV (fun _ => Option Bool) none (fun u => vF none (boolO w) u) o
def wantD (w : Bool) (get : Nat → Option AV) (d : Option Tmp) : Option Bool := @Option.rec Tmp (fun _ => Option Bool) (some false) (fun d => wantV w (get d)) d
def wantJ (l : List Oper) (get : Nat → Option AV) (j : Nat) (w : Bool) : Option Bool := @Option.rec Oper (fun _ => Option Bool) (some false) (fun o => wantD w get o.dst) (nthR l j)
def wantF (l : List Oper) (get : Nat → Option AV) (g : Option (Nat × Bool)) : Option Bool := @Option.rec (Nat × Bool) (fun _ => Option Bool) (some true) (fun p => wantJ l get p.1 p.2) g
theorem wantF_eq (ops : Array Oper) (a : AAct) (o : Oper) : wantF ops.toList a.tmps.get o.guard = awant ops a o := by
  unfold awant
  cases hg : o.guard with
  | none => rfl
  | some p =>
    obtain ⟨j, w⟩ := p
    show wantJ ops.toList a.tmps.get j w = _
    unfold wantJ
    rw [nthR_eq, Array.getElem?_toList]
    cases hops : ops[j]? with
    | none => simp only [hops, Option.bind_none]
    | some o' =>
      show wantD w a.tmps.get o'.dst = _
      simp only [hops, Option.bind_some]
      cases hd : o'.dst with
      | none => simp only [hd]; rfl
      | some d =>
        show wantV w (a.tmps.get d) = _
        cases hg2 : a.tmps.get d with
        | none => simp only [hd, hg2]; rfl
        | some u =>
          simp only [hd, hg2]
          cases u <;> try rfl
          rename_i v
          cases v <;> try rfl
          rename_i b
          show some (@Bool.rec (fun _ => Bool) (@Bool.rec (fun _ => Bool) true false b) b w) = some (b == w)
          cases b <;> cases w <;> rfl
/-! ### one operation -/
abbrev EO := Option EOne
def resE (r : FRes) : EO := @Option.rec (AEnd × AH) (fun _ => EO) none (fun p => @AEnd.rec (fun _ => EO) (fun u => some (.heavy u p.2)) (fun u => some (.boom u p.2)) p.1) r
def arE (cf : CallF) (yf : YldF) (o : Oper) (H : AH) (r : AR) : EO := @AR.rec (fun _ => EO) (fun u => @Bool.rec (fun _ => EO) (some (.heavy u H)) (some (.light u)) (isLight o.op)) (some (.heavy (.v undef) H)) (fun _ => none) (fun f args => resE (cf f args H)) (fun f args => resE (yf f args H)) (fun u => some (.boom u H)) none r
def runE (T : Tab) (cf : CallF) (yf : YldF) (ρ : Operand → AV) (o : Oper) (H : AH) : EO := @Option.rec (AR × AH) (fun _ => EO) none (fun p => arE cf yf o p.2 p.1) (aopTab o.op T ρ o H)
def evOneM (T : Tab) (cf : CallF) (yf : YldF) (ops : List Oper) (ms : List Tmp) (ts : HT AV) (o : Oper) (H : AH) : EO := @Option.rec Bool (fun _ => EO) none (fun b => @Bool.rec (fun _ => EO) (some (.light (.v undef))) (runE T cf yf (evalM ms ts) o H) b) (wantF ops (fun t => maskO (memR t ms) (ts.get t)) o.guard)
theorem evOneM_eq (T : Tab) (cf : CallF) (yf : YldF) (ops : Array Oper) (ms : List Tmp) (ts : HT AV) (df : List ADef) (o : Oper) (H : AH) : evOneM T cf yf ops.toList ms ts o H = evOne T cf yf ops ⟨maskT ms ts, df⟩ o H := by
  unfold evOneM evOne
  have hw : wantF ops.toList (fun t => maskO (memR t ms) (ts.get t)) o.guard = awant ops ⟨maskT ms ts, df⟩ o := by
    rw [← wantF_eq]
    congr 1
    funext t
    exact maskT_get2.symm
  rw [hw]
  cases awant ops ⟨maskT ms ts, df⟩ o with
  | none => rfl
  | some b =>
    cases b with
    | false => rfl
    | true =>
      show runE T cf yf (evalM ms ts) o H = _
      unfold runE
      rw [aopTab_eq, evalM_eq]
      cases aop T (evalM ms ts) o H with
      | none => rfl
      | some p =>
        obtain ⟨x, H1⟩ := p
        cases x with
        | val u => show @Bool.rec (fun _ => EO) _ _ (isLight o.op) = _; simp only; cases isLight o.op <;> rfl
        | call f args =>
          show resE (cf f args H1) = _
          cases hc : cf f args H1 with
          | none => simp only [hc]; rfl
          | some q => obtain ⟨e, H2⟩ := q; cases e <;> simp only [hc] <;> rfl
        | yield f args =>
          show resE (yf f args H1) = _
          cases hc : yf f args H1 with
          | none => simp only [hc]; rfl
          | some q => obtain ⟨e, H2⟩ := q; cases e <;> simp only [hc] <;> rfl
        | _ => rfl
def revE (fl : Flt) (m : Nat) (A : AH) (r : EO) : EO := @Option.rec EOne (fun _ => EO) none (fun e => some (e.revive fl m A)) r
def kfE (T : Tab) (cf : CallF) (yf : YldF) (ops : List Oper) (fl : Flt) (m : Nat) (ms : List Tmp) (ts : HT AV) (o : Oper) (H : AH) (b : Bool) : EO := @Bool.rec (fun _ => EO) (revE fl m H (evOneM T cf yf ops ms ts o (killM m fl.n0 fl.f H))) (evOneM T cf yf ops ms ts o H) b
theorem EOne.revive_zero {fl : Flt} (h : fl.f = 0) (m : Nat) (A : AH) (e : EOne) : e.revive fl m A = e := by
  cases e <;> simp [EOne.revive, h, reviveM]
theorem kfE_eq (T : Tab) (cf : CallF) (yf : YldF) (ops : Array Oper) (fl : Flt) (m : Nat) (ms : List Tmp) (ts : HT AV) (df : List ADef) (o : Oper) (H : AH) : kfE T cf yf ops.toList fl m ms ts o H (Nat.beq fl.f 0) = evOneK T cf yf ops fl m ⟨maskT ms ts, df⟩ o H := by
  unfold evOneK
  cases hb : Nat.beq fl.f 0 with
  | true =>
    rw [Nat.beq_eq] at hb
    show evOneM T cf yf ops.toList ms ts o H = _
    rw [evOneM_eq T cf yf ops ms ts df, hb]
    simp only [killM]
    cases evOne T cf yf ops ⟨maskT ms ts, df⟩ o H with
    | none => rfl
    | some e => simp only [EOne.revive_zero hb]
  | false =>
    show revE fl m H (evOneM T cf yf ops.toList ms ts o (killM m fl.n0 fl.f H)) = _
    rw [evOneM_eq T cf yf ops ms ts df]
    cases evOne T cf yf ops ⟨maskT ms ts, df⟩ o (killM m fl.n0 fl.f H) with
    | none => rfl
    | some e => rfl
theorem eval_df (ts : HT AV) (a b : List ADef) : AAct.eval ⟨ts, a⟩ = AAct.eval ⟨ts, b⟩ := by funext x; cases x <;> rfl
def evOneX (T : Tab) (cf : CallF) (yf : YldF) (ops : List Oper) (fl : Flt) (i m : Nat) (ms : List Tmp) (ts : HT AV) (o : Oper) (H : AH) : EO := @Bool.rec (fun _ => EO) (kfE T cf yf ops fl m ms ts o H (Nat.beq fl.f 0)) (bornE H (fl.n0 + i) (aBorn T (AAct.eval ⟨maskT ms ts, []⟩) (fl.n0 + i) o.op)) (@Bool.rec (fun _ => Bool) false (isFl fl i o) (Nat.ble (Nat.succ i) fl.f))
theorem evOneX_eq (T : Tab) (cf : CallF) (yf : YldF) (ops : Array Oper) (fl : Flt) (i m : Nat) (ms : List Tmp) (ts : HT AV) (df : List ADef) (o : Oper) (H : AH) : evOneX T cf yf ops.toList fl i m ms ts o H = evOneF T cf yf ops fl i m ⟨maskT ms ts, df⟩ o H := by
  unfold evOneX evOneF
  show @Bool.rec (fun _ => EO) _ _ (@Bool.rec (fun _ => Bool) false (isFl fl i o) (Nat.ble (i + 1) fl.f)) = _
  cases Nat.ble (i + 1) fl.f with
  | true =>
    show @Bool.rec (fun _ => EO) _ _ (isFl fl i o) = _
    simp only [Bool.true_and]
    cases isFl fl i o with
    | true => simp only; rw [eval_df _ [] df]
    | false => exact kfE_eq T cf yf ops fl m ms ts df o H
  | false => exact kfE_eq T cf yf ops fl m ms ts df o H
/-! ### the pass -/
structure PX where
  o : Oper
  m : Nat
  ms : List Tmp
  ts : HT AV
  n : Nat
  V : AH
  res : EO
  stop : Bool
def PX.rec' (df : List ADef) (x : PX) : PRec := ⟨x.o, x.m, @Bool.rec (fun _ => AAct) ⟨maskT x.ms x.ts, df⟩ ⟨.e, []⟩ x.stop, x.n, x.V, x.res⟩
abbrev PF := Option (List PX × HT AV)
abbrev PK := Nat → HT AV → Nat → AH → List Nat → Option Nat → PF
def consX (x : PX) (r : PF) : PF := @Option.rec (List PX × HT AV) (fun _ => PF) none (fun p => some (x :: p.1, p.2)) r
def setOF (ts : HT AV) (d : Option Tmp) (u : AV) : HT AV := @Option.rec Tmp (fun _ => HT AV) ts (fun d => ts.upd d u) d
def allR (m : Nat) (hs : List Nat) : Bool := @List.rec Nat (fun _ => Bool) true (fun j _ ih => @Bool.rec (fun _ => Bool) false ih (Nat.testBit m j)) hs
theorem allR_eq (m : Nat) : ∀ (hs : List Nat), allR m hs = hs.all (Nat.testBit m)
  | [] => rfl
  | j :: hs => by
    show @Bool.rec (fun _ => Bool) false (allR m hs) (Nat.testBit m j) = _
    rw [allR_eq m hs, List.all_cons]
    cases Nat.testBit m j <;> rfl
def stopF (b : Option Nat) (m : Nat) : Bool := @Option.rec Nat (fun _ => Bool) false (fun p => Nat.testBit m p) b
def boomF (ih : PK) (p : PL) (i : Nat) (ts : HT AV) (n : Nat) (H : AH) (hs : List Nat) (u : AV) (H' : AH) (b : Option Nat) : PF := @Option.rec Nat (fun _ => PF) (@Bool.rec (fun _ => PF) none (consX ⟨p.o, p.m, p.ms, ts, n, H, some (.boom u H'), false⟩ (ih (Nat.succ i) ts n H (i :: hs) (some i))) (allR p.m hs)) (fun _ => none) b
def oneF (ih : PK) (p : PL) (i : Nat) (ts : HT AV) (n : Nat) (H : AH) (hs : List Nat) (b : Option Nat) (e : EOne) : PF := @EOne.rec (fun _ => PF) (fun u => consX ⟨p.o, p.m, p.ms, ts, n, H, some (.light u), false⟩ (ih (Nat.succ i) (setOF ts p.o.dst u) n H hs b))
  (fun u H' => @Bool.rec (fun _ => PF) none (consX ⟨p.o, p.m, p.ms, ts, n, H, some (.heavy u H'), false⟩ (ih (Nat.succ i) (setOF ts p.o.dst u) (Nat.succ i) H' (i :: hs) b)) (allR p.m hs))
  (fun u H' => boomF ih p i ts n H hs u H' b) e
def resF (ih : PK) (p : PL) (i : Nat) (ts : HT AV) (n : Nat) (H : AH) (hs : List Nat) (b : Option Nat) (r : EO) : PF := @Option.rec EOne (fun _ => PF) none (oneF ih p i ts n H hs b) r
def stepP (T : Tab) (cf : CallF) (yf : YldF) (ops : List Oper) (fl : Flt) (p : PL) (ih : PK) : PK := fun i ts n H hs b => @Bool.rec (fun _ => PF) (resF ih p i ts n H hs b (evOneX T cf yf ops fl i p.m p.ms ts p.o H)) (consX ⟨p.o, p.m, p.ms, ts, n, H, none, true⟩ (ih (Nat.succ i) ts n H hs b)) (stopF b p.m)
def passX (T : Tab) (cf : CallF) (yf : YldF) (ops : List Oper) (fl : Flt) (l : List PL) : PK := @List.rec PL (fun _ => PK) (fun _ ts _ _ _ _ => some ([], ts)) (fun p _ ih => stepP T cf yf ops fl p ih) l
theorem stopF_eq (b : Option Nat) (m : Nat) : stopF b m = stopped b m := by cases b <;> rfl
theorem setOF_eq (ts : HT AV) (d : Option Tmp) (u : AV) : setOF ts d u = setO ts d u := by cases d <;> rfl
/-- what the two passes have in common -/
def Same2 (df : List ADef) (ts : HT AV) : PF → Option (List PRec) → Prop
  | none, none => True
  | some (l, t), some rs => rs = l.map (PX.rec' df) ∧ t = tsOf ts rs
  | _, _ => False
theorem Same2.cons {df : List ADef} {ts ts' : HT AV} {x : PX} {r : PF} {q : Option (List PRec)} (h : Same2 df ts' r q) (ht : ts' = (x.rec' df).put ts) : Same2 df ts (consX x r) (consP (x.rec' df) q) := by
  cases r with
  | none => cases q with
    | none => trivial
    | some _ => exact h.elim
  | some p =>
    obtain ⟨l, t⟩ := p
    cases q with
    | none => exact h.elim
    | some rs =>
      obtain ⟨h1, h2⟩ := h
      refine ⟨by simp [h1], ?_⟩
      rw [h2, ht]; rfl
theorem passX_eq (T : Tab) (cf : CallF) (yf : YldF) (ops : Array Oper) (fl : Flt) (df : List ADef) : ∀ (l : List PL) (i : Nat) (ts : HT AV) (n : Nat) (H : AH) (hs : List Nat) (b : Option Nat),
    Same2 df ts (passX T cf yf ops.toList fl l i ts n H hs b) (pass T cf yf ops fl df l i ts n H hs b)
  | [], i, ts, n, H, hs, b => ⟨rfl, rfl⟩
  | p :: l, i, ts, n, H, hs, b => by
    show Same2 df ts (stepP T cf yf ops.toList fl p (passX T cf yf ops.toList fl l) i ts n H hs b) _
    unfold stepP
    simp only [pass]
    rw [stopF_eq]
    cases stopped b p.m with
    | true => exact Same2.cons (x := ⟨p.o, p.m, p.ms, ts, n, H, none, true⟩) (passX_eq T cf yf ops fl df l (i + 1) ts n H hs b) rfl
    | false =>
      show Same2 df ts (resF _ p i ts n H hs b (evOneX T cf yf ops.toList fl i p.m p.ms ts p.o H)) _
      rw [evOneX_eq T cf yf ops fl i p.m p.ms ts df p.o H]
      cases evOneF T cf yf ops fl i p.m ⟨maskT p.ms ts, df⟩ p.o H with
      | none => trivial
      | some e =>
        cases e with
        | light u =>
          show Same2 df ts (consX ⟨p.o, p.m, p.ms, ts, n, H, some (.light u), false⟩ (passX T cf yf ops.toList fl l (i + 1) (setOF ts p.o.dst u) n H hs b)) _
          rw [setOF_eq]
          refine Same2.cons (x := ⟨p.o, p.m, p.ms, ts, n, H, some (.light u), false⟩) (passX_eq T cf yf ops fl df l (i + 1) (setO ts p.o.dst u) n H hs b) ?_
          simp only [PX.rec', PRec.put, setO]
          cases p.o.dst <;> rfl
        | heavy u H' =>
          show Same2 df ts (@Bool.rec (fun _ => PF) none _ (allR p.m hs)) _
          rw [allR_eq]
          simp only
          cases hs.all (Nat.testBit p.m) with
          | false => trivial
          | true =>
            show Same2 df ts (consX ⟨p.o, p.m, p.ms, ts, n, H, some (.heavy u H'), false⟩ (passX T cf yf ops.toList fl l (i + 1) (setOF ts p.o.dst u) (i + 1) H' (i :: hs) b)) _
            rw [setOF_eq]
            refine Same2.cons (x := ⟨p.o, p.m, p.ms, ts, n, H, some (.heavy u H'), false⟩) (passX_eq T cf yf ops fl df l (i + 1) (setO ts p.o.dst u) (i + 1) H' (i :: hs) b) ?_
            simp only [PX.rec', PRec.put, setO]
            cases p.o.dst <;> rfl
        | boom u H' =>
          show Same2 df ts (boomF _ p i ts n H hs u H' b) _
          unfold boomF
          cases b with
          | some k => simp only; cases hs.all (Nat.testBit p.m) <;> trivial
          | none =>
            show Same2 df ts (@Bool.rec (fun _ => PF) none _ (allR p.m hs)) _
            rw [allR_eq]
            simp only
            cases hs.all (Nat.testBit p.m) with
            | false => trivial
            | true => exact Same2.cons (x := ⟨p.o, p.m, p.ms, ts, n, H, some (.boom u H'), false⟩) (passX_eq T cf yf ops fl df l (i + 1) ts n H (i :: hs) (some i)) rfl
/-! ### the look at the other orders: the heavy ones alone, with their places -/
structure HV where
  j : Nat
  m : Nat
  V : AH
def hvE (i m : Nat) (e : EOne) (l : List HV) : List HV := @EOne.rec (fun _ => List HV) (fun _ => l) (fun _ V => ⟨i, m, V⟩ :: l) (fun _ _ => l) e
def hvO (i m : Nat) (r : EO) (l : List HV) : List HV := @Option.rec EOne (fun _ => List HV) l (fun e => hvE i m e l) r
def hvs (l : List PX) : Nat → List HV := @List.rec PX (fun _ => Nat → List HV) (fun _ => []) (fun x _ ih i => hvO i x.m x.res (ih (Nat.succ i))) l
def laterF (m : Nat) (hl : List HV) : Bool := @List.rec HV (fun _ => Bool) false (fun h _ ih => @Bool.rec (fun _ => Bool) ih true (Nat.testBit m h.j)) hl
def sameX (a : EO) (r : EO) : Bool := sameL a r
def chkX (T : Tab) (cf : CallF) (yf : YldF) (ops : List Oper) (fl : Flt) (x : PX) (i n : Nat) (V : AH) (hl : List HV) : Bool := @Bool.rec (fun _ => Bool) (@Bool.rec (fun _ => Bool) (sameL (evOneX T cf yf ops fl i x.m x.ms x.ts x.o V) x.res) true (laterF x.m hl)) true (Nat.beq n x.n)
def andF (a b : Bool) : Bool := @Bool.rec (fun _ => Bool) false b a
def orF (a b : Bool) : Bool := @Bool.rec (fun _ => Bool) b true a
def chkH (T : Tab) (cf : CallF) (yf : YldF) (ops : List Oper) (fl : Flt) (x : PX) (i : Nat) (hl : List HV) : Bool := @List.rec HV (fun _ => Bool) true (fun h t ih => andF (orF (Nat.testBit h.m i) (chkX T cf yf ops fl x i (Nat.succ h.j) h.V t)) ih) hl
def chkE (T : Tab) (cf : CallF) (yf : YldF) (ops : List Oper) (fl : Flt) (H : AH) (hl : List HV) (x : PX) (i : Nat) (e : EOne) : Bool := @EOne.rec (fun _ => Bool) (fun _ => andF (chkX T cf yf ops fl x i 0 H hl) (chkH T cf yf ops fl x i hl)) (fun _ _ => true) (fun _ _ => true) e
def chkO (T : Tab) (cf : CallF) (yf : YldF) (ops : List Oper) (fl : Flt) (H : AH) (hl : List HV) (x : PX) (i : Nat) (r : EO) : Bool := @Option.rec EOne (fun _ => Bool) true (chkE T cf yf ops fl H hl x i) r
def chkAllX (T : Tab) (cf : CallF) (yf : YldF) (ops : List Oper) (fl : Flt) (H : AH) (hl : List HV) (l : List PX) : Nat → Bool := @List.rec PX (fun _ => Nat → Bool) (fun _ => true) (fun x _ ih i => andF (chkO T cf yf ops fl H hl x i x.res) (ih (Nat.succ i))) l
theorem orF_eq (a b : Bool) : orF a b = (a || b) := by cases a <;> rfl
theorem andF_eq (a b : Bool) : andF a b = (a && b) := by cases a <;> rfl
theorem laterF_eq (df : List ADef) (m : Nat) : ∀ (l : List PX) (j : Nat), laterF m (hvs l j) = later m j (l.map (PX.rec' df))
  | [], j => rfl
  | x :: l, j => by
    have ih := laterF_eq df m l (j + 1)
    show laterF m (hvO j x.m x.res (hvs l (j + 1))) = ((PRec.isHeavy (x.rec' df) && Nat.testBit m j) || later m (j + 1) (l.map (PX.rec' df)))
    rw [← ih]
    have hr : (x.rec' df).res = x.res := rfl
    unfold PRec.isHeavy
    rw [hr]
    cases x.res with
    | none => rfl
    | some e =>
      cases e with
      | light u => rfl
      | boom u V => rfl
      | heavy u V =>
        show @Bool.rec (fun _ => Bool) _ true (Nat.testBit m j) = _
        cases Nat.testBit m j <;> rfl
theorem chkX_eq (T : Tab) (cf : CallF) (yf : YldF) (ops : Array Oper) (fl : Flt) (df : List ADef) {x : PX} (hx : x.stop = false) (i n : Nat) (V : AH) (l : List PX) (j : Nat) (hj : j = n) : chkX T cf yf ops.toList fl x i n V (hvs l j) = chkV T cf yf ops fl (x.rec' df) i n V (l.map (PX.rec' df)) := by
  subst hj
  unfold chkX chkV
  rw [laterF_eq df]
  have hA : (x.rec' df).A = ⟨maskT x.ms x.ts, df⟩ := by unfold PX.rec'; rw [hx]
  rw [hA, ← evOneX_eq]
  show @Bool.rec (fun _ => Bool) _ true (Nat.beq j x.n) = (Nat.beq j x.n || later x.m j (l.map (PX.rec' df)) || sameL _ x.res)
  cases Nat.beq j x.n with
  | true => rfl
  | false =>
    show @Bool.rec (fun _ => Bool) _ true (later x.m j (l.map (PX.rec' df))) = (later x.m j (l.map (PX.rec' df)) || _)
    cases later x.m j (l.map (PX.rec' df)) <;> rfl
theorem chkH_eq (T : Tab) (cf : CallF) (yf : YldF) (ops : Array Oper) (fl : Flt) (df : List ADef) {x : PX} (hx : x.stop = false) (i : Nat) : ∀ (l : List PX) (j : Nat), chkH T cf yf ops.toList fl x i (hvs l j) = chkGo T cf yf ops fl (x.rec' df) i j (l.map (PX.rec' df))
  | [], j => rfl
  | y :: l, j => by
    have ih := chkH_eq T cf yf ops fl df hx i l (j + 1)
    show chkH T cf yf ops.toList fl x i (hvO j y.m y.res (hvs l (j + 1))) = _
    simp only [List.map_cons, chkGo]
    rw [← ih]
    have hr : (y.rec' df).res = y.res := rfl
    have hm : (y.rec' df).m = y.m := rfl
    rw [hr, hm]
    cases y.res with
    | none => simp only [Bool.true_and]; rfl
    | some e =>
      cases e with
      | light u => simp only [Bool.true_and]; rfl
      | boom u V => simp only [Bool.true_and]; rfl
      | heavy u V =>
        show andF (orF (Nat.testBit y.m i) (chkX T cf yf ops.toList fl x i (j + 1) V (hvs l (j + 1)))) (chkH T cf yf ops.toList fl x i (hvs l (j + 1))) = _
        rw [andF_eq, orF_eq, chkX_eq T cf yf ops fl df hx i (j + 1) V l (j + 1) rfl]
theorem chkAllX_eq (T : Tab) (cf : CallF) (yf : YldF) (ops : Array Oper) (fl : Flt) (df : List ADef) (H : AH) (all : List PX) : ∀ (l : List PX) (i : Nat), (∀ x ∈ l, x.res ≠ none → x.stop = false) → chkAllX T cf yf ops.toList fl H (hvs all 0) l i = chkAll T cf yf ops fl H (all.map (PX.rec' df)) i (l.map (PX.rec' df))
  | [], i, _ => rfl
  | x :: l, i, hs => by
    have ih := chkAllX_eq T cf yf ops fl df H all l (i + 1) (fun y hy => hs y (by simp [hy]))
    show andF (chkO T cf yf ops.toList fl H (hvs all 0) x i x.res) (chkAllX T cf yf ops.toList fl H (hvs all 0) l (i + 1)) = _
    rw [andF_eq, ih]
    simp only [List.map_cons, chkAll]
    have hr : (x.rec' df).res = x.res := rfl
    rw [hr]
    congr 1
    cases hres : x.res with
    | none => rfl
    | some e =>
      have hx := hs x (by simp) (by rw [hres]; simp)
      cases e with
      | light u =>
        show andF (chkX T cf yf ops.toList fl x i 0 H (hvs all 0)) (chkH T cf yf ops.toList fl x i (hvs all 0)) = _
        rw [andF_eq, chkX_eq T cf yf ops fl df hx i 0 H all 0 rfl, chkH_eq T cf yf ops fl df hx]
      | heavy u V => rfl
      | boom u V => rfl
theorem consX_some {x : PX} {r : PF} {l : List PX} {t : HT AV} (h : consX x r = some (l, t)) : ∃ l', r = some (l', t) ∧ l = x :: l' := by
  cases r with
  | none => cases h
  | some p =>
    obtain ⟨l', t'⟩ := p
    have h : some (x :: l', t') = some (l, t) := h
    simp only [Option.some.injEq, Prod.mk.injEq] at h
    exact ⟨l', by rw [h.2], h.1.symm⟩
theorem passX_stop {T : Tab} {cf : CallF} {yf : YldF} {ops : List Oper} {fl : Flt} : ∀ {l : List PL} {i : Nat} {ts : HT AV} {n : Nat} {H : AH} {hs : List Nat} {b : Option Nat} {rs : List PX} {t : HT AV}, passX T cf yf ops fl l i ts n H hs b = some (rs, t) → ∀ x ∈ rs, x.res ≠ none → x.stop = false
  | [], i, ts, n, H, hs, b, rs, t, h => by
    have h : some (([] : List PX), ts) = some (rs, t) := h
    simp only [Option.some.injEq, Prod.mk.injEq] at h
    obtain ⟨rfl, _⟩ := h
    intro x hx; cases hx
  | p :: l, i, ts, n, H, hs, b, rs, t, h => by
    have h : stepP T cf yf ops fl p (passX T cf yf ops fl l) i ts n H hs b = some (rs, t) := h
    have key : ∀ {y : PX} {i' : Nat} {ts' : HT AV} {n' : Nat} {H' : AH} {hs' : List Nat} {b' : Option Nat}, consX y (passX T cf yf ops fl l i' ts' n' H' hs' b') = some (rs, t) → (y.res ≠ none → y.stop = false) → ∀ x ∈ rs, x.res ≠ none → x.stop = false := by
      intro y i' ts' n' H' hs' b' h hy x hx
      obtain ⟨l', h1, rfl⟩ := consX_some h
      rcases List.mem_cons.1 hx with rfl | hx
      · exact hy
      · exact passX_stop h1 x hx
    unfold stepP at h
    cases hst : stopF b p.m with
    | true =>
      rw [hst] at h
      exact key h (fun h => absurd rfl h)
    | false =>
      rw [hst] at h
      have h : resF (passX T cf yf ops fl l) p i ts n H hs b (evOneX T cf yf ops fl i p.m p.ms ts p.o H) = some (rs, t) := h
      cases he : evOneX T cf yf ops fl i p.m p.ms ts p.o H with
      | none => rw [he] at h; cases h
      | some e =>
        rw [he] at h
        cases e with
        | light u => exact key h (fun _ => rfl)
        | heavy u H' =>
          have h : @Bool.rec (fun _ => PF) none (consX ⟨p.o, p.m, p.ms, ts, n, H, some (.heavy u H'), false⟩ (passX T cf yf ops fl l (i + 1) (setOF ts p.o.dst u) (i + 1) H' (i :: hs) b)) (allR p.m hs) = some (rs, t) := h
          cases hall : allR p.m hs with
          | false => rw [hall] at h; cases h
          | true => rw [hall] at h; exact key h (fun _ => rfl)
        | boom u H' =>
          have h : boomF (passX T cf yf ops fl l) p i ts n H hs u H' b = some (rs, t) := h
          unfold boomF at h
          cases b with
          | some k => cases h
          | none =>
            have h : @Bool.rec (fun _ => PF) none (consX ⟨p.o, p.m, p.ms, ts, n, H, some (.boom u H'), false⟩ (passX T cf yf ops fl l (i + 1) ts n H (i :: hs) (some i))) (allR p.m hs) = some (rs, t) := h
            cases hall : allR p.m hs with
            | false => rw [hall] at h; cases h
            | true => rw [hall] at h; exact key h (fun _ => rfl)
/-! ### the end -/
abbrev BO := Option (AV × AH)
def boomE (e : EOne) (r : BO) : BO := @EOne.rec (fun _ => BO) (fun _ => r) (fun _ _ => r) (fun u H => some (u, H)) e
def boomO (r : EO) (k : BO) : BO := @Option.rec EOne (fun _ => BO) k (fun e => boomE e k) r
def findX (l : List PX) : BO := @List.rec PX (fun _ => BO) none (fun x _ ih => boomO x.res ih) l
def curE (e : EOne) (H : AH) : AH := @EOne.rec (fun _ => AH) (fun _ => H) (fun _ H' => H') (fun _ _ => H) e
def curO (r : EO) (H : AH) : AH := @Option.rec EOne (fun _ => AH) H (fun e => curE e H) r
def curX (l : List PX) : AH → AH := @List.rec PX (fun _ => AH → AH) (fun H => H) (fun x _ ih H => ih (curO x.res H)) l
def dstPX (d : Option Tmp) (l : List Tmp) : List Tmp := @Option.rec Tmp (fun _ => List Tmp) l (fun d => d :: l) d
def dstsPX (l : List PX) : List Tmp := @List.rec PX (fun _ => List Tmp) [] (fun x _ ih => dstPX x.o.dst ih) l
theorem dstsPX_eq (df : List ADef) : ∀ (l : List PX), dstsPX l = dstsP (l.map (PX.rec' df))
  | [] => rfl
  | x :: l => by
    show dstPX x.o.dst (dstsPX l) = _
    rw [dstsPX_eq df l]
    simp only [List.map_cons, dstsP]
    have ho : (x.rec' df).o = x.o := rfl
    rw [ho]
    cases x.o.dst <;> rfl
def endX (ts : HT AV) (df : List ADef) (H : AH) (l : List PX) (t : HT AV) : CR := @Option.rec (AV × AH) (fun _ => CR) (some (.normal, ⟨t, df⟩, curX l H)) (fun p => some (.panic p.1, ⟨maskT (dstsPX l) ts, df⟩, p.2)) (findX l)
theorem findX_eq (df : List ADef) : ∀ (l : List PX), findX l = findBoom (l.map (PX.rec' df))
  | [] => rfl
  | x :: l => by
    show boomO x.res (findX l) = _
    rw [findX_eq df l]
    simp only [List.map_cons, findBoom]
    have hr : (x.rec' df).res = x.res := rfl
    rw [hr]
    cases x.res with
    | none => rfl
    | some e => cases e <;> rfl
theorem curX_eq (df : List ADef) : ∀ (l : List PX) (H : AH), curX l H = curOf H (l.map (PX.rec' df))
  | [], H => rfl
  | x :: l, H => by
    show curX l (curO x.res H) = _
    rw [curX_eq df l]
    simp only [List.map_cons, curOf]
    have hr : (x.rec' df).res = x.res := rfl
    rw [hr]
    cases x.res with
    | none => rfl
    | some e => cases e <;> rfl
def goX (T : Tab) (cf : CallF) (yf : YldF) (ops : List Oper) (fl : Flt) (ts : HT AV) (df : List ADef) (H : AH) (p : List PX × HT AV) : CR := @Bool.rec (fun _ => CR) none (endX ts df H p.1 p.2) (chkAllX T cf yf ops fl H (hvs p.1 0) p.1 0)
def drawGoX (T : Tab) (cf : CallF) (yf : YldF) (ops : List Oper) (fl : Flt) (ts : HT AV) (df : List ADef) (H : AH) (r : PF) : CR := @Option.rec (List PX × HT AV) (fun _ => CR) none (goX T cf yf ops fl ts df H) r
theorem drawGoX_eq (T : Tab) (cf : CallF) (yf : YldF) (ops : Array Oper) (fl : Flt) (ts : HT AV) (df : List ADef) (H : AH) (l : List PL) : drawGoX T cf yf ops.toList fl ts df H (passX T cf yf ops.toList fl l 0 ts 0 H [] none) = evDrawGo T cf yf ops fl ts df H (pass T cf yf ops fl df l 0 ts 0 H [] none) := by
  have h := passX_eq T cf yf ops fl df l 0 ts 0 H [] none
  cases hx : passX T cf yf ops.toList fl l 0 ts 0 H [] none with
  | none =>
    rw [hx] at h
    cases hp : pass T cf yf ops fl df l 0 ts 0 H [] none with
    | none => rfl
    | some rs => rw [hp] at h; exact h.elim
  | some p =>
    obtain ⟨xs, t⟩ := p
    rw [hx] at h
    cases hp : pass T cf yf ops fl df l 0 ts 0 H [] none with
    | none => rw [hp] at h; exact h.elim
    | some rs =>
      rw [hp] at h
      obtain ⟨rfl, rfl⟩ := h
      show @Bool.rec (fun _ => CR) none (endX ts df H xs _) (chkAllX T cf yf ops.toList fl H (hvs xs 0) xs 0) = _
      rw [chkAllX_eq T cf yf ops fl df H xs xs 0 (passX_stop hx)]
      simp only [evDrawGo]
      cases chkAll T cf yf ops fl H (xs.map (PX.rec' df)) 0 (xs.map (PX.rec' df)) with
      | false => rfl
      | true =>
        show endX ts df H xs _ = _
        unfold endX drawEnd
        rw [findX_eq df, curX_eq df, dstsPX_eq df]
        cases findBoom (xs.map (PX.rec' df)) with
        | none => rfl
        | some q => rfl
def drawBX (T : Tab) (cf : CallF) (yf : YldF) (ops : List Oper) (fl : Flt) (a : AAct) (Hf : AH) : CR := drawGoX T cf yf ops fl (maskT (dstsM (planGo ops []) 0) a.tmps) a.defers Hf (passX T cf yf ops fl (planGo ops []) 0 (maskT (dstsM (planGo ops []) 0) a.tmps) 0 Hf [] none)
def drawFX (T : Tab) (cf : CallF) (yf : YldF) (ops : List Oper) (f : Nat) (a : AAct) (H : AH) (b : Bool) : CR := @Bool.rec (fun _ => CR) (drawBX T cf yf ops ⟨f, H.n, toldOf T ops a H ops⟩ a (births T ops a H (toldOf T ops a H ops) f 0 ops H)) (drawBX T cf yf ops ⟨0, H.n, toldOf T ops a H ops⟩ a H) b
def draw1X (T : Tab) (cf : CallF) (yf : YldF) (ops : List Oper) (n f : Nat) (a : AAct) (H : AH) : CR := @Bool.rec (fun _ => CR) none (drawFX T cf yf ops f a H (Nat.beq f 0)) (planOk ops && Nat.ble f n)
theorem draw1X_eq (T : Tab) (cf : CallF) (yf : YldF) (ops : Array Oper) (f : Nat) (a : AAct) (H : AH) : draw1X T cf yf ops.toList ops.size f a H = evDraw1 T cf yf ops f a H := by
  unfold draw1X evDraw1
  cases planOk ops.toList && Nat.ble f ops.size with
  | false => rfl
  | true =>
    show drawFX T cf yf ops.toList f a H (Nat.beq f 0) = evDrawB T cf yf ops ⟨f, H.n, toldOf T ops.toList a H ops.toList⟩ a (births T ops.toList a H (toldOf T ops.toList a H ops.toList) f 0 ops.toList H)
    cases hf : Nat.beq f 0 with
    | true =>
      rw [Nat.beq_eq] at hf
      subst hf
      exact drawGoX_eq T cf yf ops ⟨0, H.n, _⟩ _ a.defers _ _
    | false => exact drawGoX_eq T cf yf ops ⟨f, H.n, _⟩ _ a.defers _ _
def permX (p : List Nat) (ops : List Oper) : List Oper := permL p ops p
def drawPX (T : Tab) (cf : CallF) (yf : YldF) (ops : Array Oper) (p : List Nat) (a : AAct) (H : AH) : CR := @Bool.rec (fun _ => CR) none (draw1X T cf yf (permX p ops.toList) (permX p ops.toList).length (floatsOf (permX p ops.toList)) a H) (permOk p ops.size)
def evDrawX (T : Tab) (cf : CallF) (yf : YldF) (r : Option Nat) (ops : Array Oper) (a : AAct) (H : AH) : CR := @Bool.rec (fun _ => CR) (draw1X T cf yf ops.toList ops.size (floatsOf ops.toList) a H) (drawPX T cf yf ops (orderOf ops.toList) a H) (needPerm ops.toList)
theorem evDrawX_eq (T : Tab) : evDrawX T = evDraw T := by
  funext cf yf r ops a H
  unfold evDrawX evDraw
  cases needPerm ops.toList with
  | false => exact draw1X_eq T cf yf ops _ a H
  | true =>
    show drawPX T cf yf ops (orderOf ops.toList) a H = evDrawP T cf yf ops (orderOf ops.toList) a H
    unfold drawPX evDrawP
    cases permOk (orderOf ops.toList) ops.size with
    | false => rfl
    | true => exact draw1X_eq T cf yf (perm (orderOf ops.toList) ops) _ a H
end Go.Proofs.Ytlajcmoiopaemaa
