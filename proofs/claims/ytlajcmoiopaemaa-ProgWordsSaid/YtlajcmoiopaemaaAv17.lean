/- The evaluator in a shape that the kernel runs fast, and that it is the same. No program in sight. -/
import Derived.Test.YtlajcmoiopaemaaAv16d
set_option linter.unusedVariables false
set_option linter.unusedSimpArgs false
noncomputable section
namespace Go.Proofs.Ytlajcmoiopaemaa
def evalF (ts : HT AV) : Operand → AV := @Operand.rec (fun _ => AV) (fun t => ts.or t) (fun v => .v v) (fun g => .v (.pointer (some ⟨g, 0, none⟩))) (fun f => .fn (.func f) [] [])
theorem evalF_eq (a : AAct) : a.eval = evalF a.tmps := by funext x; cases x <;> rfl
def putTab : Option Tmp → HT AV → AV → HT AV := @Option.rec Tmp (fun _ => HT AV → AV → HT AV) (fun t _ => t) (fun d t u => t.upd d u)
def putF (a : AAct) (d : Option Tmp) (u : AV) : AAct := ⟨putTab d a.tmps u, a.defers⟩
theorem putF_eq (a : AAct) (d : Option Tmp) (u : AV) : a.put d u = putF a d u := by cases d <;> rfl
abbrev KO := AAct → AH → CR
/-- what a call has come to -/
abbrev EndT := KO → Oper → AAct → AH → CR
def endTab : AEnd → EndT := @AEnd.rec (fun _ => EndT) (fun u ih o a H => ih (putF a o.dst u) H) (fun u _ _ a H => some (.panic u, a, H))
abbrev ResT := KO → Oper → AAct → CR
def resTab : FRes → ResT := @Option.rec (AEnd × AH) (fun _ => ResT) (fun _ _ _ => none) (fun p ih o a => endTab p.1 ih o a p.2)
abbrev ArT := CallF → YldF → Option Nat → KO → Oper → AAct → AH → CR
abbrev DefT := ADef → KO → Oper → AAct → AH → CR
def defTab : Option Nat → DefT := @Option.rec Nat (fun _ => DefT) (fun d ih o a H => ih (putF ⟨a.tmps, d :: a.defers⟩ o.dst (.v undef)) H) (fun _ _ _ _ _ _ => none)
def ar_val : AV → ArT := fun u _ _ _ ih o a H => ih (putF a o.dst u) H
def ar_skip : ArT := fun _ _ _ ih o a H => ih (putF a o.dst (.v undef)) H
def ar_defer : ADef → ArT := fun d _ _ r ih o a H => defTab r d ih o a H
def ar_call : FuncId → List AV → ArT := fun f args cf _ _ ih o a H => resTab (cf f args H) ih o a
def ar_yield : Nat → List AV → ArT := fun f args _ yf _ ih o a H => resTab (yf f args H) ih o a
def ar_panic : AV → ArT := fun u _ _ _ _ _ a H => some (.panic u, a, H)
def arTab : AR → ArT := @AR.rec (fun _ => ArT) ar_val ar_skip ar_defer ar_call ar_yield ar_panic (fun _ _ _ _ _ _ _ => none)
abbrev OaT := CallF → YldF → Option Nat → KO → Oper → AAct → CR
def oaTab : OA → OaT := @Option.rec (AR × AH) (fun _ => OaT) (fun _ _ _ _ _ _ => none) (fun p cf yf r ih o a => arTab p.1 cf yf r ih o a p.2)
def runO (T : Tab) (cf : CallF) (yf : YldF) (r : Option Nat) (ih : KO) (o : Oper) (a : AAct) (H : AH) : CR := oaTab (aopTab o.op T (evalF a.tmps) o H) cf yf r ih o a
def wantO (T : Tab) (cf : CallF) (yf : YldF) (r : Option Nat) (ih : KO) (o : Oper) (a : AAct) (H : AH) (b : Bool) : CR := @Bool.rec (fun _ => CR) (ih (putF a o.dst (.v undef)) H) (runO T cf yf r ih o a H) b
def wantsO (T : Tab) (cf : CallF) (yf : YldF) (r : Option Nat) (ih : KO) (o : Oper) (a : AAct) (H : AH) (b : Option Bool) : CR := @Option.rec Bool (fun _ => CR) none (wantO T cf yf r ih o a H) b
abbrev GuT := Tab → CallF → YldF → Option Nat → Array Oper → KO → Oper → AAct → AH → CR
def guTab : Option (Nat × Bool) → GuT := @Option.rec (Nat × Bool) (fun _ => GuT) (fun T cf yf r _ ih o a H => runO T cf yf r ih o a H) (fun _ T cf yf r ops ih o a H => wantsO T cf yf r ih o a H (awant ops a o))
def evOpsF (T : Tab) (cf : CallF) (yf : YldF) (r : Option Nat) (ops : Array Oper) : List Oper → KO := @List.rec Oper (fun _ => KO) (fun a H => some (.normal, a, H)) (fun o _ ih a H => guTab o.guard T cf yf r ops ih o a H)
theorem awant_none {ops : Array Oper} {a : AAct} {o : Oper} (h : o.guard = none) : awant ops a o = some true := by unfold awant; rw [h]
theorem evOpsF_eq (T : Tab) (cf : CallF) (yf : YldF) (r : Option Nat) (ops : Array Oper) : ∀ (l : List Oper) (a : AAct) (H : AH), evOpsF T cf yf r ops l a H = evOps T cf yf r ops l a H := by
  intro l
  induction l with
  | nil => intro a H; rfl
  | cons o l ih =>
    intro a H
    show guTab o.guard T cf yf r ops (evOpsF T cf yf r ops l) o a H = _
    have hih : evOpsF T cf yf r ops l = evOps T cf yf r ops l := by funext a H; exact ih a H
    rw [hih]
    have run : awant ops a o = some true → runO T cf yf r (evOps T cf yf r ops l) o a H = evOps T cf yf r ops (o :: l) a H := by
      intro hw
      simp only [evOps, hw]
      unfold runO
      rw [aopTab_eq, evalF_eq]
      cases aop T (evalF a.tmps) o H with
      | none => rfl
      | some p =>
        obtain ⟨x, H1⟩ := p
        cases x with
        | val u => simp only [putF_eq]; rfl
        | skip => simp only [putF_eq]; rfl
        | defer d => cases r <;> simp only [putF_eq] <;> rfl
        | call f args =>
          show resTab (cf f args H1) _ o a = _
          cases hc : cf f args H1 with
          | none => simp only [hc]; rfl
          | some q =>
            obtain ⟨e, H2⟩ := q
            cases e <;> simp only [hc, putF_eq] <;> rfl
        | yield f args =>
          show resTab (yf f args H1) _ o a = _
          cases hc : yf f args H1 with
          | none => simp only [hc]; rfl
          | some q =>
            obtain ⟨e, H2⟩ := q
            cases e <;> simp only [hc, putF_eq] <;> rfl
        | panic u => rfl
        | recov => rfl
    cases hg : o.guard with
    | none => exact run (awant_none hg)
    | some p =>
      show wantsO T cf yf r _ o a H (awant ops a o) = _
      cases hw : awant ops a o with
      | none => simp only [evOps, hw]; rfl
      | some b =>
        cases b with
        | true => exact run hw
        | false => simp only [evOps, hw, putF_eq]; rfl
/-! ### code -/
abbrev CodeT := Tab → DrawF → Ev → Option Nat → AAct → AH → CR
def exitF (d : CR) (n : CR) (e : Nat → CR) : AExit → CR := @AExit.rec (fun _ => CR) n e (fun _ => d) d (fun _ => d)
def thenP (e : Ev) (r : Option Nat) (y : Code) (p : AExit × AAct × AH) : CR := exitF (some p) (e.C r y p.2.1 p.2.2) (fun _ => some p) p.1
def thenF (e : Ev) (r : Option Nat) (y : Code) (x : CR) : CR := @Option.rec (AExit × AAct × AH) (fun _ => CR) none (thenP e r y) x
def blockE (id : Nat) (p : AExit × AAct × AH) (j : Nat) : CR := @Bool.rec (fun _ => CR) (some p) (some (.normal, p.2.1, p.2.2)) (Nat.beq j id)
def blockP (id : Nat) (p : AExit × AAct × AH) : CR := exitF (some p) (some p) (blockE id p) p.1
def blockF (id : Nat) (x : CR) : CR := @Option.rec (AExit × AAct × AH) (fun _ => CR) none (blockP id) x
def condF (e : Ev) (r : Option Nat) (x y : Code) (a : AAct) (H : AH) (u : AV) : CR := vF none (boolVF none (e.C r y a H) (e.C r x a H)) u
def regionF (T : Tab) (dr : DrawF) (e : Ev) (r : Option Nat) (ops : Array Oper) (a : AAct) (H : AH) (d : Bool) : CR := @Bool.rec (fun _ => CR) (evOpsF T e.F e.Y r ops ops.toList a H) (dr e.F e.Y r ops a H) d
def c_region : Nat → Array Oper → Bool → CodeT := fun _ ops d T dr e r a H => regionF T dr e r ops a H d
def c_seq : Code → Code → CodeT → CodeT → CodeT := fun x y _ _ T dr e r a H => thenF e r y (e.C r x a H)
def c_cond : Operand → Code → Code → CodeT → CodeT → CodeT := fun t x y _ _ T dr e r a H => condF e r x y a H (evalF a.tmps t)
def c_block : Nat → Code → CodeT → CodeT := fun id x _ T dr e r a H => blockF id (e.C r x a H)
def loopMF (T : Tab) (e : Ev) (r : Option Nat) (x : Code) (a : AAct) (H : AH) (o : Option MSh) : CR := @Option.rec MSh (fun _ => CR) (thenF e r (.loop x) (e.C r x a H)) (fun sh => loopM T e r x a H (some sh)) o
def c_loop : Code → CodeT → CodeT := fun x _ T dr e r a H => loopMF T e r x a H (mapSh x)
def c_range : Operand → Array Tmp → Code → Code → CodeT → CodeT → CodeT := fun f ps asg body _ _ T dr e r a H => rangeC T e r f ps asg body a H
def c_scope : Code → CodeT → CodeT := fun x _ _ _ e r a H => scopeC (e.C r x a H)
def codeTab : Code → CodeT := @Code.rec (fun _ => CodeT) (fun _ _ _ _ a H => some (.normal, a, H)) c_region c_seq c_cond c_block c_loop c_range (fun id _ _ _ _ a H => some (.exit id, a, H)) c_scope (fun _ _ _ _ _ a H => some (.normal, a, H)) (fun l _ _ _ _ a H => some (.goto l, a, H)) (fun _ _ _ _ a H => some (.ret, a, H)) (fun _ _ _ _ _ _ _ => none)
theorem thenF_eq (e : Ev) (r : Option Nat) (y : Code) (x : CR) : thenF e r y x = thenC e r y x := by
  cases x with
  | none => rfl
  | some p => obtain ⟨x, a, H⟩ := p; cases x <;> rfl
theorem blockF_eq (id : Nat) (x : CR) : blockF id x = blockC id x := by
  cases x with
  | none => rfl
  | some p =>
    obtain ⟨x, a, H⟩ := p
    cases x <;> try rfl
    rename_i j
    show @Bool.rec (fun _ => CR) _ _ (Nat.beq j id) = _
    simp only [blockC]
    cases Nat.beq j id <;> rfl
theorem condF_eq (e : Ev) (r : Option Nat) (x y : Code) (a : AAct) (H : AH) (u : AV) : condF e r x y a H u = condC e r x y a H u := by
  cases u <;> try rfl
  rename_i v
  cases v <;> try rfl
  rename_i b
  cases b <;> rfl
theorem codeTab_eq (T : Tab) (dr : DrawF) (e : Ev) (r : Option Nat) (c : Code) (a : AAct) (H : AH) : codeTab c T dr e r a H = stepC T dr e r c a H := by
  cases c <;> try rfl
  case region id ops d => cases d with
    | true => rfl
    | false => exact evOpsF_eq _ _ _ _ _ _ _ _
  case seq x y => exact thenF_eq _ _ _ _
  case block id x => exact blockF_eq _ _
  case loop x =>
    show loopMF T e r x a H (mapSh x) = loopM T e r x a H (mapSh x)
    cases mapSh x with
    | none => exact thenF_eq _ _ _ _
    | some sh => rfl
  case cond t x y =>
    show condF e r x y a H (evalF a.tmps t) = condC e r x y a H (a.eval t)
    rw [evalF_eq]; exact condF_eq _ _ _ _ _ _ _
def leaveP (e : Ev) (fn : Func) (p : AExit × AAct × AH) : FRes := @AExit.rec (fun _ => FRes) (e.L fn p.2.1.tmps p.2.1.defers .returning p.2.2) (fun _ => none) (fun _ => none) (e.L fn p.2.1.tmps p.2.1.defers .returning p.2.2) (fun u => e.L fn p.2.1.tmps p.2.1.defers (.panicking u) p.2.2) p.1
def leaveFF (e : Ev) (fn : Func) (x : CR) : FRes := @Option.rec (AExit × AAct × AH) (fun _ => FRes) none (leaveP e fn) x
theorem leaveFF_eq (e : Ev) (fn : Func) (x : CR) : leaveFF e fn x = leaveF e fn x := by
  cases x with
  | none => rfl
  | some p => obtain ⟨x, a, H⟩ := p; cases x <;> rfl
def enterB (e : Ev) (fn : Func) (args : List AV) (H : AH) (c : Code) : FRes := @Bool.rec (fun _ => FRes) none (leaveFF e fn (e.C none c (frame fn args) H)) (frameOk fn args)
def enterFF (e : Ev) (args : List AV) (H : AH) (fn : Func) : FRes := @Option.rec Code (fun _ => FRes) none (enterB e fn args H) fn.body
def bodyFF (T : Tab) (e : Ev) (f : FuncId) (args : List AV) (H : AH) : FRes := @Option.rec Func (fun _ => FRes) none (enterFF e args H) (T.fn.get f)
def stepFF (T : Tab) (C : CallF) (e : Ev) (f : FuncId) (args : List AV) (H : AH) : FRes := @Option.rec (AEnd × AH) (fun _ => FRes) (bodyFF T e f args H) (fun r => some r) (C f args H)
theorem stepFF_eq (T : Tab) (C : CallF) (e : Ev) (f : FuncId) (args : List AV) (H : AH) : stepFF T C e f args H = stepF T C e f args H := by
  unfold stepF stepFF
  cases C f args H with
  | some r => rfl
  | none =>
    show bodyFF T e f args H = bodyF T e f args H
    unfold bodyF bodyFF
    cases T.fn.get f with
    | none => rfl
    | some fn =>
      show enterFF e args H fn = enterF e fn args H fn.body
      unfold enterFF
      cases fn.body with
      | none => rfl
      | some c =>
        show enterB e fn args H c = _
        unfold enterB enterF
        simp only [leaveFF_eq]
        cases frameOk fn args <;> rfl
def evF (T : Tab) (C : CallF) (dr : DrawF) (n : Nat) : Ev :=
  @Nat.rec (fun _ => Ev) Ev.none (fun _ e => ⟨stepFF T C e, stepL T e, stepD T e, fun r c a H => codeTab c T dr e r a H, stepY e⟩) n
theorem evF_eq (T : Tab) (C : CallF) (dr : DrawF) : ∀ n, evF T C dr n = evN T C dr n
  | 0 => rfl
  | n + 1 => by
    have ih := evF_eq T C dr n
    show (⟨stepFF T C (evF T C dr n), stepL T (evF T C dr n), stepD T (evF T C dr n), fun r c a H => codeTab c T dr (evF T C dr n) r a H, stepY (evF T C dr n)⟩ : Ev) = ⟨stepF T C (evN T C dr n), stepL T (evN T C dr n), stepD T (evN T C dr n), stepC T dr (evN T C dr n), stepY (evN T C dr n)⟩
    rw [ih]
    congr 1
    · funext f args H; exact stepFF_eq _ _ _ _ _ _
    · funext r c a H; exact codeTab_eq _ _ _ _ _ _ _
end Go.Proofs.Ytlajcmoiopaemaa
