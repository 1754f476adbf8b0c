/- The evaluator: code, calls, rounds, deferred calls, with a bound. -/
import Derived.Test.YtlajcmoiopaemaaAv10
import Derived.Test.YtlajcmoiopaemaaAv11c
set_option linter.unusedVariables false
set_option linter.unusedSimpArgs false
noncomputable section
namespace Go.Proofs.Ytlajcmoiopaemaa
inductive AMode where
  | returning
  | panicking (u : AV)
  | recovered
def aRes (T : Tab) (tmps : HT AV) (H : AH) : List ResultVar → Option (List AV)
  | [] => some []
  | .tmp t :: r => match aRes T tmps H r with
    | some l => some (tmps.or t :: l)
    | none => none
  | .cell a t :: r => match aLoad T t (tmps.or a) H, aRes T tmps H r with
    | some u, some l => some (u :: l)
    | _, _ => none
def aResults (T : Tab) (fn : Func) (tmps : HT AV) (H : AH) : Option AV := match aRes T tmps H fn.results.toList with
  | some [u] => some u
  | some l => some (.tuple l)
  | none => none
def settleA : AMode → AMode
  | .recovered => .returning
  | m => m
abbrev CR := Option (AExit × AAct × AH)
abbrev FRes := Option (AEnd × AH)
/-- operations in the text's order, where recover may be called -/
def evOpsS (T : Tab) (ops : Array Oper) : List Oper → AAct → AMode → AH → Option (AExit × AAct × AMode × AH)
  | [], a, m, H => some (.normal, a, m, H)
  | o :: rest, a, m, H => match awant ops a o with
    | some true => match aop T a.eval o H with
      | some (.val u, H') => evOpsS T ops rest (a.put o.dst u) m H'
      | some (.skip, H') => evOpsS T ops rest (a.put o.dst (.v undef)) m H'
      | some (.recov, H') => match m with
        | .panicking u => evOpsS T ops rest (a.put o.dst u) .recovered H'
        | m => evOpsS T ops rest (a.put o.dst (.v .nilIface)) m H'
      | _ => none
    | some false => evOpsS T ops rest (a.put o.dst (.v undef)) m H
    | none => none
abbrev DrawF := CallF → YldF → Option Nat → Array Oper → AAct → AH → CR
/-- what there is at a bound -/
structure Ev where
  F : CallF
  L : Func → HT AV → List ADef → AMode → AH → FRes
  D : FuncId → List AV → AMode → AH → Option (AMode × AH)
  C : Option Nat → Code → AAct → AH → CR
  Y : YldF
def Ev.none : Ev := ⟨fun _ _ _ => .none, fun _ _ _ _ _ => .none, fun _ _ _ _ => .none, fun _ _ _ _ => .none, fun _ _ _ => .none⟩
def lenR (l : List AV) : Nat := @List.rec AV (fun _ => Nat) 0 (fun _ _ ih => Nat.succ ih) l
theorem lenR_eq (l : List AV) : lenR l = l.length := by induction l with | nil => rfl | cons _ _ ih => simp [lenR] at ih ⊢; exact ih
def frame (fn : Func) (args : List AV) : AAct := { tmps := HT.setAll args 0 (HT.full (.v undef) fn.ntmps), defers := [] }
def frameOk (fn : Func) (args : List AV) : Bool := Nat.ble (lenR args) fn.ntmps
def leaveF (e : Ev) (fn : Func) : CR → FRes
  | some (.normal, a, H') => e.L fn a.tmps a.defers .returning H'
  | some (.ret, a, H') => e.L fn a.tmps a.defers .returning H'
  | some (.panic u, a, H') => e.L fn a.tmps a.defers (.panicking u) H'
  | _ => .none
def enterF (e : Ev) (fn : Func) (args : List AV) (H : AH) : Option Code → FRes
  | some c => match frameOk fn args with
    | true => leaveF e fn (e.C .none c (frame fn args) H)
    | false => .none
  | .none => .none
def bodyF (T : Tab) (e : Ev) (f : FuncId) (args : List AV) (H : AH) : FRes := match T.fn.get f with
  | some fn => enterF e fn args H fn.body
  | .none => .none
def stepF (T : Tab) (C : CallF) (e : Ev) (f : FuncId) (args : List AV) (H : AH) : FRes := match C f args H with
  | some r => some r
  | .none => bodyF T e f args H
def endL (T : Tab) (fn : Func) (tmps : HT AV) (H : AH) : AMode → FRes
  | .returning => match aResults T fn tmps H with
    | some u => some (.ret u, H)
    | .none => .none
  | .panicking u => some (.panic u, H)
  | .recovered => .none
def stepL (T : Tab) (e : Ev) (fn : Func) (tmps : HT AV) (ds : List ADef) (m : AMode) (H : AH) : FRes := match ds with
  | [] => endL T fn tmps H m
  | .mark id :: ds => match H.get id with
    | .deferred [] => e.L fn tmps ds m (H.set id .dead)
    | _ => .none
  | .call (.func g) caps args :: ds => match e.D g (args ++ caps) m H with
    | some (m', H') => e.L fn tmps ds (settleA m') H'
    | .none => .none
  | _ => .none
def endD (T : Tab) (fn : Func) (m' : AMode) : CR → Option (AMode × AH)
  | some (.normal, a, H2) => match a.defers, aResults T fn a.tmps H2 with
    | [], some _ => some (m', H2)
    | _, _ => .none
  | some (.ret, a, H2) => match a.defers, aResults T fn a.tmps H2 with
    | [], some _ => some (m', H2)
    | _, _ => .none
  | _ => .none
def bodyD (T : Tab) (e : Ev) (fn : Func) (args : List AV) (m : AMode) (H : AH) : Option Code → Option (AMode × AH)
  | some (.seq (.region id ops false) rest) => match frameOk fn args, evOpsS T ops ops.toList (frame fn args) m H with
    | true, some (.normal, a, m', H') => endD T fn m' (e.C .none rest a H')
    | _, _ => .none
  | _ => .none
def stepD (T : Tab) (e : Ev) (g : FuncId) (args : List AV) (m : AMode) (H : AH) : Option (AMode × AH) := match T.fn.get g with
  | some fn => bodyD T e fn args m H fn.body
  | .none => .none
def thenC (e : Ev) (r : Option Nat) (y : Code) : CR → CR
  | some (.normal, a, H) => e.C r y a H
  | x => x
def blockC (id : Nat) : CR → CR
  | some (.exit j, a, H) => match Nat.beq j id with
    | true => some (.normal, a, H)
    | false => some (.exit j, a, H)
  | x => x
def condC (e : Ev) (r : Option Nat) (x y : Code) (a : AAct) (H : AH) : AV → CR
  | .v (.bool true) => e.C r x a H
  | .v (.bool false) => e.C r y a H
  | _ => .none
def rangeEnd (e : Ev) (r : Option Nat) (a : AAct) (l : Nat) : FRes → CR
  | some (.ret _, H2) => match H2.get l with
    | .loop lp => match lp.state with
      | .busy => .none
      | _ => match lp.pending with
        | .none => some (.normal, a, H2.set l (.loop { lp with state := .exhausted }))
        | some c' => e.C r c' a (H2.set l (.loop { lp with state := .exhausted }))
    | _ => .none
  | some (.panic u, H2) => some (.panic u, a, H2)
  | .none => .none
def rangeGo (T : Tab) (e : Ev) (r : Option Nat) (ps : Array Tmp) (asg body : Code) (a : AAct) (d : Nat) (mark : List ADef) (H1 : AH) : AV → CR
  | .fn (.func g) first caps => match callOk T g with
    | true => rangeEnd e r { a with defers := mark ++ a.defers } H1.n (e.F g (first ++ [.yld H1.n] ++ caps) (H1.push (.loop { state := .ready, pending := .none, tmps := a.tmps, params := ps, assign := asg, body := body, defers := d })))
    | false => .none
  | _ => .none
def rangeC (T : Tab) (e : Ev) (r : Option Nat) (f : Operand) (ps : Array Tmp) (asg body : Code) (a : AAct) (H : AH) : CR := match r with
  | .none => rangeGo T e r ps asg body a H.n [.mark H.n] (H.push (.deferred [])) (a.eval f).norm
  | some l0 => match H.get l0 with
    | .loop lp => rangeGo T e r ps asg body a lp.defers [] H (a.eval f).norm
    | _ => .none
def regionC (T : Tab) (dr : DrawF) (e : Ev) (r : Option Nat) (ops : Array Oper) (a : AAct) (H : AH) : Bool → CR
  | false => evOps T e.F e.Y r ops ops.toList a H
  | true => dr e.F e.Y r ops a H
def loopC (e : Ev) (r : Option Nat) (x : Code) : CR → CR
  | some (.normal, a, H) => e.C r (.loop x) a H
  | x => x
/-! ### A loop over a map: at each entry but one the round changes nothing -/
structure MSh where
  it : Tmp
  d1 : Tmp
  d2 : Tmp
  d3 : Tmp
  bops : Array Oper
  rest : Code
  b1 : Nat
  xid : Nat
  asg : List Tmp
def dstsO : List Oper → List Tmp
  | [] => []
  | o :: l => match o.dst with
    | some d => d :: dstsO l
    | none => dstsO l
/-- the temporaries that a piece of code may change -/
def asgC : Code → Option (List Tmp)
  | .skip => some []
  | .label _ => some []
  | .exit _ => some []
  | .goto _ => some []
  | .ret => some []
  | .region _ ops _ => some (dstsO ops.toList)
  | .seq x y => match asgC x, asgC y with
    | some l, some k => some (l ++ k)
    | _, _ => none
  | .cond _ x y => match asgC x, asgC y with
    | some l, some k => some (l ++ k)
    | _, _ => none
  | .block _ x => asgC x
  | .loop x => asgC x
  | _ => none
def ops2 : List Oper → Option (Tmp × Tmp × Tmp)
  | [⟨some d1, .next (.tmp it) false, _, _, _, none⟩, ⟨some d2, .extract (.tmp d1') 0, _, _, _, none⟩] => match Nat.beq d1 d1' with
    | true => some (it, d1, d2)
    | false => none
  | _ => none
def op3 : List Oper → Option (Tmp × Tmp)
  | ⟨some d3, .entry (.tmp it), _, _, _, none⟩ :: _ => some (it, d3)
  | _ => none
def mkSh (bops : Array Oper) (rest : Code) (b1 xid : Nat) (d2' : Tmp) : Option (Tmp × Tmp × Tmp) → Option (Tmp × Tmp) → Option (List Tmp) → Option MSh
  | some (it, d1, d2), some (it', d3), some asg => match Nat.beq it it' && (Nat.beq d2 d2' && (!Nat.beq d1 d2 && (!memN it (d1 :: d2 :: (dstsO bops.toList ++ asg))))) with
    | true => some ⟨it, d1, d2, d3, bops, rest, b1, xid, d1 :: d2 :: (dstsO bops.toList ++ asg)⟩
    | false => none
  | _, _, _ => none
def mapSh : Code → Option MSh
  | .seq (.region _ ops false) (.seq (.cond (.tmp d2') .skip (.exit xid)) (.block b1 (.seq (.region _ bops false) rest))) => mkSh bops rest b1 xid d2' (ops2 ops.toList) (op3 bops.toList) (asgC rest)
  | _ => none
mutual
def AV.ids : AV → List Nat → List Nat
  | .ptr id _ _, l => id :: l
  | .sl id _ _ _ _ _, l => id :: l
  | .map id, l => id :: l
  | .iface _ u, l => AV.ids u l
  | .agg us, l => AV.idss us l
  | .tuple us, l => AV.idss us l
  | .fn _ a b, l => AV.idss a (AV.idss b l)
  | _, l => l
def AV.idss : List AV → List Nat → List Nat
  | [], l => l
  | u :: us, l => AV.ids u (AV.idss us l)
end
def idO : Option AV → List Nat → List Nat
  | some u, l => AV.ids u l
  | none, l => l
def HT.ids : HT AV → List Nat → List Nat
  | .e, l => l
  | .n x o y, l => HT.ids x (idO o (HT.ids y l))
def valIds : List AEnt → List Nat → List Nat
  | [], l => l
  | e :: es, l => AV.ids e.val (valIds es l)
def onlyT (H : AH) : List Nat → HT AObj
  | [] => .e
  | k :: ks => HT.put (k + 1) (onlyT H ks) k (H.get k)
def AH.only (H : AH) (ks : List Nat) : AH := ⟨onlyT H ks, H.n⟩
def sameO : Option AV → Option AV → Bool
  | none, none => true
  | some u, some v => AV.same u v
  | _, _ => false
def HT.sameT : HT AV → HT AV → Bool
  | .e, .e => true
  | .n a o b, .n c p d => HT.sameT a c && (sameO o p && HT.sameT b d)
  | _, _ => false
structure MSt where
  id : Nat
  m : Nat
  es : List AEnt
  clock : Nat
  a0 : AAct
  H0 : AH
  ks : List Nat
def bornOk (c : Nat) : List AEnt → Bool
  | [] => true
  | e :: l => Nat.ble (e.born + 1) c && (!l.any (fun x => Nat.beq x.born e.born) && bornOk c l)
def mapSt3 (sh : MSh) (a : AAct) (H : AH) (id m : Nat) (es : List AEnt) (clock : Nat) : Option MSt := match bornOk clock es && ((match a.defers with | [] => true | _ => false) && ((a.tmps.get sh.d1).isSome && (a.tmps.get sh.d2).isSome)) with
  | true => some ⟨id, m, es, clock, ⟨maskT sh.asg a.tmps, []⟩, H.set id .dead, m :: valIds es (HT.ids (maskT sh.asg a.tmps) [])⟩
  | false => none
def mapSt2 (sh : MSh) (a : AAct) (H : AH) (id m last : Nat) : AObj → Option MSt
  | .map (e1 :: e2 :: es) clock => match Nat.beq last clock with
    | true => mapSt3 sh a H id m (e1 :: e2 :: es) clock
    | false => none
  | _ => none
def mapSt1 (sh : MSh) (a : AAct) (H : AH) (id : Nat) : AObj → Option MSt
  | .mapIter (some m) since [] last => match Nat.beq since last with
    | true => mapSt2 sh a H id m last (H.get m)
    | false => none
  | _ => none
def mapSt0 (sh : MSh) (a : AAct) (H : AH) : AV → Option MSt
  | .ptr id 1 0 => mapSt1 sh a H id (H.get id)
  | _ => none
def entA (sh : MSh) (a0 : AAct) (e : AEnt) : AAct := { a0 with tmps := ((a0.tmps.upd sh.d1 (.tuple [.v (.bool true), .v e.key, e.val])).upd sh.d2 (.v (.bool true))).upd sh.d3 (.tuple [.v e.key, e.val]) }
def bodyM (T : Tab) (e : Ev) (r : Option Nat) (sh : MSh) (a : AAct) (H : AH) : CR := blockC sh.b1 (thenC e r sh.rest (evOps T e.F e.Y r sh.bops (sh.bops.toList.drop 1) a H))
def skipR (sh : MSh) (st : MSt) : CR → Bool
  | some (.normal, a1, H1) => HT.sameT (maskT sh.asg a1.tmps) st.a0.tmps && ((match a1.defers with | [] => true | _ => false) && st.ks.all (fun k => AObj.same (H1.get k) (st.H0.get k)))
  | _ => false
def leaves (T : Tab) (e : Ev) (r : Option Nat) (sh : MSh) (st : MSt) : List AEnt → List AEnt
  | [] => []
  | x :: l => match skipR sh st (bodyM T e r sh (entA sh st.a0 x) (st.H0.only st.ks)) with
    | true => leaves T e r sh st l
    | false => x :: leaves T e r sh st l
def notNormal : CR → CR
  | some (.normal, _, _) => none
  | x => x
def mapEnd (T : Tab) (e : Ev) (r : Option Nat) (sh : MSh) (st : MSt) : List AEnt → CR
  | [] => some (.exit sh.xid, ⟨(st.a0.tmps.upd sh.d1 (.tuple [.v (.bool false)])).upd sh.d2 (.v (.bool false)), []⟩, st.H0)
  | [x] => notNormal (bodyM T e r sh (entA sh st.a0 x) st.H0)
  | _ => none
def loopGo (T : Tab) (e : Ev) (r : Option Nat) (x : Code) (a : AAct) (H : AH) (sh : MSh) : Option MSt → CR
  | some st => mapEnd T e r sh st (leaves T e r sh st st.es)
  | none => loopC e r x (e.C r x a H)
def loopM (T : Tab) (e : Ev) (r : Option Nat) (x : Code) (a : AAct) (H : AH) : Option MSh → CR
  | some sh => loopGo T e r x a H sh (mapSt0 sh a H (a.tmps.or sh.it))
  | none => loopC e r x (e.C r x a H)
/-- labels that nobody goes to -/
def scopeC : CR → CR
  | some (.goto _, _, _) => none
  | x => x
def stepC (T : Tab) (dr : DrawF) (e : Ev) (r : Option Nat) (c : Code) (a : AAct) (H : AH) : CR := match c with
  | .skip => some (.normal, a, H)
  | .label _ => some (.normal, a, H)
  | .exit id => some (.exit id, a, H)
  | .goto l => some (.goto l, a, H)
  | .ret => some (.ret, a, H)
  | .refuse _ => .none
  | .scope x => scopeC (e.C r x a H)
  | .seq x y => thenC e r y (e.C r x a H)
  | .cond t x y => condC e r x y a H (a.eval t)
  | .block id x => blockC id (e.C r x a H)
  | .loop x => loopM T e r x a H (mapSh x)
  | .region _ ops draw => regionC T dr e r ops a H draw
  | .rangeFunc f ps asg body => rangeC T e r f ps asg body a H
def jumpOf : AExit → Option (Option Code)
  | .normal => some .none
  | .ret => some (some .ret)
  | .exit j => some (some (.exit j))
  | .goto l => some (some (.goto l))
  | .panic _ => .none
def endY (id : Nat) : CR → FRes
  | some (e, _, H3) => match H3.get id, jumpOf e with
    | .loop l3, some jump => some (.ret (.v (.bool jump.isNone)), H3.set id (.loop { l3 with state := if jump.isNone then .ready else .done, pending := jump }))
    | _, _ => .none
  | .none => .none
def midY (e : Ev) (id : Nat) (body : Code) : CR → FRes
  | some (.normal, a1, H1) => match H1.get id with
    | .loop l1 => match l1.state with
      | .ready => endY id (e.C (some id) body a1 (H1.set id (.loop { l1 with state := .busy })))
      | _ => .none
    | _ => .none
  | _ => .none
def stepY (e : Ev) (id : Nat) (args : List AV) (H : AH) : FRes := match H.get id with
  | .loop lp => midY e id lp.body (e.C (some id) lp.assign { tmps := yieldTmps lp args, defers := [] } H)
  | _ => .none
def evN (T : Tab) (C : CallF) (dr : DrawF) (n : Nat) : Ev :=
  Nat.rec Ev.none (fun _ e => ⟨stepF T C e, stepL T e, stepD T e, stepC T dr e, stepY e⟩) n
end Go.Proofs.Ytlajcmoiopaemaa
