/- A call of no arguments that the evaluator takes to the end: what it says of the machine. No program in sight. -/
import Derived.Test.YtlajcmoiopaemaaAv17
import Derived.Below
set_option linter.unusedVariables false
set_option linter.unusedSimpArgs false
noncomputable section
namespace Go.Proofs.Ytlajcmoiopaemaa
theorem tab_ty {P : Program} (t : TypeId) (i : TypeInfo) (h : (HT.ofList P.types.toList 0 .e).get t = some i) : P.info? t = some i := by
  rcases HT.get_ofList _ _ _ _ _ h with ⟨_, h2⟩ | h2
  · rw [Array.getElem?_toList, Nat.sub_zero] at h2
    show Tables.info? _ _ = _
    unfold Tables.info?
    rw [h2, if_pos (Array.getElem?_eq_some_iff.1 h2).1]
  · rw [HT.get_e] at h2; cases h2
def tabOk (P : Program) : Bool := P.funcs.toList.all (fun n => !n.body.isSome || !(n.name == "runtime.NumGoroutine"))
theorem tab_fn {P : Program} (ha : tabOk P = true) (f : FuncId) (n : Func) (h : (HT.ofList P.funcs.toList 0 .e).get f = some n) : P.funcs[f]? = some n ∧ ((n.body.isSome = true) → (n.name == "runtime.NumGoroutine") = false) := by
  rcases HT.get_ofList _ _ _ _ _ h with ⟨_, h2⟩ | h2
  · refine ⟨by rw [Array.getElem?_toList] at h2; exact h2, fun hb => ?_⟩
    have := List.all_eq_true.1 ha n (List.mem_of_getElem? h2)
    rw [hb] at this
    simpa using this
  · rw [HT.get_e] at h2; cases h2
/-- a program's tables, for the evaluator -/
def mkTab (P : Program) (ha : tabOk P = true) : Tab where
  P := P
  ty := HT.ofList P.types.toList 0 .e
  fn := HT.ofList P.funcs.toList 0 .e
  tyOk := tab_ty
  fnOk := tab_fn ha
def noC : CallF := fun _ _ _ => none
def isTrue : FRes → Bool
  | some (.ret (.v (.bool true)), _) => true
  | _ => false
theorem isTrue_some {r : FRes} (h : isTrue r = true) : ∃ H, r = some (.ret (.v (.bool true)), H) := by
  unfold isTrue at h
  split at h
  · exact ⟨_, rfl⟩
  · cases h
def Gh.none : Gh := ⟨0, fun _ => 0, fun _ => 0, fun _ => 0, fun _ => Option.none, fun _ => 0⟩
theorem Rel.start (w : World) : Rel w Gh.none AH.empty := by
  have out : ∀ i, (AH.empty.get i).live = true → False := fun i h => by rw [AH.get_out (Nat.not_lt_zero _)] at h; cases h
  exact ⟨rfl, fun id h => absurd h (Nat.not_lt_zero _), fun id h => (out id h).elim, fun id h => absurd h (Nat.not_lt_zero _), fun i j h => (out i h).elim, fun i h => (out i h).elim, fun b a h => by cases h⟩
theorem closed_call {T : Tab} (hm : T.P.follows .mixedOrders = true) {n : Nat} {f : FuncId} (h : isTrue ((evF T noC (evDrawX T) n).F f [] AH.empty) = true) (w : World) :
    Calls T.P f #[] w fun ce w' => ce = .returned (.bool true) ∧ Go.RowKit.Below w.heap.size w w' := by
  obtain ⟨H', h⟩ := isTrue_some h
  rw [evF_eq, evDrawX_eq] at h
  have E := evN_ok (T := T) (C := noC) (fun f args H r H' h => by cases h) (evDraw_ok hm) n
  refine Calls.mono (E.F _ _ _ _ _ h w Gh.none #[] (Rel.start w) rfl) ?_
  rintro ce w' ⟨G', e1, _, hend⟩
  cases ce <;> simp only [EndRel] at hend
  simp only [VR] at hend
  exact ⟨by rw [hend], e1.os, e1.tape, e1.output, e1.size, fun k hk => e1.keep k hk (fun id hl => by rw [AH.get_out (Nat.not_lt_zero _)] at hl; cases hl)⟩
end Go.Proofs.Ytlajcmoiopaemaa
