/- Sets of keys whose type is a struct, that a call makes and asks. No program in sight. -/
import Derived.Test.YtloilngmhekmmaaGreatDoorMaps2
import Derived.DeepKeys4
import Derived.WideKeyArgs2
set_option linter.unusedVariables false
set_option linter.unusedSimpArgs false
namespace Go.Proofs.YtloilngmhekmmaaGreatDoor
open Go.RowKit Go.WideMaps Go.Maps
/-- what has been put in, the latest first: by the bytes that a key is told as -/
def setL : List (List UInt8) → DataW Unit
  | [] => .map []
  | s :: r => (setL r).put (.string s) (.lit (.bool true))
theorem setL_is : ∀ es, IsMap (setL es)
  | [] => ⟨[], rfl⟩
  | p :: r => (setL_is r).put _ _
theorem setL_at (s : List UInt8) : ∀ es : List (List UInt8), (setL es).atKey (.string s) (.lit (.bool false)) = .lit (.bool (es.any fun x => decide (x = s)))
  | [] => rfl
  | p :: r => by
    unfold setL
    by_cases h : p = s
    · subst h; rw [atKey_put_same (setL_is r) (by trivial)]; simp
    · have hne : (Lit.string s) ≠ .string p := fun e => h (by simpa using e.symm)
      rw [atKey_put_other hne, setL_at s r]
      simp [h]
structure KSetTy (P : Program) (t k e : TypeId) : Prop where
  ty : P.underlying t = some (.map k e)
  key : Keyed P k
  elem : P.underlying e = some .bool
def KSet (w : World) (P : Program) (k e b : Nat) (es : List (List UInt8)) : Prop := w.ownsMap P k (plainElem P e) b es.length (setL es)
theorem kset_new (w : World) (P : Program) (k e b : Nat) (hb : b = w.heap.size) : KSet (w.alloc (.map #[] 0)) P k e b [] := by subst hb; exact World.ownsMap_made w P k _
theorem KSet.kept {w w' : World} {P : Program} {k e b : Nat} {es : List (List UInt8)} (h : KSet w P k e b es) (hb : w'.heap[b]? = w.heap[b]?) : KSet w' P k e b es := by
  obtain ⟨xs, c, h1, h2, h3, h4⟩ := h
  exact ⟨xs, c, hb.trans h1, h2, h3, h4⟩
theorem KSet.lt {w : World} {P : Program} {k e b : Nat} {es : List (List UInt8)} (h : KSet w P k e b es) : b < w.heap.size := by
  obtain ⟨xs, c, h1, _⟩ := h
  exact blk_lt h1
theorem wpList_kset_put {P : Program} {w : World} {ops : Array Oper} {rest : List Oper} {o : Oper} {a : Act} {Q : Exit → Act → World → Prop} {t k e : TypeId} (T : KSetTy P t k e)
    (hg : o.guard = none) (m x v : Operand) (hop : o.op = .mapUpdate t m x v) (b : Nat) (es : List (List UInt8)) (hm : a.eval m = .map (some b)) (hown : KSet w P k e b es) (hn : es.length < maxLen) (key : Value) (s : List UInt8) (hx : a.eval x = key) (hv : a.eval v = .bool true)
    (hs : keyOf P k key = some (.string s))
    (hK : ∀ w', KSet w' P k e b (s :: es) → w.grownBy w' (some b) → wpList P ops Q rest (a.put o.dst undef) w') : wpList P ops Q (o :: rest) a w := by
  refine wpList_plain hg fun K' hK' => ?_
  obtain ⟨w', hrun, r1, r2⟩ := hown.update T.key T.ty hn hs (plainElem_bool (H := Unit) T.elem true)
  unfold Oper.wp
  simp [execOp, hop, hm, hx, hv, hrun, Result.andThen]
  exact hK' _ _ (hK w' r1 r2)
theorem KSet.ask {P : Program} {w : World} {t k e : TypeId} (T : KSetTy P t k e) {b : Nat} {es : List (List UInt8)} (hown : KSet w P k e b es) (hz : (zeroValue e).run P w = .ok (.bool false) w) (key : Value) (s : List UInt8) (hs : keyOf P k key = some (.string s)) :
    (Instr.lookup t (.map (some b)) key false).run P w = .ok (.bool (es.any fun x => decide (x = s))) w := by
  obtain ⟨v, ps, hrun, hv⟩ := World.ownsMap.lookup hown T.key T.ty hz (plainElem_bool (H := Unit) T.elem false) hs
  rw [setL_at] at hv
  rw [plainElem_bool_inv T.elem hv] at hrun
  exact hrun
end Go.Proofs.YtloilngmhekmmaaGreatDoor
