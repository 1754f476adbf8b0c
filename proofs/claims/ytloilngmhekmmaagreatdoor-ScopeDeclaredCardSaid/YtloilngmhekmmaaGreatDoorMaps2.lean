/- Sets of words, that a call makes and asks. No program in sight. -/
import Derived.Maps.OwnSet
import Derived.Maps.Views
import Derived.StringKeys
import Derived.Test.YtloilngmhekmmaaGreatDoorLib
set_option linter.unusedVariables false
set_option linter.unusedSimpArgs false
namespace Go.Proofs.YtloilngmhekmmaaGreatDoor
open Go.RowKit Go.WideMaps Go.Maps
/-- what has been put in, the latest first -/
def setB : List ByteArray → DataW Unit
  | [] => .map []
  | s :: r => (setB r).put (.string s.data.toList) (.lit (.bool true))
theorem setB_is : ∀ es, IsMap (setB es)
  | [] => ⟨[], rfl⟩
  | p :: r => (setB_is r).put _ _
theorem strB_ne {a b : ByteArray} (h : a ≠ b) : (Lit.string b.data.toList) ≠ .string a.data.toList := by
  intro e
  apply h
  simp only [Lit.string.injEq] at e
  cases a with | mk x => cases b with | mk y =>
  simp only at e
  have := Array.toList_inj.1 e
  rw [this]
def inB (s : ByteArray) (es : List ByteArray) : Bool := es.any (fun x => decide (x = s))
theorem setB_at (s : ByteArray) : ∀ es : List ByteArray, (setB es).atKey (.string s.data.toList) (.lit (.bool false)) = .lit (.bool (inB s es))
  | [] => rfl
  | p :: r => by
    unfold setB
    by_cases h : p = s
    · subst h; rw [atKey_put_same (setB_is r) (by trivial)]; simp [inB]
    · rw [atKey_put_other (strB_ne h), setB_at s r]
      simp [inB, h]
structure SetTy (P : Program) (t k e : TypeId) : Prop where
  ty : P.underlying t = some (.map k e)
  key : P.underlying k = some .string
  elem : P.underlying e = some .bool
def SSet (w : World) (P : Program) (k e b : Nat) (es : List ByteArray) : Prop := w.ownsMap P k (plainElem P e) b es.length (setB es)
theorem sset_new (w : World) (P : Program) (k e b : Nat) (hb : b = w.heap.size) : SSet (w.alloc (.map #[] 0)) P k e b [] := by subst hb; exact World.ownsMap_made w P k _
theorem SSet.kept {w w' : World} {P : Program} {k e b : Nat} {es : List ByteArray} (h : SSet w P k e b es) (hb : w'.heap[b]? = w.heap[b]?) : SSet w' P k e b es := by
  obtain ⟨xs, c, h1, h2, h3, h4⟩ := h
  exact ⟨xs, c, hb.trans h1, h2, h3, h4⟩
theorem SSet.lt {w : World} {P : Program} {k e b : Nat} {es : List ByteArray} (h : SSet w P k e b es) : b < w.heap.size := by
  obtain ⟨xs, c, h1, _⟩ := h
  exact blk_lt h1
theorem SSet.blk {w : World} {P : Program} {k e b : Nat} {es : List ByteArray} (h : SSet w P k e b es) : ∃ xs c, w.heap[b]? = some (.map xs c) := by
  obtain ⟨xs, c, h1, _⟩ := h
  exact ⟨xs, c, h1⟩
theorem wpList_sset_put {P : Program} {w : World} {ops : Array Oper} {rest : List Oper} {o : Oper} {a : Act} {Q : Exit → Act → World → Prop} {t k e : TypeId} (T : SetTy P t k e)
    (hg : o.guard = none) (m x v : Operand) (hop : o.op = .mapUpdate t m x v) (b : Nat) (es : List ByteArray) (hm : a.eval m = .map (some b)) (hown : SSet w P k e b es) (hn : es.length < maxLen) (s : ByteArray) (hx : a.eval x = .string s) (hv : a.eval v = .bool true)
    (hs : s.size ≤ maxLen)
    (hK : ∀ w', SSet w' P k e b (s :: es) → w.grownBy w' (some b) → wpList P ops Q rest (a.put o.dst undef) w') : wpList P ops Q (o :: rest) a w := by
  refine wpList_plain hg fun K' hK' => ?_
  obtain ⟨w', hrun, r1, r2⟩ := hown.update (string_keyed T.key) T.ty hn (keyOf_string_mk T.key hs) (plainElem_bool (H := Unit) T.elem true)
  unfold Oper.wp
  simp [execOp, hop, hm, hx, hv, hrun, Result.andThen]
  exact hK' _ _ (hK w' r1 r2)
theorem plainElem_bool_inv {P : Program} {e : TypeId} (he : P.underlying e = some .bool) {v : Value} {b : Bool} {ps : List MemPlace} (h : plainElem (H := Unit) P e v = some (.lit (.bool b), ps)) : v = .bool b := by
  unfold plainElem at h
  rw [he] at h
  cases v <;> simp at h
  rw [h.1]
theorem SSet.ask {P : Program} {w : World} {t k e : TypeId} (T : SetTy P t k e) {b : Nat} {es : List ByteArray} (hown : SSet w P k e b es) (hz : (zeroValue e).run P w = .ok (.bool false) w) (s : ByteArray) (hs : s.size ≤ maxLen) :
    (Instr.lookup t (.map (some b)) (.string s) false).run P w = .ok (.bool (inB s es)) w := by
  obtain ⟨v, ps, hrun, hv⟩ := World.ownsMap.lookup hown (string_keyed T.key) T.ty hz (plainElem_bool (H := Unit) T.elem false) (keyOf_string_mk T.key hs)
  rw [setB_at] at hv
  rw [plainElem_bool_inv T.elem hv] at hrun
  exact hrun
end Go.Proofs.YtloilngmhekmmaaGreatDoor
