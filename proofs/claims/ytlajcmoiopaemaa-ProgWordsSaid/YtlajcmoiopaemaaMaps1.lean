/- Maps from words to small numbers, that a call makes and looks into. No program in sight. -/
import Derived.Maps.OwnSet
import Derived.Maps.Views
import Derived.StringKeys
import Derived.Test.YtlajcmoiopaemaaLib
set_option linter.unusedVariables false
set_option linter.unusedSimpArgs false
namespace Go.Proofs.Ytlajcmoiopaemaa
open Go.RowKit Go.WideMaps Go.Maps
/-- what has been put in, the latest first -/
def smapR : List (ByteArray × Int) → DataW Unit
  | [] => .map []
  | p :: r => (smapR r).put (.string p.1.data.toList) (.lit (.int .u8 p.2))
def lookR : List (ByteArray × Int) → ByteArray → Option Int
  | [], _ => none
  | p :: r, s => if p.1 = s then some p.2 else lookR r s
theorem smapR_is : ∀ es, IsMap (smapR es)
  | [] => ⟨[], rfl⟩
  | p :: r => (smapR_is r).put _ _
theorem str_ne {a b : ByteArray} (h : a ≠ b) : (Lit.string b.data.toList) ≠ .string a.data.toList := by
  intro e
  apply h
  simp only [Lit.string.injEq] at e
  cases a with | mk x => cases b with | mk y =>
  simp only at e
  have := Array.toList_inj.1 e
  rw [this]
theorem smapR_at (s : ByteArray) : ∀ es, (smapR es).atKey (.string s.data.toList) (.lit (.int .u8 0)) = .lit (.int .u8 ((lookR es s).getD 0))
  | [] => rfl
  | p :: r => by
    unfold smapR lookR
    by_cases h : p.1 = s
    · rw [if_pos h, h, atKey_put_same (smapR_is r) (by trivial)]; rfl
    · rw [if_neg h, atKey_put_other (str_ne h)]; exact smapR_at s r
theorem smapR_has (s : ByteArray) : ∀ es, has (smapR es) (.string s.data.toList) = (lookR es s).isSome
  | [] => rfl
  | p :: r => by
    unfold smapR lookR
    by_cases h : p.1 = s
    · rw [if_pos h, h, has_put_same (smapR_is r) (by trivial)]; rfl
    · rw [if_neg h, has_put_other (str_ne h)]; exact smapR_has s r
structure SMapTy (P : Program) (t k e : TypeId) : Prop where
  ty : P.underlying t = some (.map k e)
  key : P.underlying k = some .string
  elem : P.underlying e = some (.int .u8)
def SMap (w : World) (P : Program) (k e b : Nat) (es : List (ByteArray × Int)) : Prop := w.ownsMap P k (plainElem P e) b es.length (smapR es)
theorem SMap.new (w : World) (P : Program) (k e : Nat) : SMap (w.alloc (.map #[] 0)) P k e w.heap.size [] := World.ownsMap_made w P k _
theorem SMap.kept {w w' : World} {P : Program} {k e b : Nat} {es : List (ByteArray × Int)} (h : SMap w P k e b es) (hb : w'.heap[b]? = w.heap[b]?) : SMap w' P k e b es := by
  obtain ⟨xs, c, h1, h2, h3, h4⟩ := h
  exact ⟨xs, c, hb.trans h1, h2, h3, h4⟩
theorem SMap.lt {w : World} {P : Program} {k e b : Nat} {es : List (ByteArray × Int)} (h : SMap w P k e b es) : b < w.heap.size := by
  obtain ⟨xs, c, h1, _⟩ := h
  exact blk_lt h1
theorem wpList_smap_put {P : Program} {w : World} {ops : Array Oper} {rest : List Oper} {o : Oper} {a : Act} {Q : Exit → Act → World → Prop} {t k e : TypeId} (T : SMapTy P t k e)
    (hg : o.guard = none) (m x v : Operand) (hop : o.op = .mapUpdate t m x v ∨ o.op = .insert t m x v) (b : Nat) (es : List (ByteArray × Int)) (hm : a.eval m = .map (some b)) (hown : SMap w P k e b es) (hn : es.length < maxLen) (s : ByteArray) (i : Int) (hx : a.eval x = .string s) (hv : a.eval v = .int .u8 i)
    (hs : s.size ≤ maxLen) (hi : (Lit.int .u8 i).wf = true)
    (hK : ∀ w', SMap w' P k e b ((s, i) :: es) → w.grownBy w' (some b) → wpList P ops Q rest (a.put o.dst undef) w') : wpList P ops Q (o :: rest) a w := by
  refine wpList_plain hg fun K' hK' => ?_
  obtain ⟨w', hrun, r1, r2⟩ := hown.update (string_keyed T.key) T.ty hn (keyOf_string_mk T.key hs) (plainElem_int (H := Unit) T.elem hi)
  unfold Oper.wp
  rcases hop with hop | hop
  · simp [execOp, hop, hm, hx, hv, hrun, Result.andThen]
    exact hK' _ _ (hK w' r1 r2)
  · simp [execOp, hop, hm, hx, hv, hrun, Result.andThen]
    exact hK' _ _ (hK w' r1 r2)
theorem wpList_smap_get {P : Program} {w : World} {ops : Array Oper} {rest : List Oper} {o : Oper} {a : Act} {Q : Exit → Act → World → Prop} {t k e : TypeId} (T : SMapTy P t k e)
    (hg : o.guard = none) (m x : Operand) (hop : o.op = .lookup t m x true) (hz : (zeroValue e).run P w = .ok (.int .u8 0) w) (b : Nat) (es : List (ByteArray × Int)) (hm : a.eval m = .map (some b)) (hown : SMap w P k e b es) (s : ByteArray) (hx : a.eval x = .string s)
    (hs : s.size ≤ maxLen)
    (hK : wpList P ops Q rest (a.put o.dst (.tuple #[.int .u8 ((lookR es s).getD 0), .bool (lookR es s).isSome])) w) : wpList P ops Q (o :: rest) a w := by
  refine wpList_lookup_own_ok_int w hg m x t hop k e .u8 (string_keyed T.key) T.ty T.elem hz b es.length (smapR es) hm hown (.string s) (.string s.data.toList) hx (keyOf_string_mk T.key hs) fun c hc _ => ?_
  rw [smapR_at] at hc
  have hc' : (lookR es s).getD 0 = c := by simpa using hc
  rw [smapR_has, ← hc']
  exact hK
theorem smap_new (w : World) (P : Program) (k e b : Nat) (hb : b = w.heap.size) : SMap (w.alloc (.map #[] 0)) P k e b [] := by subst hb; exact SMap.new w P k e
end Go.Proofs.Ytlajcmoiopaemaa
