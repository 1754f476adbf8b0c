/- Programs in memory; are lists of declarations, of numbers, of acts the same. -/
import Derived.Test.YtlajcmoiopaemaaLib
import Derived.Test.YtlajcmoiopaemaaProg
set_option linter.unusedVariables false
set_option linter.unusedSimpArgs false
namespace Go.Proofs.Ytlajcmoiopaemaa
open Go.RowKit
theorem strl {s t : ByteArray} : s.toList = t.toList ↔ s = t := by
  rw [ByteArray.toList_eq, ByteArray.toList_eq]
  constructor
  · intro h
    cases s; cases t
    simp only [ByteArray.mk.injEq]
    exact Array.toList_inj.1 h
  · rintro rfl; rfl
theorem drewB {n : Nat} {w w' : World} (h : Below n w w') : Below n w w'.drew := ⟨h.os, h.tape, h.output, h.size, h.block⟩
theorem ext_nth {α : Type} [Inhabited α] {a b : List α} (h : a.length = b.length) (hj : ∀ j, j < a.length → nth a j = nth b j) : a = b := by
  apply List.ext_getElem h
  intro i h1 h2
  have := hj i h1
  rwa [nth_eq h1, nth_eq h2] at this
/-- what a call says: just whether something holds -/
def Says (P : Prop) (e : Ending) : Prop := ∃ r : Bool, e = .returned (.bool r) ∧ (r = true ↔ P)
theorem says_true {P : Prop} (h : P) : Says P (.returned (.bool true)) := ⟨true, rfl, fun _ => h, fun _ => rfl⟩
theorem says_false {P : Prop} (h : ¬ P) : Says P (.returned (.bool false)) := ⟨false, rfl, fun h => by (cases h), fun hp => (h hp).elim⟩
structure DeclM where
  name : ByteArray
  side : Int
  kind : Int
instance : Inhabited DeclM := ⟨⟨ByteArray.empty, 0, 0⟩⟩
structure ExprM where
  kind : Int
  of_ : Int
  op : Int
  name : ByteArray
  num : Int
  kids : List Int
instance : Inhabited ExprM := ⟨⟨0, 0, 0, ByteArray.empty, 0, []⟩⟩
structure ActM where
  kind : Int
  name : ByteArray
  op : Int
  inn : Bool
  e : Int
  cond : Int
instance : Inhabited ActM := ⟨⟨0, ByteArray.empty, 0, false, 0, 0⟩⟩
structure StmtM where
  kind : Int
  name : ByteArray
  op : Int
  e : Int
  cond : Int
  acts : List ActM
  thn : List Int
  els : List Int
instance : Inhabited StmtM := ⟨⟨0, ByteArray.empty, 0, 0, 0, [], [], []⟩⟩
structure ProgM where
  decls : List DeclM
  exprs : List ExprM
  stmts : List StmtM
  main : List Int
def T' : Nat → Prop := fun _ => True
def DeclR (d : DeclM) (cs : List Value) : Prop := cs = [.string d.name, .int .u8 d.side, .int .u8 d.kind]
def ActR (a : ActM) (cs : List Value) : Prop := cs = [.int .u8 a.kind, .string a.name, .int .u8 a.op, .bool a.inn, .int .i64 a.e, .int .i64 a.cond]
def Decls (w : World) (v : Value) (l : List DeclM) : Prop := Row w T' DeclR 3 v l
def ActsR (w : World) (v : Value) (l : List ActM) : Prop := Row w T' ActR 6 v l
def IntsR (w : World) (v : Value) (l : List Int) : Prop := Row w T' IntR 1 v l
def ExprR (w : World) (x : ExprM) (cs : List Value) : Prop := ∃ kv, cs = [.int .u8 x.kind, .int .u8 x.of_, .int .u8 x.op, .string x.name, .int .i64 x.num, kv] ∧ IntsR w kv x.kids
def StmtR (w : World) (x : StmtM) (cs : List Value) : Prop := ∃ av tv ev, cs = [.int .u8 x.kind, .string x.name, .int .u8 x.op, .int .i64 x.e, .int .i64 x.cond, av, tv, ev] ∧ ActsR w av x.acts ∧ IntsR w tv x.thn ∧ IntsR w ev x.els
def ExprsR (w : World) (v : Value) (l : List ExprM) : Prop := Row w T' (ExprR w) 6 v l
def StmtsR (w : World) (v : Value) (l : List StmtM) : Prop := Row w T' (StmtR w) 8 v l
theorem DeclR.len {x : DeclM} {cs : List Value} (h : DeclR x cs) : cs.length = 3 := by subst h; rfl
theorem ActR.len {x : ActM} {cs : List Value} (h : ActR x cs) : cs.length = 6 := by subst h; rfl
theorem ExprR.len {w : World} {x : ExprM} {cs : List Value} (h : ExprR w x cs) : cs.length = 6 := by obtain ⟨kv, rfl, _⟩ := h; rfl
theorem StmtR.len {w : World} {x : StmtM} {cs : List Value} (h : StmtR w x cs) : cs.length = 8 := by obtain ⟨a, b, c, rfl, _⟩ := h; rfl
theorem Decls.below {w w' : World} {v : Value} {l : List DeclM} (h : Decls w v l) (hb : Below w.heap.size w w') : Decls w' v l := Row.imp h (fun _ _ _ h => h) (fun b _ hlt => ⟨trivial, hb.block b hlt⟩) (by omega) (fun _ _ h => h.len)
theorem ActsR.below {w w' : World} {v : Value} {l : List ActM} (h : ActsR w v l) (hb : Below w.heap.size w w') : ActsR w' v l := Row.imp h (fun _ _ _ h => h) (fun b _ hlt => ⟨trivial, hb.block b hlt⟩) (by omega) (fun _ _ h => h.len)
theorem IntsR.below {w w' : World} {v : Value} {l : List Int} (h : IntsR w v l) (hb : Below w.heap.size w w') : IntsR w' v l := Row.imp h (fun _ _ _ h => h) (fun b _ hlt => ⟨trivial, hb.block b hlt⟩) (by omega) (fun _ _ h => h.len)
theorem ExprR.below {w w' : World} {x : ExprM} {cs : List Value} (h : ExprR w x cs) (hb : Below w.heap.size w w') : ExprR w' x cs := by
  obtain ⟨kv, h1, h2⟩ := h; exact ⟨kv, h1, h2.below hb⟩
theorem StmtR.below {w w' : World} {x : StmtM} {cs : List Value} (h : StmtR w x cs) (hb : Below w.heap.size w w') : StmtR w' x cs := by
  obtain ⟨a, t, e, h1, h2, h3, h4⟩ := h; exact ⟨a, t, e, h1, h2.below hb, h3.below hb, h4.below hb⟩
theorem ExprsR.below {w w' : World} {v : Value} {l : List ExprM} (h : ExprsR w v l) (hb : Below w.heap.size w w') : ExprsR w' v l := Row.imp h (fun _ _ _ h => h.below hb) (fun b _ hlt => ⟨trivial, hb.block b hlt⟩) (by omega) (fun _ _ h => h.len)
theorem StmtsR.below {w w' : World} {v : Value} {l : List StmtM} (h : StmtsR w v l) (hb : Below w.heap.size w w') : StmtsR w' v l := Row.imp h (fun _ _ _ h => h.below hb) (fun b _ hlt => ⟨trivial, hb.block b hlt⟩) (by omega) (fun _ _ h => h.len)
/-- one element of a row -/
theorem Row.elem {α : Type} [Inhabited α] {w : World} {D : Nat → Prop} {R : α → List Value → Prop} {size : Nat} {A : Option Addr} {n c : Nat} {l : List α} (h : Row w D R size (.slice A n c) l) (hs : 0 < size) {i : Nat} (hi : i < l.length) :
    ∃ b off cs, A = some ⟨b, off, none⟩ ∧ b < w.heap.size ∧ R (nth l i) cs ∧ cs.length = size ∧ ∀ j u, cs[j]? = some u → w.cell? ⟨b, off + i * size + j, none⟩ = some u := by
  obtain ⟨A', c', h1, h2, h3, h4⟩ := h.out
  simp only [Value.slice.injEq] at h1
  obtain ⟨rfl, _, rfl⟩ := h1
  obtain ⟨b, off, hA, hD, hall⟩ := h4 (by omega)
  obtain ⟨cs, hr, hl, hc⟩ := hall i hi
  have h0 : 0 < cs.length := by omega
  exact ⟨b, off, cs, hA, World.block_lt_of_cell? w _ (hc 0 cs[0] (by simp [h0])), hr, hl, hc⟩
end Go.Proofs.Ytlajcmoiopaemaa
