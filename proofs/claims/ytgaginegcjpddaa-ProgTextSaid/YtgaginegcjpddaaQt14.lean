/- Programs in memory; are lists of declarations, of numbers, of acts the same. -/
import Derived.Test.YtgaginegcjpddaaQt13
import Derived.Test.YtgaginegcjpddaaProg
import Derived.Deep.Cut
set_option linter.unusedVariables false
set_option linter.unusedSimpArgs false
namespace Go.Proofs.Ytgaginegcjpddaa
open Go.RowKit
theorem strl {s t : ByteArray} : s.toList = t.toList ↔ s = t := by
  rw [ByteArray.toList_eq, ByteArray.toList_eq]
  constructor
  · intro h
    cases s; cases t
    simp only [ByteArray.mk.injEq]
    exact Array.toList_inj.1 h
  · rintro rfl; rfl
theorem drewB {n : Nat} {w w' : World} (h : Below n w w') : Below n w w'.drew := ⟨h.os, h.tape, h.output, h.size, h.block⟩
theorem ext_nth {α : Type} [Inhabited α] {a b : List α} (h : a.length = b.length) (hj : ∀ j, j < a.length → nth a j = nth b j) : a = b := by
  apply List.ext_getElem h
  intro i h1 h2
  have := hj i h1
  rwa [nth_eq h1, nth_eq h2] at this
/-- what a call says: just whether something holds -/
def Says (P : Prop) (e : Ending) : Prop := ∃ r : Bool, e = .returned (.bool r) ∧ (r = true ↔ P)
theorem says_true {P : Prop} (h : P) : Says P (.returned (.bool true)) := ⟨true, rfl, fun _ => h, fun _ => rfl⟩
theorem says_false {P : Prop} (h : ¬ P) : Says P (.returned (.bool false)) := ⟨false, rfl, fun h => by (cases h), fun hp => (h hp).elim⟩
structure DeclM where
  name : ByteArray
  side : Int
  kind : Int
instance : Inhabited DeclM := ⟨⟨ByteArray.empty, 0, 0⟩⟩
structure ExprM where
  kind : Int
  of_ : Int
  op : Int
  name : ByteArray
  num : Int
  kids : List Int
instance : Inhabited ExprM := ⟨⟨0, 0, 0, ByteArray.empty, 0, []⟩⟩
structure ActM where
  kind : Int
  name : ByteArray
  op : Int
  inn : Bool
  e : Int
  cond : Int
instance : Inhabited ActM := ⟨⟨0, ByteArray.empty, 0, false, 0, 0⟩⟩
structure StmtM where
  kind : Int
  name : ByteArray
  op : Int
  e : Int
  cond : Int
  acts : List ActM
  thn : List Int
  els : List Int
instance : Inhabited StmtM := ⟨⟨0, ByteArray.empty, 0, 0, 0, [], [], []⟩⟩
structure ProgM where
  decls : List DeclM
  exprs : List ExprM
  stmts : List StmtM
  main : List Int
def T' : Nat → Prop := fun _ => True
def DeclR (d : DeclM) (cs : List Value) : Prop := cs = [.string d.name, .int .u8 d.side, .int .u8 d.kind]
def ActR (a : ActM) (cs : List Value) : Prop := cs = [.int .u8 a.kind, .string a.name, .int .u8 a.op, .bool a.inn, .int .i64 a.e, .int .i64 a.cond]
def Decls (w : World) (v : Value) (l : List DeclM) : Prop := Row w T' DeclR 3 v l
def ActsR (w : World) (v : Value) (l : List ActM) : Prop := Row w T' ActR 6 v l
def IntsR (w : World) (v : Value) (l : List Int) : Prop := Row w T' IntR 1 v l
def ExprR (w : World) (x : ExprM) (cs : List Value) : Prop := ∃ kv, cs = [.int .u8 x.kind, .int .u8 x.of_, .int .u8 x.op, .string x.name, .int .i64 x.num, kv] ∧ IntsR w kv x.kids
def StmtR (w : World) (x : StmtM) (cs : List Value) : Prop := ∃ av tv ev, cs = [.int .u8 x.kind, .string x.name, .int .u8 x.op, .int .i64 x.e, .int .i64 x.cond, av, tv, ev] ∧ ActsR w av x.acts ∧ IntsR w tv x.thn ∧ IntsR w ev x.els
def ExprsR (w : World) (v : Value) (l : List ExprM) : Prop := Row w T' (ExprR w) 6 v l
def StmtsR (w : World) (v : Value) (l : List StmtM) : Prop := Row w T' (StmtR w) 8 v l
theorem DeclR.len {x : DeclM} {cs : List Value} (h : DeclR x cs) : cs.length = 3 := by subst h; rfl
theorem ActR.len {x : ActM} {cs : List Value} (h : ActR x cs) : cs.length = 6 := by subst h; rfl
theorem ExprR.len {w : World} {x : ExprM} {cs : List Value} (h : ExprR w x cs) : cs.length = 6 := by obtain ⟨kv, rfl, _⟩ := h; rfl
theorem StmtR.len {w : World} {x : StmtM} {cs : List Value} (h : StmtR w x cs) : cs.length = 8 := by obtain ⟨a, b, c, rfl, _⟩ := h; rfl
theorem Decls.below {w w' : World} {v : Value} {l : List DeclM} (h : Decls w v l) (hb : Below w.heap.size w w') : Decls w' v l := Row.imp h (fun _ _ _ h => h) (fun b _ hlt => ⟨trivial, hb.block b hlt⟩) (by omega) (fun _ _ h => h.len)
theorem ActsR.below {w w' : World} {v : Value} {l : List ActM} (h : ActsR w v l) (hb : Below w.heap.size w w') : ActsR w' v l := Row.imp h (fun _ _ _ h => h) (fun b _ hlt => ⟨trivial, hb.block b hlt⟩) (by omega) (fun _ _ h => h.len)
theorem IntsR.below {w w' : World} {v : Value} {l : List Int} (h : IntsR w v l) (hb : Below w.heap.size w w') : IntsR w' v l := Row.imp h (fun _ _ _ h => h) (fun b _ hlt => ⟨trivial, hb.block b hlt⟩) (by omega) (fun _ _ h => h.len)
theorem ExprR.below {w w' : World} {x : ExprM} {cs : List Value} (h : ExprR w x cs) (hb : Below w.heap.size w w') : ExprR w' x cs := by
  obtain ⟨kv, h1, h2⟩ := h; exact ⟨kv, h1, h2.below hb⟩
theorem StmtR.below {w w' : World} {x : StmtM} {cs : List Value} (h : StmtR w x cs) (hb : Below w.heap.size w w') : StmtR w' x cs := by
  obtain ⟨a, t, e, h1, h2, h3, h4⟩ := h; exact ⟨a, t, e, h1, h2.below hb, h3.below hb, h4.below hb⟩
theorem ExprsR.below {w w' : World} {v : Value} {l : List ExprM} (h : ExprsR w v l) (hb : Below w.heap.size w w') : ExprsR w' v l := Row.imp h (fun _ _ _ h => h.below hb) (fun b _ hlt => ⟨trivial, hb.block b hlt⟩) (by omega) (fun _ _ h => h.len)
theorem StmtsR.below {w w' : World} {v : Value} {l : List StmtM} (h : StmtsR w v l) (hb : Below w.heap.size w w') : StmtsR w' v l := Row.imp h (fun _ _ _ h => h.below hb) (fun b _ hlt => ⟨trivial, hb.block b hlt⟩) (by omega) (fun _ _ h => h.len)
/-- one element of a row -/
theorem Row.elem {α : Type} [Inhabited α] {w : World} {D : Nat → Prop} {R : α → List Value → Prop} {size : Nat} {A : Option Addr} {n c : Nat} {l : List α} (h : Row w D R size (.slice A n c) l) (hs : 0 < size) {i : Nat} (hi : i < l.length) :
    ∃ b off cs, A = some ⟨b, off, none⟩ ∧ b < w.heap.size ∧ R (nth l i) cs ∧ cs.length = size ∧ ∀ j u, cs[j]? = some u → w.cell? ⟨b, off + i * size + j, none⟩ = some u := by
  obtain ⟨A', c', h1, h2, h3, h4⟩ := h.out
  simp only [Value.slice.injEq] at h1
  obtain ⟨rfl, _, rfl⟩ := h1
  obtain ⟨b, off, hA, hD, hall⟩ := h4 (by omega)
  obtain ⟨cs, hr, hl, hc⟩ := hall i hi
  have h0 : 0 < cs.length := by omega
  exact ⟨b, off, cs, hA, World.block_lt_of_cell? w _ (hc 0 cs[0] (by simp [h0])), hr, hl, hc⟩
end Go.Proofs.Ytgaginegcjpddaa
/- Lists of numbers, of declarations, of acts that are the same. Printed by gen_same.py. -/
namespace Go.Proofs.Ytgaginegcjpddaa
open Go.RowKit
set_option maxHeartbeats 1600000 in
set_option maxRecDepth 100000 in
theorem equalInts_any (a b : List Int) (v v2 : Value) (w : World) (h : IntsR w v a) (h2 : IntsR w v2 b) :
    Calls Try.prog 28 #[v, v2] w fun e w' => Says (a = b) e ∧ Below w.heap.size w w' := by
  obtain ⟨A1, c1, rfl, hc1, hm1⟩ := Row.slice h
  obtain ⟨A2, c2, rfl, hc2, hm2⟩ := Row.slice h2
  have HD := hid h
  have HD2 := hid h2
  clear h h2
  by_cases hl : a.length = b.length
  · have HL := hid hl
    have hb2 : b.length = a.length := hl.symm
    rw [hb2]
    clear hl hb2
    go_enter Try.func28, Try.ntmps28
    go_wp2
    go_loopw [5, 13] (fun s5 s13 wr => ∃ i : Nat, i ≤ a.length ∧ s13 = .int .i64 (i : Int) ∧ Hid (Below w.heap.size w wr) ∧ Hid (∀ j, j < i → nth a j = nth b j)) (fun s5 s13 _ => a.length - (Go.RowKit.intOf s13).toNat)
    case atStart => exact ⟨0, by omega, rfl, hid (Below.refl _ _), hid (fun j hj => by omega)⟩
    case round =>
      obtain ⟨i, hi, rfl, HB, HN⟩ := hrel
      by_cases hlt : i < a.length
      · have hli : (i : Int) < (a.length : Int) := by omega
        obtain ⟨B, off, cs, rfl, hB, hr, _, hall⟩ := Row.elem HD.out (by omega) hlt
        obtain ⟨B2, off2, cs2, rfl, hB2, hr2, _, hall2⟩ := Row.elem HD2.out (by omega) (show i < b.length by have := HL.out; omega)
        have hr' : cs = _ := hr
        have hr2' : cs2 = _ := hr2
        subst hr' hr2'
        have x0 := (HB.out.cell (p := ⟨B, off + i, none⟩) hB).trans (by simpa using hall 0 _ rfl)
        have y0 := (HB.out.cell (p := ⟨B2, off2 + i, none⟩) hB2).trans (by simpa using hall2 0 _ rfl)
        have HNX := hid (show nth a i = nth b i → ∀ j, j < i + 1 → nth a j = nth b j from fun he j hj => (Nat.lt_or_ge j i).elim (fun h => HN.out j h) (fun h => by obtain rfl : j = i := (by omega); exact he))
        have HNE := hid (show nth a i ≠ nth b i → ¬ a = b from fun he e => he (by rw [e]))
        obtain ⟨d, hd⟩ : ∃ d, nth a i = d := ⟨_, rfl⟩
        obtain ⟨d2, hd2⟩ : ∃ d, nth b i = d := ⟨_, rfl⟩
        rw [hd, hd2] at HNX HNE
        rw [hd] at x0
        rw [hd2] at y0
        clear hall hall2 hd hd2 HN
        have HB8 := hid (drewB HB.out)
        by_cases n0 : d = d2
        · subst n0
          have HQ := hid (HNX.out rfl)
          clear HNE HNX
          go_wp2
          go_region
          go_wp2
          go_roundw
          case rel => exact ⟨i + 1, by omega, by simp, HB8, HQ⟩
          case measure => simp [Go.RowKit.intOf]; omega
        · skip
          have HQ := hid (HNE.out (by intro h; exact n0 h))
          clear HNE HNX
          go_wp2
          go_region
          go_wp2
          go_ret
          exact ⟨says_false HQ.out, HB8.out⟩
      · have hie : i = a.length := by omega
        subst hie
        have hli : ¬ ((a.length : Int) < (a.length : Int)) := by omega
        have HQ := hid (ext_nth HL.out HN.out)
        clear HN
        go_wp2
        go_ret
        exact ⟨says_true HQ.out, HB.out⟩
  · have hli0 : ¬ ((a.length : Int) = (b.length : Int)) := by omega
    have HQ := hid (show ¬ a = b from fun e => hl (by rw [e]))
    clear hl
    go_enter Try.func28, Try.ntmps28
    go_wp2
    go_ret
    exact ⟨says_false HQ.out, Below.refl _ _⟩
set_option maxHeartbeats 1600000 in
set_option maxRecDepth 100000 in
theorem equalDecls_any (a b : List DeclM) (v v2 : Value) (w : World) (h : Decls w v a) (h2 : Decls w v2 b) :
    Calls Try.prog 23 #[v, v2] w fun e w' => Says (a = b) e ∧ Below w.heap.size w w' := by
  obtain ⟨A1, c1, rfl, hc1, hm1⟩ := Row.slice h
  obtain ⟨A2, c2, rfl, hc2, hm2⟩ := Row.slice h2
  have HD := hid h
  have HD2 := hid h2
  clear h h2
  by_cases hl : a.length = b.length
  · have HL := hid hl
    have hb2 : b.length = a.length := hl.symm
    rw [hb2]
    clear hl hb2
    go_enter Try.func23, Try.ntmps23
    go_wp2
    go_loopw [5, 13] (fun s5 s13 wr => ∃ i : Nat, i ≤ a.length ∧ s13 = .int .i64 (i : Int) ∧ Hid (Below w.heap.size w wr) ∧ Hid (∀ j, j < i → nth a j = nth b j)) (fun s5 s13 _ => a.length - (Go.RowKit.intOf s13).toNat)
    case atStart => exact ⟨0, by omega, rfl, hid (Below.refl _ _), hid (fun j hj => by omega)⟩
    case round =>
      obtain ⟨i, hi, rfl, HB, HN⟩ := hrel
      by_cases hlt : i < a.length
      · have hli : (i : Int) < (a.length : Int) := by omega
        obtain ⟨B, off, cs, rfl, hB, hr, _, hall⟩ := Row.elem HD.out (by omega) hlt
        obtain ⟨B2, off2, cs2, rfl, hB2, hr2, _, hall2⟩ := Row.elem HD2.out (by omega) (show i < b.length by have := HL.out; omega)
        have hr' : cs = _ := hr
        have hr2' : cs2 = _ := hr2
        subst hr' hr2'
        have x0 := (HB.out.cell (p := ⟨B, off + i * 3, none⟩) hB).trans (by simpa using hall 0 _ rfl)
        have y0 := (HB.out.cell (p := ⟨B2, off2 + i * 3, none⟩) hB2).trans (by simpa using hall2 0 _ rfl)
        have x1 := (HB.out.cell (p := ⟨B, off + i * 3 + 1, none⟩) hB).trans (by simpa using hall 1 _ rfl)
        have y1 := (HB.out.cell (p := ⟨B2, off2 + i * 3 + 1, none⟩) hB2).trans (by simpa using hall2 1 _ rfl)
        have x2 := (HB.out.cell (p := ⟨B, off + i * 3 + 2, none⟩) hB).trans (by simpa using hall 2 _ rfl)
        have y2 := (HB.out.cell (p := ⟨B2, off2 + i * 3 + 2, none⟩) hB2).trans (by simpa using hall2 2 _ rfl)
        have HNX := hid (show nth a i = nth b i → ∀ j, j < i + 1 → nth a j = nth b j from fun he j hj => (Nat.lt_or_ge j i).elim (fun h => HN.out j h) (fun h => by obtain rfl : j = i := (by omega); exact he))
        have HNE := hid (show nth a i ≠ nth b i → ¬ a = b from fun he e => he (by rw [e]))
        obtain ⟨d, hd⟩ : ∃ d, nth a i = d := ⟨_, rfl⟩
        obtain ⟨d2, hd2⟩ : ∃ d, nth b i = d := ⟨_, rfl⟩
        rw [hd, hd2] at HNX HNE
        rw [hd] at x0 x1 x2
        rw [hd2] at y0 y1 y2
        clear hall hall2 hd hd2 HN
        have HB8 := hid (drewB HB.out)
        obtain ⟨dn, ds, dk⟩ := d
        obtain ⟨en, es, ek⟩ := d2
        by_cases n0 : dn = en
        · subst n0
          by_cases n1 : ds = es
          · subst n1
            by_cases n2 : dk = ek
            · subst n2
              have HQ := hid (HNX.out rfl)
              clear HNE HNX
              go_wp2
              go_region
              go_wp2
              go_roundw
              case rel => exact ⟨i + 1, by omega, by simp, HB8, HQ⟩
              case measure => simp [Go.RowKit.intOf]; omega
            · skip
              have HQ := hid (HNE.out (by intro h; cases h; exact n2 rfl))
              clear HNE HNX
              go_wp2
              go_region
              go_wp2
              go_ret
              exact ⟨says_false HQ.out, HB8.out⟩
          · skip
            have HQ := hid (HNE.out (by intro h; cases h; exact n1 rfl))
            clear HNE HNX
            go_wp2
            go_region
            go_wp2
            go_ret
            exact ⟨says_false HQ.out, HB8.out⟩
        · skip
          have HQ := hid (HNE.out (by intro h; cases h; exact n0 rfl))
          have nl : ¬ dn.toList = en.toList := fun e => n0 (strl.1 e)
          clear HNE HNX n0
          go_wp2
          go_region
          go_wp2
          go_ret
          exact ⟨says_false HQ.out, HB8.out⟩
      · have hie : i = a.length := by omega
        subst hie
        have hli : ¬ ((a.length : Int) < (a.length : Int)) := by omega
        have HQ := hid (ext_nth HL.out HN.out)
        clear HN
        go_wp2
        go_ret
        exact ⟨says_true HQ.out, HB.out⟩
  · have hli0 : ¬ ((a.length : Int) = (b.length : Int)) := by omega
    have HQ := hid (show ¬ a = b from fun e => hl (by rw [e]))
    clear hl
    go_enter Try.func23, Try.ntmps23
    go_wp2
    go_ret
    exact ⟨says_false HQ.out, Below.refl _ _⟩
end Go.Proofs.Ytgaginegcjpddaa
/- Lists of numbers, of declarations, of acts that are the same. Printed by gen_same.py. -/
namespace Go.Proofs.Ytgaginegcjpddaa
open Go.RowKit
set_option maxHeartbeats 1600000 in
set_option maxRecDepth 100000 in
theorem equalActs_any (a b : List ActM) (v v2 : Value) (w : World) (h : ActsR w v a) (h2 : ActsR w v2 b) :
    Calls Try.prog 53 #[v, v2] w fun e w' => Says (a = b) e ∧ Below w.heap.size w w' := by
  obtain ⟨A1, c1, rfl, hc1, hm1⟩ := Row.slice h
  obtain ⟨A2, c2, rfl, hc2, hm2⟩ := Row.slice h2
  have HD := hid h
  have HD2 := hid h2
  clear h h2
  by_cases hl : a.length = b.length
  · have HL := hid hl
    have hb2 : b.length = a.length := hl.symm
    rw [hb2]
    clear hl hb2
    go_enter Try.func53, Try.ntmps53
    go_wp2
    go_loopw [5, 13] (fun s5 s13 wr => ∃ i : Nat, i ≤ a.length ∧ s13 = .int .i64 (i : Int) ∧ Hid (Below w.heap.size w wr) ∧ Hid (∀ j, j < i → nth a j = nth b j)) (fun s5 s13 _ => a.length - (Go.RowKit.intOf s13).toNat)
    case atStart => exact ⟨0, by omega, rfl, hid (Below.refl _ _), hid (fun j hj => by omega)⟩
    case round =>
      obtain ⟨i, hi, rfl, HB, HN⟩ := hrel
      by_cases hlt : i < a.length
      · have hli : (i : Int) < (a.length : Int) := by omega
        obtain ⟨B, off, cs, rfl, hB, hr, _, hall⟩ := Row.elem HD.out (by omega) hlt
        obtain ⟨B2, off2, cs2, rfl, hB2, hr2, _, hall2⟩ := Row.elem HD2.out (by omega) (show i < b.length by have := HL.out; omega)
        have hr' : cs = _ := hr
        have hr2' : cs2 = _ := hr2
        subst hr' hr2'
        have x0 := (HB.out.cell (p := ⟨B, off + i * 6, none⟩) hB).trans (by simpa using hall 0 _ rfl)
        have y0 := (HB.out.cell (p := ⟨B2, off2 + i * 6, none⟩) hB2).trans (by simpa using hall2 0 _ rfl)
        have x1 := (HB.out.cell (p := ⟨B, off + i * 6 + 1, none⟩) hB).trans (by simpa using hall 1 _ rfl)
        have y1 := (HB.out.cell (p := ⟨B2, off2 + i * 6 + 1, none⟩) hB2).trans (by simpa using hall2 1 _ rfl)
        have x2 := (HB.out.cell (p := ⟨B, off + i * 6 + 2, none⟩) hB).trans (by simpa using hall 2 _ rfl)
        have y2 := (HB.out.cell (p := ⟨B2, off2 + i * 6 + 2, none⟩) hB2).trans (by simpa using hall2 2 _ rfl)
        have x3 := (HB.out.cell (p := ⟨B, off + i * 6 + 3, none⟩) hB).trans (by simpa using hall 3 _ rfl)
        have y3 := (HB.out.cell (p := ⟨B2, off2 + i * 6 + 3, none⟩) hB2).trans (by simpa using hall2 3 _ rfl)
        have x4 := (HB.out.cell (p := ⟨B, off + i * 6 + 4, none⟩) hB).trans (by simpa using hall 4 _ rfl)
        have y4 := (HB.out.cell (p := ⟨B2, off2 + i * 6 + 4, none⟩) hB2).trans (by simpa using hall2 4 _ rfl)
        have x5 := (HB.out.cell (p := ⟨B, off + i * 6 + 5, none⟩) hB).trans (by simpa using hall 5 _ rfl)
        have y5 := (HB.out.cell (p := ⟨B2, off2 + i * 6 + 5, none⟩) hB2).trans (by simpa using hall2 5 _ rfl)
        have HNX := hid (show nth a i = nth b i → ∀ j, j < i + 1 → nth a j = nth b j from fun he j hj => (Nat.lt_or_ge j i).elim (fun h => HN.out j h) (fun h => by obtain rfl : j = i := (by omega); exact he))
        have HNE := hid (show nth a i ≠ nth b i → ¬ a = b from fun he e => he (by rw [e]))
        obtain ⟨d, hd⟩ : ∃ d, nth a i = d := ⟨_, rfl⟩
        obtain ⟨d2, hd2⟩ : ∃ d, nth b i = d := ⟨_, rfl⟩
        rw [hd, hd2] at HNX HNE
        rw [hd] at x0 x1 x2 x3 x4 x5
        rw [hd2] at y0 y1 y2 y3 y4 y5
        clear hall hall2 hd hd2 HN
        have HB8 := hid (drewB HB.out)
        obtain ⟨dk, dn, dp, di, de, dc⟩ := d
        obtain ⟨ek, en, ep, ei, ee, ec⟩ := d2
        by_cases n0 : dk = ek
        · subst n0
          by_cases n1 : dn = en
          · subst n1
            by_cases n2 : dp = ep
            · subst n2
              by_cases n3 : di = ei
              · subst n3
                by_cases n4 : de = ee
                · subst n4
                  by_cases n5 : dc = ec
                  · subst n5
                    have HQ := hid (HNX.out rfl)
                    clear HNE HNX
                    go_wp2
                    go_region
                    go_wp2
                    go_roundw
                    case rel => exact ⟨i + 1, by omega, by simp, HB8, HQ⟩
                    case measure => simp [Go.RowKit.intOf]; omega
                  · skip
                    have HQ := hid (HNE.out (by intro h; cases h; exact n5 rfl))
                    clear HNE HNX
                    go_wp2
                    go_region
                    go_wp2
                    go_ret
                    exact ⟨says_false HQ.out, HB8.out⟩
                · skip
                  have HQ := hid (HNE.out (by intro h; cases h; exact n4 rfl))
                  clear HNE HNX
                  go_wp2
                  go_region
                  go_wp2
                  go_ret
                  exact ⟨says_false HQ.out, HB8.out⟩
              · skip
                have HQ := hid (HNE.out (by intro h; cases h; exact n3 rfl))
                clear HNE HNX
                obtain ⟨rfl, rfl⟩ | ⟨rfl, rfl⟩ : (di = true ∧ ei = false) ∨ (di = false ∧ ei = true) := by revert n3; cases di <;> cases ei <;> simp
                all_goals clear n3
                all_goals go_wp2
                all_goals go_region
                all_goals go_wp2
                all_goals go_ret
                all_goals exact ⟨says_false HQ.out, HB8.out⟩
            · skip
              have HQ := hid (HNE.out (by intro h; cases h; exact n2 rfl))
              clear HNE HNX
              go_wp2
              go_region
              go_wp2
              go_ret
              exact ⟨says_false HQ.out, HB8.out⟩
          · skip
            have HQ := hid (HNE.out (by intro h; cases h; exact n1 rfl))
            have nl : ¬ dn.toList = en.toList := fun e => n1 (strl.1 e)
            clear HNE HNX n1
            go_wp2
            go_region
            go_wp2
            go_ret
            exact ⟨says_false HQ.out, HB8.out⟩
        · skip
          have HQ := hid (HNE.out (by intro h; cases h; exact n0 rfl))
          clear HNE HNX
          go_wp2
          go_region
          go_wp2
          go_ret
          exact ⟨says_false HQ.out, HB8.out⟩
      · have hie : i = a.length := by omega
        subst hie
        have hli : ¬ ((a.length : Int) < (a.length : Int)) := by omega
        have HQ := hid (ext_nth HL.out HN.out)
        clear HN
        go_wp2
        go_ret
        exact ⟨says_true HQ.out, HB.out⟩
  · have hli0 : ¬ ((a.length : Int) = (b.length : Int)) := by omega
    have HQ := hid (show ¬ a = b from fun e => hl (by rw [e]))
    clear hl
    go_enter Try.func53, Try.ntmps53
    go_wp2
    go_ret
    exact ⟨says_false HQ.out, Below.refl _ _⟩
end Go.Proofs.Ytgaginegcjpddaa
/- Expressions, statements that are the same: the program's. Printed by gen_same2.py. -/
namespace Go.Proofs.Ytgaginegcjpddaa
open Go.RowKit
def EqP {α : Type} (a b : α) : Prop := a = b
set_option maxHeartbeats 3200000 in
set_option maxRecDepth 100000 in
theorem sameExpr_any (x y : ExprM) (vkids ukids : Value) (w : World) (hkids : IntsR w vkids x.kids) (gkids : IntsR w ukids y.kids) :
    Calls Try.prog 25 #[.agg #[.int .u8 x.kind, .int .u8 x.of_, .int .u8 x.op, .string x.name, .int .i64 x.num, vkids], .agg #[.int .u8 y.kind, .int .u8 y.of_, .int .u8 y.op, .string y.name, .int .i64 y.num, ukids]] w fun e w' => Says (EqP x y) e ∧ Below w.heap.size w w' := by
  have Hkids := hid hkids
  have Gkids := hid gkids
  obtain ⟨Akids, ckids, rfl, _, _⟩ := Row.slice hkids
  obtain ⟨Bkids, dkids, rfl, _, _⟩ := Row.slice gkids
  clear hkids gkids
  obtain ⟨xkind, xof_, xop, xname, xnum, xkids⟩ := x
  obtain ⟨ykind, yof_, yop, yname, ynum, ykids⟩ := y
  have HB := hid (((Below.refl w.heap.size w).alloc (Nat.le_refl _) (.cells #[.int .u8 xkind, .int .u8 xof_, .int .u8 xop, .string xname, .int .i64 xnum, .slice Akids xkids.length ckids] 71)).alloc (by simp) (.cells #[.int .u8 ykind, .int .u8 yof_, .int .u8 yop, .string yname, .int .i64 ynum, .slice Bkids ykids.length dkids] 71))
  by_cases n0 : xkind = ykind
  · subst n0
    by_cases n1 : xof_ = yof_
    · subst n1
      by_cases n2 : xop = yop
      · subst n2
        by_cases n3 : xname = yname
        · subst n3
          by_cases n4 : xnum = ynum
          · subst n4
            go_enter Try.func25, Try.ntmps25
            go_wp2_with (go_at_call 28; refine (equalInts_any _ _ _ _ _ (by exact Hkids.out.below HB.out) (by exact Gkids.out.below HB.out)).mono ?_; rintro e w' ⟨⟨r, rfl, hr⟩, hb2⟩)
            go_ret
            exact ⟨⟨r, rfl, hr.trans ⟨fun h => by subst h; exact rfl, fun h => by cases h; rfl⟩⟩, HB.out.trans (hb2.mono HB.out.size)⟩
          · skip
            have HQ := hid (show ¬ EqP (⟨xkind, xof_, xop, xname, xnum, xkids⟩ : ExprM) ⟨xkind, xof_, xop, xname, ynum, ykids⟩ from fun h => by cases h; exact n4 rfl)
            go_enter Try.func25, Try.ntmps25
            go_wp2
            go_ret
            exact ⟨says_false HQ.out, HB.out⟩
        · skip
          have HQ := hid (show ¬ EqP (⟨xkind, xof_, xop, xname, xnum, xkids⟩ : ExprM) ⟨xkind, xof_, xop, yname, ynum, ykids⟩ from fun h => by cases h; exact n3 rfl)
          have nl : ¬ xname.toList = yname.toList := fun e => n3 (strl.1 e)
          clear n3
          go_enter Try.func25, Try.ntmps25
          go_wp2
          go_ret
          exact ⟨says_false HQ.out, HB.out⟩
      · skip
        have HQ := hid (show ¬ EqP (⟨xkind, xof_, xop, xname, xnum, xkids⟩ : ExprM) ⟨xkind, xof_, yop, yname, ynum, ykids⟩ from fun h => by cases h; exact n2 rfl)
        go_enter Try.func25, Try.ntmps25
        go_wp2
        go_ret
        exact ⟨says_false HQ.out, HB.out⟩
    · skip
      have HQ := hid (show ¬ EqP (⟨xkind, xof_, xop, xname, xnum, xkids⟩ : ExprM) ⟨xkind, yof_, yop, yname, ynum, ykids⟩ from fun h => by cases h; exact n1 rfl)
      go_enter Try.func25, Try.ntmps25
      go_wp2
      go_ret
      exact ⟨says_false HQ.out, HB.out⟩
  · skip
    have HQ := hid (show ¬ EqP (⟨xkind, xof_, xop, xname, xnum, xkids⟩ : ExprM) ⟨ykind, yof_, yop, yname, ynum, ykids⟩ from fun h => by cases h; exact n0 rfl)
    go_enter Try.func25, Try.ntmps25
    go_wp2
    go_ret
    exact ⟨says_false HQ.out, HB.out⟩
end Go.Proofs.Ytgaginegcjpddaa
/- Rows of expressions that are the same, by a function. Printed by gen_same4.py. -/
namespace Go.Proofs.Ytgaginegcjpddaa
open Go.RowKit
set_option maxHeartbeats 1600000 in
set_option maxRecDepth 100000 in
theorem equalExprs_any (a b : List ExprM) (v v2 : Value) (w : World) (h : ExprsR w v a) (h2 : ExprsR w v2 b) :
    Calls Try.prog 24 #[v, v2, .func (.func 25) #[] #[]] w fun e w' => Says (a = b) e ∧ Below w.heap.size w w' := by
  obtain ⟨A1, c1, rfl, hc1, hm1⟩ := Row.slice h
  obtain ⟨A2, c2, rfl, hc2, hm2⟩ := Row.slice h2
  have HD := hid h
  have HD2 := hid h2
  clear h h2
  by_cases hl : a.length = b.length
  · have HL := hid hl
    have hb2 : b.length = a.length := hl.symm
    rw [hb2]
    clear hl hb2
    go_enter Try.func24, Try.ntmps24
    go_wp2
    go_loopw [7, 8, 9, 17] (fun s7 s8 s9 s17 wr => ∃ i : Nat, i ≤ a.length ∧ s17 = .int .i64 (i : Int) ∧ Hid (Below w.heap.size w wr) ∧ Hid (∀ j, j < i → nth a j = nth b j)) (fun s7 s8 s9 s17 _ => a.length - (Go.RowKit.intOf s17).toNat)
    case atStart => exact ⟨0, by omega, rfl, hid (Below.refl _ _), hid (fun j hj => by omega)⟩
    case round =>
      obtain ⟨i, hi, rfl, HB, HN⟩ := hrel
      by_cases hlt : i < a.length
      · have hli : (i : Int) < (a.length : Int) := by omega
        obtain ⟨B, off, cs, rfl, hB, hr, _, hall⟩ := Row.elem HD.out (by omega) hlt
        obtain ⟨B2, off2, cs2, rfl, hB2, hr2, _, hall2⟩ := Row.elem HD2.out (by omega) (show i < b.length by have := HL.out; omega)
        have HNX := hid (show nth a i = nth b i → ∀ j, j < i + 1 → nth a j = nth b j from fun he j hj => (Nat.lt_or_ge j i).elim (fun h => HN.out j h) (fun h => by obtain rfl : j = i := (by omega); exact he))
        have HNE := hid (show nth a i ≠ nth b i → ¬ a = b from fun he e => he (by rw [e]))
        obtain ⟨d, hd⟩ : ∃ d, nth a i = d := ⟨_, rfl⟩
        obtain ⟨d2, hd2⟩ : ∃ d, nth b i = d := ⟨_, rfl⟩
        rw [hd, hd2] at HNX HNE
        rw [hd] at hr
        rw [hd2] at hr2
        obtain ⟨p0, rfl, hp0⟩ := hr
        obtain ⟨q0, rfl, hq0⟩ := hr2
        obtain ⟨P0, pc0, rfl, _, _⟩ := Row.slice hp0
        obtain ⟨Q0, qc0, rfl, _, _⟩ := Row.slice hq0
        have x0 := (HB.out.cell (p := ⟨B, off + i * 6, none⟩) hB).trans (by simpa using hall 0 _ rfl)
        have y0 := (HB.out.cell (p := ⟨B2, off2 + i * 6, none⟩) hB2).trans (by simpa using hall2 0 _ rfl)
        have x1 := (HB.out.cell (p := ⟨B, off + i * 6 + 1, none⟩) hB).trans (by simpa using hall 1 _ rfl)
        have y1 := (HB.out.cell (p := ⟨B2, off2 + i * 6 + 1, none⟩) hB2).trans (by simpa using hall2 1 _ rfl)
        have x2 := (HB.out.cell (p := ⟨B, off + i * 6 + 2, none⟩) hB).trans (by simpa using hall 2 _ rfl)
        have y2 := (HB.out.cell (p := ⟨B2, off2 + i * 6 + 2, none⟩) hB2).trans (by simpa using hall2 2 _ rfl)
        have x3 := (HB.out.cell (p := ⟨B, off + i * 6 + 3, none⟩) hB).trans (by simpa using hall 3 _ rfl)
        have y3 := (HB.out.cell (p := ⟨B2, off2 + i * 6 + 3, none⟩) hB2).trans (by simpa using hall2 3 _ rfl)
        have x4 := (HB.out.cell (p := ⟨B, off + i * 6 + 4, none⟩) hB).trans (by simpa using hall 4 _ rfl)
        have y4 := (HB.out.cell (p := ⟨B2, off2 + i * 6 + 4, none⟩) hB2).trans (by simpa using hall2 4 _ rfl)
        have x5 := (HB.out.cell (p := ⟨B, off + i * 6 + 5, none⟩) hB).trans (by simpa using hall 5 _ rfl)
        have y5 := (HB.out.cell (p := ⟨B2, off2 + i * 6 + 5, none⟩) hB2).trans (by simpa using hall2 5 _ rfl)
        have hBr : B2 < wr.heap.size := Nat.lt_of_lt_of_le hB2 HB.out.size
        have hBn : ¬ B2 = wr.heap.size := by omega
        have hBr1 : B < wr.heap.size := Nat.lt_of_lt_of_le hB HB.out.size
        have hBn1 : ¬ B = wr.heap.size := by omega
        have HP0 := hid (hp0.below HB.out)
        have HQ0 := hid (hq0.below HB.out)
        clear hall hall2 hd hd2 HN hp0 hq0
        by_cases he : EqP d d2
        · have HE := hid he
          clear he
          have HQX := hid (HNX.out HE.out)
          clear HNE HNX
          go_wp2_with (go_at_call 25; refine (sameExpr_any d d2 _ _ _ (by exact HP0.out.below (by exact (((Below.refl wr.heap.size wr).alloc (Nat.le_refl _) _).alloc (by simp) _))) (by exact HQ0.out.below (by exact (((Below.refl wr.heap.size wr).alloc (Nat.le_refl _) _).alloc (by simp) _)))).mono ?_; rintro e w2 ⟨⟨r, rfl, hr⟩, hb2⟩; obtain rfl : r = true := hr.2 HE.out; have HB3 := hid (HB.out.trans ((((Below.refl wr.heap.size wr).alloc (Nat.le_refl _) _).alloc (by simp) _).trans (hb2.mono (by simp; omega)) |>.mono HB.out.size)))
          go_roundw
          case rel => exact ⟨i + 1, by omega, by simp, HB3, HQX⟩
          case measure => simp [Go.RowKit.intOf]; omega
        · have HE := hid he
          clear he
          have HQX := hid (HNE.out HE.out)
          clear HNE HNX
          go_wp2_with (go_at_call 25; refine (sameExpr_any d d2 _ _ _ (by exact HP0.out.below (by exact (((Below.refl wr.heap.size wr).alloc (Nat.le_refl _) _).alloc (by simp) _))) (by exact HQ0.out.below (by exact (((Below.refl wr.heap.size wr).alloc (Nat.le_refl _) _).alloc (by simp) _)))).mono ?_; rintro e w2 ⟨⟨r, rfl, hr⟩, hb2⟩; obtain rfl : r = false := (by cases r with | false => rfl | true => exact (HE.out (hr.1 rfl)).elim); have HB3 := hid (HB.out.trans ((((Below.refl wr.heap.size wr).alloc (Nat.le_refl _) _).alloc (by simp) _).trans (hb2.mono (by simp; omega)) |>.mono HB.out.size)))
          go_ret
          exact ⟨says_false HQX.out, HB3.out⟩
      · have hie : i = a.length := by omega
        subst hie
        have hli : ¬ ((a.length : Int) < (a.length : Int)) := by omega
        have HQ := hid (ext_nth HL.out HN.out)
        clear HN
        go_wp2
        go_ret
        exact ⟨says_true HQ.out, HB.out⟩
  · have hli0 : ¬ ((a.length : Int) = (b.length : Int)) := by omega
    have HQ := hid (show ¬ a = b from fun e => hl (by rw [e]))
    clear hl
    go_enter Try.func24, Try.ntmps24
    go_wp2
    go_ret
    exact ⟨says_false HQ.out, Below.refl _ _⟩
end Go.Proofs.Ytgaginegcjpddaa
/- Statements that are the same: the program's. Printed by gen_same3.py. -/
namespace Go.Proofs.Ytgaginegcjpddaa
open Go.RowKit
theorem cell_keep {w1 w2 : World} (h : Below w1.heap.size w1 w2) {p : Addr} {v : Value} (hc : w1.cell? p = some v) : w2.cell? p = some v := (h.cell (World.block_lt_of_cell? w1 p hc)).trans hc
set_option maxHeartbeats 3200000 in
set_option maxRecDepth 100000 in
theorem sameStmt_acts (xkind xop xe xcond : Int) (xname : ByteArray) (xacts yacts : List ActM) (xthn ythn xels yels : List Int) (Aacts Bacts : Option Addr) (cacts dacts : Nat) (Athn Bthn : Option Addr) (cthn dthn : Nat) (Aels Bels : Option Addr) (cels dels : Nat) (w : World) (Hacts : Hid (ActsR w (.slice Aacts xacts.length cacts) xacts)) (Gacts : Hid (ActsR w (.slice Bacts yacts.length dacts) yacts)) (Hthn : Hid (IntsR w (.slice Athn xthn.length cthn) xthn)) (Gthn : Hid (IntsR w (.slice Bthn ythn.length dthn) ythn)) (Hels : Hid (IntsR w (.slice Aels xels.length cels) xels)) (Gels : Hid (IntsR w (.slice Bels yels.length dels) yels)) (NA : Hid (¬ xacts = yacts)) :
    Calls Try.prog 27 #[.agg #[.int .u8 xkind, .string xname, .int .u8 xop, .int .i64 xe, .int .i64 xcond, .slice Aacts xacts.length cacts, .slice Athn xthn.length cthn, .slice Aels xels.length cels], .agg #[.int .u8 xkind, .string xname, .int .u8 xop, .int .i64 xe, .int .i64 xcond, .slice Bacts yacts.length dacts, .slice Bthn ythn.length dthn, .slice Bels yels.length dels]] w fun e w' => Says (EqP (⟨xkind, xname, xop, xe, xcond, xacts, xthn, xels⟩ : StmtM) ⟨xkind, xname, xop, xe, xcond, yacts, ythn, yels⟩) e ∧ Below w.heap.size w w' := by
  have HB := hid (((Below.refl w.heap.size w).alloc (Nat.le_refl _) (.cells #[.int .u8 xkind, .string xname, .int .u8 xop, .int .i64 xe, .int .i64 xcond, .slice Aacts xacts.length cacts, .slice Athn xthn.length cthn, .slice Aels xels.length cels] 77)).alloc (by simp) (.cells #[.int .u8 xkind, .string xname, .int .u8 xop, .int .i64 xe, .int .i64 xcond, .slice Bacts yacts.length dacts, .slice Bthn ythn.length dthn, .slice Bels yels.length dels] 77))
  have es : (w.alloc (.cells #[.int .u8 xkind, .string xname, .int .u8 xop, .int .i64 xe, .int .i64 xcond, .slice Aacts xacts.length cacts, .slice Athn xthn.length cthn, .slice Aels xels.length cels] 77)).heap.size = w.heap.size + 1 := by rw [World.size_alloc]
  have hx := old_blk (new_blk w (.cells #[.int .u8 xkind, .string xname, .int .u8 xop, .int .i64 xe, .int .i64 xcond, .slice Aacts xacts.length cacts, .slice Athn xthn.length cthn, .slice Aels xels.length cels] 77)) (.cells #[.int .u8 xkind, .string xname, .int .u8 xop, .int .i64 xe, .int .i64 xcond, .slice Bacts yacts.length dacts, .slice Bthn ythn.length dthn, .slice Bels yels.length dels] 77)
  have hy := new_blk (w.alloc (.cells #[.int .u8 xkind, .string xname, .int .u8 xop, .int .i64 xe, .int .i64 xcond, .slice Aacts xacts.length cacts, .slice Athn xthn.length cthn, .slice Aels xels.length cels] 77)) (.cells #[.int .u8 xkind, .string xname, .int .u8 xop, .int .i64 xe, .int .i64 xcond, .slice Bacts yacts.length dacts, .slice Bthn ythn.length dthn, .slice Bels yels.length dels] 77)
  rw [es] at hy
  have HX6 := hid (show ((w.alloc (.cells #[.int .u8 xkind, .string xname, .int .u8 xop, .int .i64 xe, .int .i64 xcond, .slice Aacts xacts.length cacts, .slice Athn xthn.length cthn, .slice Aels xels.length cels] 77)).alloc (.cells #[.int .u8 xkind, .string xname, .int .u8 xop, .int .i64 xe, .int .i64 xcond, .slice Bacts yacts.length dacts, .slice Bthn ythn.length dthn, .slice Bels yels.length dels] 77)).cell? ⟨w.heap.size, 6, none⟩ = some (.slice Athn xthn.length cthn) by rw [blk_cell hx]; rfl)
  have HY6 := hid (show ((w.alloc (.cells #[.int .u8 xkind, .string xname, .int .u8 xop, .int .i64 xe, .int .i64 xcond, .slice Aacts xacts.length cacts, .slice Athn xthn.length cthn, .slice Aels xels.length cels] 77)).alloc (.cells #[.int .u8 xkind, .string xname, .int .u8 xop, .int .i64 xe, .int .i64 xcond, .slice Bacts yacts.length dacts, .slice Bthn ythn.length dthn, .slice Bels yels.length dels] 77)).cell? ⟨w.heap.size + 1, 6, none⟩ = some (.slice Bthn ythn.length dthn) by rw [blk_cell hy]; rfl)
  have HX7 := hid (show ((w.alloc (.cells #[.int .u8 xkind, .string xname, .int .u8 xop, .int .i64 xe, .int .i64 xcond, .slice Aacts xacts.length cacts, .slice Athn xthn.length cthn, .slice Aels xels.length cels] 77)).alloc (.cells #[.int .u8 xkind, .string xname, .int .u8 xop, .int .i64 xe, .int .i64 xcond, .slice Bacts yacts.length dacts, .slice Bthn ythn.length dthn, .slice Bels yels.length dels] 77)).cell? ⟨w.heap.size, 7, none⟩ = some (.slice Aels xels.length cels) by rw [blk_cell hx]; rfl)
  have HY7 := hid (show ((w.alloc (.cells #[.int .u8 xkind, .string xname, .int .u8 xop, .int .i64 xe, .int .i64 xcond, .slice Aacts xacts.length cacts, .slice Athn xthn.length cthn, .slice Aels xels.length cels] 77)).alloc (.cells #[.int .u8 xkind, .string xname, .int .u8 xop, .int .i64 xe, .int .i64 xcond, .slice Bacts yacts.length dacts, .slice Bthn ythn.length dthn, .slice Bels yels.length dels] 77)).cell? ⟨w.heap.size + 1, 7, none⟩ = some (.slice Bels yels.length dels) by rw [blk_cell hy]; rfl)
  clear hx hy es
  have HQ := hid (show ¬ EqP (⟨xkind, xname, xop, xe, xcond, xacts, xthn, xels⟩ : StmtM) ⟨xkind, xname, xop, xe, xcond, yacts, ythn, yels⟩ from fun h => NA.out (by cases h; rfl))
  go_enter Try.func27, Try.ntmps27
  go_wp2_with (go_at_call 53; refine (equalActs_any _ _ _ _ _ (by exact Hacts.out.below HB.out) (by exact Gacts.out.below HB.out)).mono ?_; rintro e w2 ⟨⟨r, rfl, hr⟩, hb2⟩; obtain rfl : r = false := (by cases r with | false => rfl | true => exact (NA.out (hr.1 rfl)).elim); have HB2 := hid (HB.out.trans (hb2.mono HB.out.size)); clear hr hb2)
  go_ret
  exact ⟨says_false HQ.out, HB2.out⟩
set_option maxHeartbeats 3200000 in
set_option maxRecDepth 100000 in
theorem sameStmt_thn (xkind xop xe xcond : Int) (xname : ByteArray) (xacts yacts : List ActM) (xthn ythn xels yels : List Int) (Aacts Bacts : Option Addr) (cacts dacts : Nat) (Athn Bthn : Option Addr) (cthn dthn : Nat) (Aels Bels : Option Addr) (cels dels : Nat) (w : World) (Hacts : Hid (ActsR w (.slice Aacts xacts.length cacts) xacts)) (Gacts : Hid (ActsR w (.slice Bacts yacts.length dacts) yacts)) (Hthn : Hid (IntsR w (.slice Athn xthn.length cthn) xthn)) (Gthn : Hid (IntsR w (.slice Bthn ythn.length dthn) ythn)) (Hels : Hid (IntsR w (.slice Aels xels.length cels) xels)) (Gels : Hid (IntsR w (.slice Bels yels.length dels) yels)) (NA : Hid (xacts = yacts)) (NT : Hid (¬ xthn = ythn)) :
    Calls Try.prog 27 #[.agg #[.int .u8 xkind, .string xname, .int .u8 xop, .int .i64 xe, .int .i64 xcond, .slice Aacts xacts.length cacts, .slice Athn xthn.length cthn, .slice Aels xels.length cels], .agg #[.int .u8 xkind, .string xname, .int .u8 xop, .int .i64 xe, .int .i64 xcond, .slice Bacts yacts.length dacts, .slice Bthn ythn.length dthn, .slice Bels yels.length dels]] w fun e w' => Says (EqP (⟨xkind, xname, xop, xe, xcond, xacts, xthn, xels⟩ : StmtM) ⟨xkind, xname, xop, xe, xcond, yacts, ythn, yels⟩) e ∧ Below w.heap.size w w' := by
  have HB := hid (((Below.refl w.heap.size w).alloc (Nat.le_refl _) (.cells #[.int .u8 xkind, .string xname, .int .u8 xop, .int .i64 xe, .int .i64 xcond, .slice Aacts xacts.length cacts, .slice Athn xthn.length cthn, .slice Aels xels.length cels] 77)).alloc (by simp) (.cells #[.int .u8 xkind, .string xname, .int .u8 xop, .int .i64 xe, .int .i64 xcond, .slice Bacts yacts.length dacts, .slice Bthn ythn.length dthn, .slice Bels yels.length dels] 77))
  have es : (w.alloc (.cells #[.int .u8 xkind, .string xname, .int .u8 xop, .int .i64 xe, .int .i64 xcond, .slice Aacts xacts.length cacts, .slice Athn xthn.length cthn, .slice Aels xels.length cels] 77)).heap.size = w.heap.size + 1 := by rw [World.size_alloc]
  have hx := old_blk (new_blk w (.cells #[.int .u8 xkind, .string xname, .int .u8 xop, .int .i64 xe, .int .i64 xcond, .slice Aacts xacts.length cacts, .slice Athn xthn.length cthn, .slice Aels xels.length cels] 77)) (.cells #[.int .u8 xkind, .string xname, .int .u8 xop, .int .i64 xe, .int .i64 xcond, .slice Bacts yacts.length dacts, .slice Bthn ythn.length dthn, .slice Bels yels.length dels] 77)
  have hy := new_blk (w.alloc (.cells #[.int .u8 xkind, .string xname, .int .u8 xop, .int .i64 xe, .int .i64 xcond, .slice Aacts xacts.length cacts, .slice Athn xthn.length cthn, .slice Aels xels.length cels] 77)) (.cells #[.int .u8 xkind, .string xname, .int .u8 xop, .int .i64 xe, .int .i64 xcond, .slice Bacts yacts.length dacts, .slice Bthn ythn.length dthn, .slice Bels yels.length dels] 77)
  rw [es] at hy
  have HX6 := hid (show ((w.alloc (.cells #[.int .u8 xkind, .string xname, .int .u8 xop, .int .i64 xe, .int .i64 xcond, .slice Aacts xacts.length cacts, .slice Athn xthn.length cthn, .slice Aels xels.length cels] 77)).alloc (.cells #[.int .u8 xkind, .string xname, .int .u8 xop, .int .i64 xe, .int .i64 xcond, .slice Bacts yacts.length dacts, .slice Bthn ythn.length dthn, .slice Bels yels.length dels] 77)).cell? ⟨w.heap.size, 6, none⟩ = some (.slice Athn xthn.length cthn) by rw [blk_cell hx]; rfl)
  have HY6 := hid (show ((w.alloc (.cells #[.int .u8 xkind, .string xname, .int .u8 xop, .int .i64 xe, .int .i64 xcond, .slice Aacts xacts.length cacts, .slice Athn xthn.length cthn, .slice Aels xels.length cels] 77)).alloc (.cells #[.int .u8 xkind, .string xname, .int .u8 xop, .int .i64 xe, .int .i64 xcond, .slice Bacts yacts.length dacts, .slice Bthn ythn.length dthn, .slice Bels yels.length dels] 77)).cell? ⟨w.heap.size + 1, 6, none⟩ = some (.slice Bthn ythn.length dthn) by rw [blk_cell hy]; rfl)
  have HX7 := hid (show ((w.alloc (.cells #[.int .u8 xkind, .string xname, .int .u8 xop, .int .i64 xe, .int .i64 xcond, .slice Aacts xacts.length cacts, .slice Athn xthn.length cthn, .slice Aels xels.length cels] 77)).alloc (.cells #[.int .u8 xkind, .string xname, .int .u8 xop, .int .i64 xe, .int .i64 xcond, .slice Bacts yacts.length dacts, .slice Bthn ythn.length dthn, .slice Bels yels.length dels] 77)).cell? ⟨w.heap.size, 7, none⟩ = some (.slice Aels xels.length cels) by rw [blk_cell hx]; rfl)
  have HY7 := hid (show ((w.alloc (.cells #[.int .u8 xkind, .string xname, .int .u8 xop, .int .i64 xe, .int .i64 xcond, .slice Aacts xacts.length cacts, .slice Athn xthn.length cthn, .slice Aels xels.length cels] 77)).alloc (.cells #[.int .u8 xkind, .string xname, .int .u8 xop, .int .i64 xe, .int .i64 xcond, .slice Bacts yacts.length dacts, .slice Bthn ythn.length dthn, .slice Bels yels.length dels] 77)).cell? ⟨w.heap.size + 1, 7, none⟩ = some (.slice Bels yels.length dels) by rw [blk_cell hy]; rfl)
  clear hx hy es
  have HQ := hid (show ¬ EqP (⟨xkind, xname, xop, xe, xcond, xacts, xthn, xels⟩ : StmtM) ⟨xkind, xname, xop, xe, xcond, yacts, ythn, yels⟩ from fun h => NT.out (by cases h; rfl))
  go_enter Try.func27, Try.ntmps27
  go_wp2_with first | (go_at_call 53; refine (equalActs_any _ _ _ _ _ (by exact Hacts.out.below HB.out) (by exact Gacts.out.below HB.out)).mono ?_; rintro e w2 ⟨⟨r, rfl, hr⟩, hb2⟩; obtain rfl : r = true := hr.2 NA.out; have HB2 := hid (HB.out.trans (hb2.mono HB.out.size)); have x6' := cell_keep hb2 HX6.out; have y6' := cell_keep hb2 HY6.out; have HX7' := hid (cell_keep hb2 HX7.out); have HY7' := hid (cell_keep hb2 HY7.out); clear hr hb2) | (go_at_call 28; refine (equalInts_any _ _ _ _ _ (by exact Hthn.out.below HB2.out) (by exact Gthn.out.below HB2.out)).mono ?_; rintro e w3 ⟨⟨r3, rfl, hr⟩, hb3⟩; obtain rfl : r3 = false := (by cases r3 with | false => rfl | true => exact (NT.out (hr.1 rfl)).elim); have HB3 := hid (HB2.out.trans (hb3.mono HB2.out.size)); clear hr hb3)
  go_ret
  exact ⟨says_false HQ.out, HB3.out⟩
set_option maxHeartbeats 3200000 in
set_option maxRecDepth 100000 in
theorem sameStmt_els (xkind xop xe xcond : Int) (xname : ByteArray) (xacts yacts : List ActM) (xthn ythn xels yels : List Int) (Aacts Bacts : Option Addr) (cacts dacts : Nat) (Athn Bthn : Option Addr) (cthn dthn : Nat) (Aels Bels : Option Addr) (cels dels : Nat) (w : World) (Hacts : Hid (ActsR w (.slice Aacts xacts.length cacts) xacts)) (Gacts : Hid (ActsR w (.slice Bacts yacts.length dacts) yacts)) (Hthn : Hid (IntsR w (.slice Athn xthn.length cthn) xthn)) (Gthn : Hid (IntsR w (.slice Bthn ythn.length dthn) ythn)) (Hels : Hid (IntsR w (.slice Aels xels.length cels) xels)) (Gels : Hid (IntsR w (.slice Bels yels.length dels) yels)) (NA : Hid (xacts = yacts)) (NT : Hid (xthn = ythn)) :
    Calls Try.prog 27 #[.agg #[.int .u8 xkind, .string xname, .int .u8 xop, .int .i64 xe, .int .i64 xcond, .slice Aacts xacts.length cacts, .slice Athn xthn.length cthn, .slice Aels xels.length cels], .agg #[.int .u8 xkind, .string xname, .int .u8 xop, .int .i64 xe, .int .i64 xcond, .slice Bacts yacts.length dacts, .slice Bthn ythn.length dthn, .slice Bels yels.length dels]] w fun e w' => Says (EqP (⟨xkind, xname, xop, xe, xcond, xacts, xthn, xels⟩ : StmtM) ⟨xkind, xname, xop, xe, xcond, yacts, ythn, yels⟩) e ∧ Below w.heap.size w w' := by
  have HB := hid (((Below.refl w.heap.size w).alloc (Nat.le_refl _) (.cells #[.int .u8 xkind, .string xname, .int .u8 xop, .int .i64 xe, .int .i64 xcond, .slice Aacts xacts.length cacts, .slice Athn xthn.length cthn, .slice Aels xels.length cels] 77)).alloc (by simp) (.cells #[.int .u8 xkind, .string xname, .int .u8 xop, .int .i64 xe, .int .i64 xcond, .slice Bacts yacts.length dacts, .slice Bthn ythn.length dthn, .slice Bels yels.length dels] 77))
  have es : (w.alloc (.cells #[.int .u8 xkind, .string xname, .int .u8 xop, .int .i64 xe, .int .i64 xcond, .slice Aacts xacts.length cacts, .slice Athn xthn.length cthn, .slice Aels xels.length cels] 77)).heap.size = w.heap.size + 1 := by rw [World.size_alloc]
  have hx := old_blk (new_blk w (.cells #[.int .u8 xkind, .string xname, .int .u8 xop, .int .i64 xe, .int .i64 xcond, .slice Aacts xacts.length cacts, .slice Athn xthn.length cthn, .slice Aels xels.length cels] 77)) (.cells #[.int .u8 xkind, .string xname, .int .u8 xop, .int .i64 xe, .int .i64 xcond, .slice Bacts yacts.length dacts, .slice Bthn ythn.length dthn, .slice Bels yels.length dels] 77)
  have hy := new_blk (w.alloc (.cells #[.int .u8 xkind, .string xname, .int .u8 xop, .int .i64 xe, .int .i64 xcond, .slice Aacts xacts.length cacts, .slice Athn xthn.length cthn, .slice Aels xels.length cels] 77)) (.cells #[.int .u8 xkind, .string xname, .int .u8 xop, .int .i64 xe, .int .i64 xcond, .slice Bacts yacts.length dacts, .slice Bthn ythn.length dthn, .slice Bels yels.length dels] 77)
  rw [es] at hy
  have HX6 := hid (show ((w.alloc (.cells #[.int .u8 xkind, .string xname, .int .u8 xop, .int .i64 xe, .int .i64 xcond, .slice Aacts xacts.length cacts, .slice Athn xthn.length cthn, .slice Aels xels.length cels] 77)).alloc (.cells #[.int .u8 xkind, .string xname, .int .u8 xop, .int .i64 xe, .int .i64 xcond, .slice Bacts yacts.length dacts, .slice Bthn ythn.length dthn, .slice Bels yels.length dels] 77)).cell? ⟨w.heap.size, 6, none⟩ = some (.slice Athn xthn.length cthn) by rw [blk_cell hx]; rfl)
  have HY6 := hid (show ((w.alloc (.cells #[.int .u8 xkind, .string xname, .int .u8 xop, .int .i64 xe, .int .i64 xcond, .slice Aacts xacts.length cacts, .slice Athn xthn.length cthn, .slice Aels xels.length cels] 77)).alloc (.cells #[.int .u8 xkind, .string xname, .int .u8 xop, .int .i64 xe, .int .i64 xcond, .slice Bacts yacts.length dacts, .slice Bthn ythn.length dthn, .slice Bels yels.length dels] 77)).cell? ⟨w.heap.size + 1, 6, none⟩ = some (.slice Bthn ythn.length dthn) by rw [blk_cell hy]; rfl)
  have HX7 := hid (show ((w.alloc (.cells #[.int .u8 xkind, .string xname, .int .u8 xop, .int .i64 xe, .int .i64 xcond, .slice Aacts xacts.length cacts, .slice Athn xthn.length cthn, .slice Aels xels.length cels] 77)).alloc (.cells #[.int .u8 xkind, .string xname, .int .u8 xop, .int .i64 xe, .int .i64 xcond, .slice Bacts yacts.length dacts, .slice Bthn ythn.length dthn, .slice Bels yels.length dels] 77)).cell? ⟨w.heap.size, 7, none⟩ = some (.slice Aels xels.length cels) by rw [blk_cell hx]; rfl)
  have HY7 := hid (show ((w.alloc (.cells #[.int .u8 xkind, .string xname, .int .u8 xop, .int .i64 xe, .int .i64 xcond, .slice Aacts xacts.length cacts, .slice Athn xthn.length cthn, .slice Aels xels.length cels] 77)).alloc (.cells #[.int .u8 xkind, .string xname, .int .u8 xop, .int .i64 xe, .int .i64 xcond, .slice Bacts yacts.length dacts, .slice Bthn ythn.length dthn, .slice Bels yels.length dels] 77)).cell? ⟨w.heap.size + 1, 7, none⟩ = some (.slice Bels yels.length dels) by rw [blk_cell hy]; rfl)
  clear hx hy es
  go_enter Try.func27, Try.ntmps27
  go_wp2_with first | (go_at_call 53; refine (equalActs_any _ _ _ _ _ (by exact Hacts.out.below HB.out) (by exact Gacts.out.below HB.out)).mono ?_; rintro e w2 ⟨⟨r, rfl, hr⟩, hb2⟩; obtain rfl : r = true := hr.2 NA.out; have HB2 := hid (HB.out.trans (hb2.mono HB.out.size)); have x6' := cell_keep hb2 HX6.out; have y6' := cell_keep hb2 HY6.out; have HX7' := hid (cell_keep hb2 HX7.out); have HY7' := hid (cell_keep hb2 HY7.out); clear hr hb2) | (go_at_call 28; refine (equalInts_any _ _ _ _ _ (by exact Hthn.out.below HB2.out) (by exact Gthn.out.below HB2.out)).mono ?_; rintro e w3 ⟨⟨r3, rfl, hr⟩, hb3⟩; obtain rfl : r3 = true := hr.2 NT.out; have HB3 := hid (HB2.out.trans (hb3.mono HB2.out.size)); have x7' := cell_keep hb3 HX7'.out; have y7' := cell_keep hb3 HY7'.out; clear hr hb3) | (go_at_call 28; refine (equalInts_any _ _ _ _ _ (by exact Hels.out.below HB3.out) (by exact Gels.out.below HB3.out)).mono ?_; rintro e w4 ⟨⟨r4, rfl, hr4⟩, hb4⟩)
  go_ret
  exact ⟨⟨r4, rfl, hr4.trans ⟨fun h => by have a := NA.out; have b := NT.out; subst h; subst a; subst b; exact rfl, fun h => by cases h; rfl⟩⟩, HB3.out.trans (hb4.mono HB3.out.size)⟩
set_option maxHeartbeats 3200000 in
set_option maxRecDepth 100000 in
theorem sameStmt_any (x y : StmtM) (vacts uacts vthn uthn vels uels : Value) (w : World) (hacts : ActsR w vacts x.acts) (gacts : ActsR w uacts y.acts) (hthn : IntsR w vthn x.thn) (gthn : IntsR w uthn y.thn) (hels : IntsR w vels x.els) (gels : IntsR w uels y.els) :
    Calls Try.prog 27 #[.agg #[.int .u8 x.kind, .string x.name, .int .u8 x.op, .int .i64 x.e, .int .i64 x.cond, vacts, vthn, vels], .agg #[.int .u8 y.kind, .string y.name, .int .u8 y.op, .int .i64 y.e, .int .i64 y.cond, uacts, uthn, uels]] w fun e w' => Says (EqP x y) e ∧ Below w.heap.size w w' := by
  obtain ⟨Aacts, cacts, rfl, _, _⟩ := Row.slice hacts
  obtain ⟨Bacts, dacts, rfl, _, _⟩ := Row.slice gacts
  obtain ⟨Athn, cthn, rfl, _, _⟩ := Row.slice hthn
  obtain ⟨Bthn, dthn, rfl, _, _⟩ := Row.slice gthn
  obtain ⟨Aels, cels, rfl, _, _⟩ := Row.slice hels
  obtain ⟨Bels, dels, rfl, _, _⟩ := Row.slice gels
  obtain ⟨xkind, xname, xop, xe, xcond, xacts, xthn, xels⟩ := x
  obtain ⟨ykind, yname, yop, ye, ycond, yacts, ythn, yels⟩ := y
  have Hacts := hid hacts
  have Gacts := hid gacts
  have Hthn := hid hthn
  have Gthn := hid gthn
  have Hels := hid hels
  have Gels := hid gels
  clear hacts gacts hthn gthn hels gels
  have HB := hid (((Below.refl w.heap.size w).alloc (Nat.le_refl _) (.cells #[.int .u8 xkind, .string xname, .int .u8 xop, .int .i64 xe, .int .i64 xcond, .slice Aacts xacts.length cacts, .slice Athn xthn.length cthn, .slice Aels xels.length cels] 77)).alloc (by simp) (.cells #[.int .u8 ykind, .string yname, .int .u8 yop, .int .i64 ye, .int .i64 ycond, .slice Bacts yacts.length dacts, .slice Bthn ythn.length dthn, .slice Bels yels.length dels] 77))
  by_cases n0 : xkind = ykind
  · subst n0
    by_cases n1 : xname = yname
    · subst n1
      by_cases n2 : xop = yop
      · subst n2
        by_cases n3 : xe = ye
        · subst n3
          by_cases n4 : xcond = ycond
          · subst n4
            by_cases na : xacts = yacts
            · by_cases nt : xthn = ythn
              · exact sameStmt_els _ _ _ _ _ _ _ _ _ _ _ _ _ _ _ _ _ _ _ _ _ _ _ w Hacts Gacts Hthn Gthn Hels Gels (hid na) (hid nt)
              · exact sameStmt_thn _ _ _ _ _ _ _ _ _ _ _ _ _ _ _ _ _ _ _ _ _ _ _ w Hacts Gacts Hthn Gthn Hels Gels (hid na) (hid nt)
            · exact sameStmt_acts _ _ _ _ _ _ _ _ _ _ _ _ _ _ _ _ _ _ _ _ _ _ _ w Hacts Gacts Hthn Gthn Hels Gels (hid na)
          · skip
            have HQ := hid (show ¬ EqP (⟨xkind, xname, xop, xe, xcond, xacts, xthn, xels⟩ : StmtM) ⟨xkind, xname, xop, xe, ycond, yacts, ythn, yels⟩ from fun h => by cases h; exact n4 rfl)
            go_enter Try.func27, Try.ntmps27
            go_wp2
            go_ret
            exact ⟨says_false HQ.out, HB.out⟩
        · skip
          have HQ := hid (show ¬ EqP (⟨xkind, xname, xop, xe, xcond, xacts, xthn, xels⟩ : StmtM) ⟨xkind, xname, xop, ye, ycond, yacts, ythn, yels⟩ from fun h => by cases h; exact n3 rfl)
          go_enter Try.func27, Try.ntmps27
          go_wp2
          go_ret
          exact ⟨says_false HQ.out, HB.out⟩
      · skip
        have HQ := hid (show ¬ EqP (⟨xkind, xname, xop, xe, xcond, xacts, xthn, xels⟩ : StmtM) ⟨xkind, xname, yop, ye, ycond, yacts, ythn, yels⟩ from fun h => by cases h; exact n2 rfl)
        go_enter Try.func27, Try.ntmps27
        go_wp2
        go_ret
        exact ⟨says_false HQ.out, HB.out⟩
    · skip
      have HQ := hid (show ¬ EqP (⟨xkind, xname, xop, xe, xcond, xacts, xthn, xels⟩ : StmtM) ⟨xkind, yname, yop, ye, ycond, yacts, ythn, yels⟩ from fun h => by cases h; exact n1 rfl)
      have nl : ¬ xname.toList = yname.toList := fun e => n1 (strl.1 e)
      clear n1
      go_enter Try.func27, Try.ntmps27
      go_wp2
      go_ret
      exact ⟨says_false HQ.out, HB.out⟩
  · skip
    have HQ := hid (show ¬ EqP (⟨xkind, xname, xop, xe, xcond, xacts, xthn, xels⟩ : StmtM) ⟨ykind, yname, yop, ye, ycond, yacts, ythn, yels⟩ from fun h => by cases h; exact n0 rfl)
    go_enter Try.func27, Try.ntmps27
    go_wp2
    go_ret
    exact ⟨says_false HQ.out, HB.out⟩
end Go.Proofs.Ytgaginegcjpddaa
/- Rows of expressions that are the same, by a function. Printed by gen_same4.py. -/
namespace Go.Proofs.Ytgaginegcjpddaa
open Go.RowKit
set_option maxHeartbeats 1600000 in
set_option maxRecDepth 100000 in
theorem equalStmts_any (a b : List StmtM) (v v2 : Value) (w : World) (h : StmtsR w v a) (h2 : StmtsR w v2 b) :
    Calls Try.prog 26 #[v, v2, .func (.func 27) #[] #[]] w fun e w' => Says (a = b) e ∧ Below w.heap.size w w' := by
  obtain ⟨A1, c1, rfl, hc1, hm1⟩ := Row.slice h
  obtain ⟨A2, c2, rfl, hc2, hm2⟩ := Row.slice h2
  have HD := hid h
  have HD2 := hid h2
  clear h h2
  by_cases hl : a.length = b.length
  · have HL := hid hl
    have hb2 : b.length = a.length := hl.symm
    rw [hb2]
    clear hl hb2
    go_enter Try.func26, Try.ntmps26
    go_wp2
    go_loopw [7, 8, 9, 17] (fun s7 s8 s9 s17 wr => ∃ i : Nat, i ≤ a.length ∧ s17 = .int .i64 (i : Int) ∧ Hid (Below w.heap.size w wr) ∧ Hid (∀ j, j < i → nth a j = nth b j)) (fun s7 s8 s9 s17 _ => a.length - (Go.RowKit.intOf s17).toNat)
    case atStart => exact ⟨0, by omega, rfl, hid (Below.refl _ _), hid (fun j hj => by omega)⟩
    case round =>
      obtain ⟨i, hi, rfl, HB, HN⟩ := hrel
      by_cases hlt : i < a.length
      · have hli : (i : Int) < (a.length : Int) := by omega
        obtain ⟨B, off, cs, rfl, hB, hr, _, hall⟩ := Row.elem HD.out (by omega) hlt
        obtain ⟨B2, off2, cs2, rfl, hB2, hr2, _, hall2⟩ := Row.elem HD2.out (by omega) (show i < b.length by have := HL.out; omega)
        have HNX := hid (show nth a i = nth b i → ∀ j, j < i + 1 → nth a j = nth b j from fun he j hj => (Nat.lt_or_ge j i).elim (fun h => HN.out j h) (fun h => by obtain rfl : j = i := (by omega); exact he))
        have HNE := hid (show nth a i ≠ nth b i → ¬ a = b from fun he e => he (by rw [e]))
        obtain ⟨d, hd⟩ : ∃ d, nth a i = d := ⟨_, rfl⟩
        obtain ⟨d2, hd2⟩ : ∃ d, nth b i = d := ⟨_, rfl⟩
        rw [hd, hd2] at HNX HNE
        rw [hd] at hr
        rw [hd2] at hr2
        obtain ⟨p0, p1, p2, rfl, hp0, hp1, hp2⟩ := hr
        obtain ⟨q0, q1, q2, rfl, hq0, hq1, hq2⟩ := hr2
        obtain ⟨P0, pc0, rfl, _, _⟩ := Row.slice hp0
        obtain ⟨Q0, qc0, rfl, _, _⟩ := Row.slice hq0
        obtain ⟨P1, pc1, rfl, _, _⟩ := Row.slice hp1
        obtain ⟨Q1, qc1, rfl, _, _⟩ := Row.slice hq1
        obtain ⟨P2, pc2, rfl, _, _⟩ := Row.slice hp2
        obtain ⟨Q2, qc2, rfl, _, _⟩ := Row.slice hq2
        have x0 := (HB.out.cell (p := ⟨B, off + i * 8, none⟩) hB).trans (by simpa using hall 0 _ rfl)
        have y0 := (HB.out.cell (p := ⟨B2, off2 + i * 8, none⟩) hB2).trans (by simpa using hall2 0 _ rfl)
        have x1 := (HB.out.cell (p := ⟨B, off + i * 8 + 1, none⟩) hB).trans (by simpa using hall 1 _ rfl)
        have y1 := (HB.out.cell (p := ⟨B2, off2 + i * 8 + 1, none⟩) hB2).trans (by simpa using hall2 1 _ rfl)
        have x2 := (HB.out.cell (p := ⟨B, off + i * 8 + 2, none⟩) hB).trans (by simpa using hall 2 _ rfl)
        have y2 := (HB.out.cell (p := ⟨B2, off2 + i * 8 + 2, none⟩) hB2).trans (by simpa using hall2 2 _ rfl)
        have x3 := (HB.out.cell (p := ⟨B, off + i * 8 + 3, none⟩) hB).trans (by simpa using hall 3 _ rfl)
        have y3 := (HB.out.cell (p := ⟨B2, off2 + i * 8 + 3, none⟩) hB2).trans (by simpa using hall2 3 _ rfl)
        have x4 := (HB.out.cell (p := ⟨B, off + i * 8 + 4, none⟩) hB).trans (by simpa using hall 4 _ rfl)
        have y4 := (HB.out.cell (p := ⟨B2, off2 + i * 8 + 4, none⟩) hB2).trans (by simpa using hall2 4 _ rfl)
        have x5 := (HB.out.cell (p := ⟨B, off + i * 8 + 5, none⟩) hB).trans (by simpa using hall 5 _ rfl)
        have y5 := (HB.out.cell (p := ⟨B2, off2 + i * 8 + 5, none⟩) hB2).trans (by simpa using hall2 5 _ rfl)
        have x6 := (HB.out.cell (p := ⟨B, off + i * 8 + 6, none⟩) hB).trans (by simpa using hall 6 _ rfl)
        have y6 := (HB.out.cell (p := ⟨B2, off2 + i * 8 + 6, none⟩) hB2).trans (by simpa using hall2 6 _ rfl)
        have x7 := (HB.out.cell (p := ⟨B, off + i * 8 + 7, none⟩) hB).trans (by simpa using hall 7 _ rfl)
        have y7 := (HB.out.cell (p := ⟨B2, off2 + i * 8 + 7, none⟩) hB2).trans (by simpa using hall2 7 _ rfl)
        have hBr : B2 < wr.heap.size := Nat.lt_of_lt_of_le hB2 HB.out.size
        have hBn : ¬ B2 = wr.heap.size := by omega
        have hBr1 : B < wr.heap.size := Nat.lt_of_lt_of_le hB HB.out.size
        have hBn1 : ¬ B = wr.heap.size := by omega
        have HP0 := hid (hp0.below HB.out)
        have HQ0 := hid (hq0.below HB.out)
        have HP1 := hid (hp1.below HB.out)
        have HQ1 := hid (hq1.below HB.out)
        have HP2 := hid (hp2.below HB.out)
        have HQ2 := hid (hq2.below HB.out)
        clear hall hall2 hd hd2 HN hp0 hq0 hp1 hq1 hp2 hq2
        by_cases he : EqP d d2
        · have HE := hid he
          clear he
          have HQX := hid (HNX.out HE.out)
          clear HNE HNX
          go_wp2_with (go_at_call 27; refine (sameStmt_any d d2 _ _ _ _ _ _ _ (by exact HP0.out.below (by exact (((Below.refl wr.heap.size wr).alloc (Nat.le_refl _) _).alloc (by simp) _))) (by exact HQ0.out.below (by exact (((Below.refl wr.heap.size wr).alloc (Nat.le_refl _) _).alloc (by simp) _))) (by exact HP1.out.below (by exact (((Below.refl wr.heap.size wr).alloc (Nat.le_refl _) _).alloc (by simp) _))) (by exact HQ1.out.below (by exact (((Below.refl wr.heap.size wr).alloc (Nat.le_refl _) _).alloc (by simp) _))) (by exact HP2.out.below (by exact (((Below.refl wr.heap.size wr).alloc (Nat.le_refl _) _).alloc (by simp) _))) (by exact HQ2.out.below (by exact (((Below.refl wr.heap.size wr).alloc (Nat.le_refl _) _).alloc (by simp) _)))).mono ?_; rintro e w2 ⟨⟨r, rfl, hr⟩, hb2⟩; obtain rfl : r = true := hr.2 HE.out; have HB3 := hid (HB.out.trans ((((Below.refl wr.heap.size wr).alloc (Nat.le_refl _) _).alloc (by simp) _).trans (hb2.mono (by simp; omega)) |>.mono HB.out.size)))
          go_roundw
          case rel => exact ⟨i + 1, by omega, by simp, HB3, HQX⟩
          case measure => simp [Go.RowKit.intOf]; omega
        · have HE := hid he
          clear he
          have HQX := hid (HNE.out HE.out)
          clear HNE HNX
          go_wp2_with (go_at_call 27; refine (sameStmt_any d d2 _ _ _ _ _ _ _ (by exact HP0.out.below (by exact (((Below.refl wr.heap.size wr).alloc (Nat.le_refl _) _).alloc (by simp) _))) (by exact HQ0.out.below (by exact (((Below.refl wr.heap.size wr).alloc (Nat.le_refl _) _).alloc (by simp) _))) (by exact HP1.out.below (by exact (((Below.refl wr.heap.size wr).alloc (Nat.le_refl _) _).alloc (by simp) _))) (by exact HQ1.out.below (by exact (((Below.refl wr.heap.size wr).alloc (Nat.le_refl _) _).alloc (by simp) _))) (by exact HP2.out.below (by exact (((Below.refl wr.heap.size wr).alloc (Nat.le_refl _) _).alloc (by simp) _))) (by exact HQ2.out.below (by exact (((Below.refl wr.heap.size wr).alloc (Nat.le_refl _) _).alloc (by simp) _)))).mono ?_; rintro e w2 ⟨⟨r, rfl, hr⟩, hb2⟩; obtain rfl : r = false := (by cases r with | false => rfl | true => exact (HE.out (hr.1 rfl)).elim); have HB3 := hid (HB.out.trans ((((Below.refl wr.heap.size wr).alloc (Nat.le_refl _) _).alloc (by simp) _).trans (hb2.mono (by simp; omega)) |>.mono HB.out.size)))
          go_ret
          exact ⟨says_false HQX.out, HB3.out⟩
      · have hie : i = a.length := by omega
        subst hie
        have hli : ¬ ((a.length : Int) < (a.length : Int)) := by omega
        have HQ := hid (ext_nth HL.out HN.out)
        clear HN
        go_wp2
        go_ret
        exact ⟨says_true HQ.out, HB.out⟩
  · have hli0 : ¬ ((a.length : Int) = (b.length : Int)) := by omega
    have HQ := hid (show ¬ a = b from fun e => hl (by rw [e]))
    clear hl
    go_enter Try.func26, Try.ntmps26
    go_wp2
    go_ret
    exact ⟨says_false HQ.out, Below.refl _ _⟩
end Go.Proofs.Ytgaginegcjpddaa
