/- Words of my own for the walks: what lists in memory read as, and what a call may change. No program in sight. -/
import Derived.WalkKit
import Derived.WalkLawsBesides
import Derived.Outline
import Derived.KernelRfl
import Derived.Deep.RegionLaw
import Derived.Deep.RegionHeld3
import Derived.Deep.QuietTactic
import Derived.BigQuiet
import Derived.BigRegion
import Derived.Maps.AppendAt
set_option linter.unusedVariables false
set_option linter.unusedSimpArgs false
namespace Go.Proofs.Ytlajcmoiopaemaa
open Go.RowKit

theorem hid {p : Prop} (h : p) : Hid p := h
theorem bcell {W w1 : World} (hb : Below W.heap.size W w1) : (∀ b o, b < W.heap.size → w1.cell? ⟨b, o, none⟩ = W.cell? ⟨b, o, none⟩) ∧ (∀ b o, b < W.heap.size → w1.frozen? ⟨b, o, none⟩ = W.frozen? ⟨b, o, none⟩) :=
  ⟨fun b o h => hb.cell (p := ⟨b, o, none⟩) h, fun b o h => hb.frozen (p := ⟨b, o, none⟩) h⟩
theorem alloc_lt {w : World} {k : Nat} (h : k < w.heap.size) (o : Obj) : k < (w.alloc o).heap.size := by rw [World.size_alloc]; omega
@[simp, go_sem] theorem alloc_drewN (w : World) (m : Nat) (o : Obj) : (w.drewN m).alloc o = (w.alloc o).drewN m := rfl
@[simp, go_sem] theorem setCell_drewN (w : World) (m : Nat) (a : Addr) (v : Value) : (w.drewN m).setCell a v = (w.setCell a v).drewN m := rfl
theorem drawn2 {w w1 : World} {a b : Nat} (h : w1 = (w.drewN a).drewN b) : ∃ n, w1 = w.drewN n := ⟨a + b, by rw [h, World.drewN_drewN]⟩
theorem drawn3 {w w1 : World} {a b c : Nat} (h : w1 = ((w.drewN a).drewN b).drewN c) : ∃ n, w1 = w.drewN n := ⟨a + (b + c), by rw [h, World.drewN_drewN, World.drewN_drewN]⟩
theorem i64w {x : Int} (h0 : -9223372036854775808 ≤ x) (h1 : x ≤ 9223372036854775807) : IntKind.i64.wrap x = x := by
  simp [IntKind.wrap, IntKind.signed, IntKind.bits]; omega
theorem ret_bool {a b : Bool} (h : a = b) : Ending.returned (.bool a) = .returned (.bool b) := by rw [h]
theorem ret_int {k : IntKind} {a b : Int} (h : a = b) : Ending.returned (.int k a) = .returned (.int k b) := by rw [h]
theorem ret_str {a b : ByteArray} (h : a = b) : Ending.returned (.string a) = .returned (.string b) := by rw [h]
/-! ### 1. Lists -/
def nth {α : Type} [Inhabited α] (l : List α) (i : Nat) : α := l.getD i default
theorem nth_eq {α : Type} [Inhabited α] {l : List α} {i : Nat} (h : i < l.length) : nth l i = l[i] := by simp [nth, List.getD, h]
theorem nth_some {α : Type} [Inhabited α] {l : List α} {i : Nat} (h : i < l.length) : l[i]? = some (nth l i) := by rw [nth_eq h]; simp [h]
theorem nth_append_left {α : Type} [Inhabited α] {l m : List α} {i : Nat} (h : i < l.length) : nth (l ++ m) i = nth l i := by
  rw [nth_eq h, nth_eq (by simp; omega), List.getElem_append_left h]
theorem nth_append_last {α : Type} [Inhabited α] {l : List α} {a : α} : nth (l ++ [a]) l.length = a := by
  rw [nth_eq (by simp)]; simp
theorem nth_drop {α : Type} [Inhabited α] {l : List α} {i k : Nat} : nth (l.drop k) i = nth l (k + i) := by simp [nth]
theorem nth_mem {α : Type} [Inhabited α] {l : List α} {i : Nat} (h : i < l.length) : nth l i ∈ l := by rw [nth_eq h]; exact List.getElem_mem h
theorem nth_set {α : Type} [Inhabited α] {l : List α} {i j : Nat} {a : α} (hi : i < l.length) : nth (l.set j a) i = if j = i then a else nth l i := by
  rw [nth_eq (by simpa using hi), nth_eq hi, List.getElem_set]
theorem take_succ_nth {α : Type} [Inhabited α] {l : List α} {k : Nat} (h : k < l.length) : l.take (k + 1) = l.take k ++ [nth l k] := by
  rw [List.take_succ_eq_append_getElem h, nth_eq h]
theorem drop_nth {α : Type} [Inhabited α] {l : List α} {k : Nat} (h : k < l.length) : l.drop k = nth l k :: l.drop (k + 1) := by
  rw [List.drop_eq_getElem_cons h, nth_eq h]

theorem add_plain' (g j : Nat) : (⟨g, 0, none⟩ : Addr).add j = ⟨g, j, none⟩ := by unfold Addr.add; split <;> simp_all
theorem add_off (g o j : Nat) : (⟨g, o, none⟩ : Addr).add j = ⟨g, o + j, none⟩ := by unfold Addr.add; split <;> simp_all

theorem str_slice {P : Program} {t : TypeId} (ht : P.underlying t = some .string) (s : ByteArray) (a b : Nat) (x y : Int) (hx : x = a) (hy : y = b) (h1 : a ≤ b) (h2 : b ≤ s.size) (W : World) :
    (Instr.slice t (.string s) (some (.int .i64 x)) (some (.int .i64 y)) none).run P W = .ok (.string (s.extract a b)) W := by
  subst hx; subst hy
  simp [Instr.slice, run_underlying ht, Instr.sliceBounds, Instr.sliceBound, h1, h2, Result.andThen, asIntOf]

/-! ### 2. What a call may change: the blocks of F, and whatever is new; behind it F' are those that may be changed -/
structure Grow (F : Nat → Prop) (w w' : World) (F' : Nat → Prop) : Prop where
  os : w'.os = w.os
  tape : w'.tape = w.tape
  output : w'.output = w.output
  size : w.heap.size ≤ w'.heap.size
  block : ∀ k, k < w.heap.size → ¬ F k → w'.heap[k]? = w.heap[k]?
  new : ∀ k, F' k → F k ∨ w.heap.size ≤ k
def none' : Nat → Prop := fun _ => False
theorem Grow.refl (F : Nat → Prop) (w : World) : Grow F w w F := ⟨rfl, rfl, rfl, Nat.le_refl _, fun _ _ _ => rfl, fun _ h => .inl h⟩
theorem Grow.trans {F F1 F2 : Nat → Prop} {a b c : World} (h : Grow F a b F1) (k : Grow F1 b c F2) : Grow F a c F2 :=
  ⟨k.os.trans h.os, k.tape.trans h.tape, k.output.trans h.output, Nat.le_trans h.size k.size,
    fun i hi hF => (k.block i (Nat.lt_of_lt_of_le hi h.size) (fun h1 => by rcases h.new i h1 with h2 | h2; exact hF h2; omega)).trans (h.block i hi hF),
    fun i hi => by
      rcases k.new i hi with h1 | h1
      · exact h.new i h1
      · exact .inr (Nat.le_trans h.size h1)⟩
theorem Grow.less {F F1 F2 : Nat → Prop} {a b : World} (h : Grow F a b F1) (hs : ∀ k, F2 k → F1 k) : Grow F a b F2 := ⟨h.os, h.tape, h.output, h.size, h.block, fun k hk => h.new k (hs k hk)⟩
theorem Grow.more {F F1 G : Nat → Prop} {a b : World} (h : Grow F a b F1) (hs : ∀ k, F k → G k) : Grow G a b F1 := ⟨h.os, h.tape, h.output, h.size, fun k hk hG => h.block k hk (fun hf => hG (hs k hf)), fun k hk => (h.new k hk).imp (hs k) id⟩
/-- Blocks beside: they stay those that may be changed. -/
theorem Grow.beside {F F1 : Nat → Prop} {a b : World} (h : Grow F a b F1) (E : Nat → Prop) : Grow (fun k => F k ∨ E k) a b (fun k => F1 k ∨ E k) :=
  ⟨h.os, h.tape, h.output, h.size, fun k hk hG => h.block k hk (fun hf => hG (.inl hf)), fun k hk => by
    rcases hk with hk | hk
    · exact (h.new k hk).imp .inl id
    · exact .inl (.inr hk)⟩
theorem Grow.drew {F F' : Nat → Prop} {a b : World} (h : Grow F a b F') : Grow F a b.drew F' := ⟨h.os, h.tape, h.output, h.size, h.block, h.new⟩
theorem Grow.drewN {F F' : Nat → Prop} {a b : World} (h : Grow F a b F') (n : Nat) : Grow F a (b.drewN n) F' := ⟨h.os, h.tape, h.output, h.size, h.block, h.new⟩
theorem Grow.alloc {F F' : Nat → Prop} {a b : World} (h : Grow F a b F') (o : Obj) : Grow F a (b.alloc o) F' :=
  ⟨h.os, h.tape, h.output, by have := h.size; simp; omega, fun k hk hF => (Below.heap_alloc _ _ _ (Nat.lt_of_lt_of_le hk h.size)).trans (h.block k hk hF), h.new⟩
/-- The new block is one that may be changed from now on. -/
theorem Grow.alloc_in {F F' : Nat → Prop} {a b : World} (h : Grow F a b F') (o : Obj) : Grow F a (b.alloc o) (fun k => F' k ∨ k = b.heap.size) :=
  ⟨h.os, h.tape, h.output, by have := h.size; simp; omega, fun k hk hF => (Below.heap_alloc _ _ _ (Nat.lt_of_lt_of_le hk h.size)).trans (h.block k hk hF), fun k hk => by
    rcases hk with hk | rfl
    · exact h.new k hk
    · exact .inr h.size⟩
theorem Grow.setCell {F F' : Nat → Prop} {a b : World} (h : Grow F a b F') {p : Addr} (hp : F' p.block) (u : Value) : Grow F a (b.setCell p u) F' :=
  ⟨h.os, h.tape, h.output, by simpa using h.size, fun k hk hF => (Below.heap_setCell _ _ _ _ (fun e => by subst e; rcases h.new _ hp with h1 | h1; exact hF h1; omega)).trans (h.block k hk hF), h.new⟩
theorem Grow.setNew {F F' : Nat → Prop} {a b : World} (h : Grow F a b F') {p : Addr} (hp : a.heap.size ≤ p.block) (u : Value) : Grow F a (b.setCell p u) F' :=
  ⟨h.os, h.tape, h.output, by simpa using h.size, fun k hk hF => (Below.heap_setCell _ _ _ _ (fun e => by subst e; omega)).trans (h.block k hk hF), h.new⟩
theorem Grow.below {F' : Nat → Prop} {a b : World} (h : Grow none' a b F') : Below a.heap.size a b := ⟨h.os, h.tape, h.output, h.size, fun k hk => h.block k hk id⟩
theorem Grow.of_below {F : Nat → Prop} {a b : World} (h : Below a.heap.size a b) : Grow F a b F := ⟨h.os, h.tape, h.output, h.size, fun k hk _ => h.block k hk, fun _ h => .inl h⟩
/-- Whatever lies below B, if all that may be changed lies from B on. -/
theorem Grow.below_of {F F' : Nat → Prop} {a b : World} (h : Grow F a b F') {B : Nat} (hB : B ≤ a.heap.size) (hF : ∀ k, F k → B ≤ k) : Below B a b :=
  ⟨h.os, h.tape, h.output, h.size, fun k hk => h.block k (by omega) (fun e => by have := hF k e; omega)⟩
theorem Grow.cell {F F' : Nat → Prop} {a b : World} (h : Grow F a b F') {p : Addr} {v : Value} (hc : a.cell? p = some v) (hF : ¬ F p.block) : b.cell? p = some v :=
  (World.cell?_of_block (h.block p.block (World.block_lt_of_cell? a p hc) hF)).trans hc
theorem Grow.lt {F F' : Nat → Prop} {a b : World} (h : Grow F a b F') {k : Nat} (hk : k < a.heap.size) (hF : ¬ F k) : ¬ F' k := fun e => by
  rcases h.new k e with h1 | h1
  · exact hF h1
  · omega

/-! ### 3. A block that is known whole -/
theorem blk_cell {w : World} {b : Nat} {cs : Array Value} {t : TypeId} {fr : Nat × Nat} (h : w.heap[b]? = some (.cells cs t fr)) (j : Nat) : w.cell? ⟨b, j, none⟩ = cs[j]? := by simp [World.cell?, h]
theorem blk_free {w : World} {b : Nat} {cs : Array Value} {t : TypeId} (h : w.heap[b]? = some (.cells cs t (0, 0))) (j : Nat) : w.frozen? ⟨b, j, none⟩ = false := by simp [World.frozen?, h]
theorem blk_lt {w : World} {b : Nat} {o : Obj} (h : w.heap[b]? = some o) : b < w.heap.size := (Array.getElem?_eq_some_iff.1 h).1
theorem blk_set {w : World} {b j : Nat} {cs : Array Value} {t : TypeId} {fr : Nat × Nat} (h : w.heap[b]? = some (.cells cs t fr)) (v : Value) : (w.setCell ⟨b, j, none⟩ v).heap[b]? = some (.cells (cs.setIfInBounds j v) t fr) := by
  simp [World.setCell, Array.getElem?_modify, h]

theorem keep_blk {W w1 : World} {b : Nat} {o : Obj} (hb : Below W.heap.size W w1) (h : W.heap[b]? = some o) : w1.heap[b]? = some o := (hb.block b (blk_lt h)).trans h
theorem set_blk {w : World} {b : Nat} {o : Obj} (h : w.heap[b]? = some o) (p : Addr) (v : Value) (hne : b ≠ p.block) : (w.setCell p v).heap[b]? = some o := (Below.heap_setCell _ _ _ _ hne).trans h
theorem new_blk (w : World) (o : Obj) : (w.alloc o).heap[w.heap.size]? = some o := heap_alloc_new w o
theorem old_blk {w : World} {b : Nat} {o : Obj} (h : w.heap[b]? = some o) (o' : Obj) : (w.alloc o').heap[b]? = some o := (Below.heap_alloc w o' b (blk_lt h)).trans h

/-! ### 4. Rows that are read. D: where they may lie; R: what an element's cells say -/
structure Row {α : Type} [Inhabited α] (w : World) (D : Nat → Prop) (R : α → List Value → Prop) (size : Nat) (v : Value) (l : List α) : Prop where
  out : ∃ A c, v = .slice A l.length c ∧ l.length ≤ c ∧ c ≤ 9223372036854775807 ∧
    (0 < l.length → ∃ b off, A = some ⟨b, off, none⟩ ∧ D b ∧ ∀ i, i < l.length → ∃ cs, R (nth l i) cs ∧ cs.length = size ∧ ∀ j u, cs[j]? = some u → w.cell? ⟨b, off + i * size + j, none⟩ = some u)
theorem Row.slice {α : Type} [Inhabited α] {w : World} {D : Nat → Prop} {R : α → List Value → Prop} {size : Nat} {v : Value} {l : List α} (h : Row w D R size v l) : ∃ A c, v = .slice A l.length c ∧ l.length ≤ c ∧ c ≤ 9223372036854775807 := by
  obtain ⟨A, c, h1, h2, h3, _⟩ := h.out
  exact ⟨A, c, h1, h2, h3⟩
theorem Row.nil {α : Type} [Inhabited α] (w : World) (D : Nat → Prop) (R : α → List Value → Prop) (size : Nat) : Row w D R size (.slice none 0 0) [] := ⟨none, 0, rfl, by simp, by omega, fun h => by simp at h⟩
/-- In another world, under another reading. -/
theorem Row.imp {α : Type} [Inhabited α] {w w' : World} {D D' : Nat → Prop} {R R' : α → List Value → Prop} {size : Nat} {v : Value} {l : List α} (h : Row w D R size v l)
    (hR : ∀ a cs, a ∈ l → R a cs → R' a cs) (hD : ∀ b, D b → b < w.heap.size → D' b ∧ w'.heap[b]? = w.heap[b]?) (hs : 0 < size) (hRs : ∀ a cs, R a cs → cs.length = size) : Row w' D' R' size v l := by
  obtain ⟨A, c, h1, h2, h3, h4⟩ := h.out
  refine ⟨A, c, h1, h2, h3, fun h0 => ?_⟩
  obtain ⟨b, off, hA, hDb, hall⟩ := h4 h0
  have hb : b < w.heap.size := by
    obtain ⟨cs, hr, hl, hc⟩ := hall 0 h0
    have h0' : 0 < cs.length := by omega
    have := hc 0 cs[0] (by simp [h0'])
    exact World.block_lt_of_cell? w _ this
  obtain ⟨hd', hsame⟩ := hD b hDb hb
  refine ⟨b, off, hA, hd', fun i hi => ?_⟩
  obtain ⟨cs, hr, hl, hc⟩ := hall i hi
  exact ⟨cs, hR _ _ (nth_mem hi) hr, hl, fun j u hj => (World.cell?_of_block (a := ⟨b, off + i * size + j, none⟩) hsame).trans (hc j u hj)⟩

/-- whole numbers -/
def IntR (x : Int) (cs : List Value) : Prop := cs = [.int .i64 x]
def Ints (w : World) (D : Nat → Prop) (v : Value) (l : List Int) : Prop := Row w D IntR 1 v l
theorem IntR.len {x : Int} {cs : List Value} (h : IntR x cs) : cs.length = 1 := by subst h; rfl
theorem Ints.imp {w w' : World} {D D' : Nat → Prop} {v : Value} {l : List Int} (h : Ints w D v l) (hD : ∀ b, D b → b < w.heap.size → D' b ∧ w'.heap[b]? = w.heap[b]?) : Ints w' D' v l :=
  Row.imp h (fun _ _ _ h => h) hD (by omega) (fun _ _ h => h.len)
theorem Ints.at_ {w : World} {D : Nat → Prop} {v : Value} {l : List Int} (h : Ints w D v l) (k : Nat) (hk : k < l.length) :
    ∃ b off c, v = .slice (some ⟨b, off, none⟩) l.length c ∧ l.length ≤ c ∧ c ≤ 9223372036854775807 ∧ D b ∧ b < w.heap.size ∧ w.cell? ⟨b, off + k, none⟩ = some (.int .i64 (nth l k)) := by
  obtain ⟨A, c, h1, h2, h3, h4⟩ := h.out
  obtain ⟨b, off, hA, hD, hall⟩ := h4 (by omega)
  obtain ⟨cs, hr, _, hc⟩ := hall k hk
  have hr' : cs = [.int .i64 (nth l k)] := hr
  subst hr'; subst hA
  have hcell := hc 0 _ rfl
  simp only [Nat.mul_one, Nat.add_zero] at hcell
  exact ⟨b, off, c, h1, h2, h3, hD, World.block_lt_of_cell? w _ hcell, hcell⟩
/-- all of them at once, for a loop -/
theorem Ints.all {w : World} {D : Nat → Prop} {v : Value} {l : List Int} (h : Ints w D v l) (h0 : 0 < l.length) :
    ∃ b off c, v = .slice (some ⟨b, off, none⟩) l.length c ∧ l.length ≤ c ∧ c ≤ 9223372036854775807 ∧ D b ∧ b < w.heap.size ∧ ∀ k, k < l.length → w.cell? ⟨b, off + k, none⟩ = some (.int .i64 (nth l k)) := by
  obtain ⟨A, c, h1, h2, h3, h4⟩ := h.out
  obtain ⟨b, off, hA, hD, hall⟩ := h4 h0
  subst hA
  have key : ∀ k, k < l.length → w.cell? ⟨b, off + k, none⟩ = some (.int .i64 (nth l k)) := by
    intro k hk
    obtain ⟨cs, hr, _, hc⟩ := hall k hk
    have hr' : cs = [.int .i64 (nth l k)] := hr
    subst hr'
    have hcell := hc 0 _ rfl
    simpa only [Nat.mul_one, Nat.add_zero] using hcell
  exact ⟨b, off, c, h1, h2, h3, hD, World.block_lt_of_cell? w _ (key 0 h0), key⟩

/-! ### 5. Rows that are made: elements one behind the other -/
inductive RowC {α : Type} (R : α → List Value → Prop) : List α → List Value → Prop where
  | nil : RowC R [] []
  | snoc {l : List α} {xs : List Value} {a : α} {cs : List Value} : RowC R l xs → R a cs → RowC R (l ++ [a]) (xs ++ cs)
theorem RowC.imp {α : Type} {R R' : α → List Value → Prop} {l : List α} {xs : List Value} (h : RowC R l xs) (hR : ∀ a cs, a ∈ l → R a cs → R' a cs) : RowC R' l xs := by
  induction h with
  | nil => exact .nil
  | snoc _ hr ih => exact .snoc (ih fun a cs ha => hR a cs (by simp [ha])) (hR _ _ (by simp) hr)
theorem RowC.len {α : Type} {R : α → List Value → Prop} {size : Nat} (hs : ∀ a cs, R a cs → cs.length = size) {l : List α} {xs : List Value} (h : RowC R l xs) : xs.length = l.length * size := by
  induction h with
  | nil => simp
  | snoc _ hr ih => simp [ih, hs _ _ hr, Nat.add_mul]
theorem RowC.at_ {α : Type} [Inhabited α] {R : α → List Value → Prop} {size : Nat} (hs : ∀ a cs, R a cs → cs.length = size) {l : List α} {xs : List Value} (h : RowC R l xs) :
    ∀ i, i < l.length → ∃ cs, R (nth l i) cs ∧ cs.length = size ∧ ∀ j u, cs[j]? = some u → xs[i * size + j]? = some u := by
  induction h with
  | nil => intro i hi; simp at hi
  | snoc h hr ih =>
    rename_i l xs a cs
    intro i hi
    have hxl := h.len hs
    rcases Nat.lt_or_ge i l.length with hlt | hge
    · obtain ⟨c, h1, h2, h3⟩ := ih i hlt
      refine ⟨c, by rw [nth_append_left hlt]; exact h1, h2, fun j u hj => ?_⟩
      have hj' : j < size := by have := (List.getElem?_eq_some_iff.1 hj).1; omega
      have : i * size + j < xs.length := by
        rw [hxl]
        have := Nat.mul_le_mul_right size (show i + 1 ≤ l.length by omega)
        rw [Nat.add_mul] at this; omega
      rw [List.getElem?_append_left this]
      exact h3 j u hj
    · have hi' : i = l.length := by simp at hi; omega
      subst hi'
      refine ⟨cs, by rw [nth_append_last]; exact hr, hs _ _ hr, fun j u hj => ?_⟩
      rw [List.getElem?_append_right (by omega)]
      rw [show l.length * size + j - xs.length = j by omega]
      exact hj
/-- A row of the call's own, with what its elements are. -/
structure Own {α : Type} (w : World) (e size : Nat) (R : α → List Value → Prop) (v : Value) (l : List α) : Prop where
  out : ∃ xs, w.ownsRow 0 e size v l.length xs ∧ RowC R l xs
theorem Own.nil {α : Type} (w : World) (e size : Nat) (R : α → List Value → Prop) : Own w e size R (.slice none 0 0) [] := ⟨[], World.ownsRow_nil w 0 e size, .nil⟩
theorem Own.shape {α : Type} {w : World} {e size : Nat} {R : α → List Value → Prop} {v : Value} {l : List α} (h : Own w e size R v l) :
    (v = .slice none 0 0 ∧ l = []) ∨ ∃ g cap, v = .slice (some ⟨g, 0, none⟩) l.length cap ∧ l.length ≤ cap ∧ cap ≤ 9223372036854775807 ∧ g < w.heap.size := by
  obtain ⟨xs, ho, hc⟩ := h.out
  rcases ho.2 with ⟨h1, h2⟩ | ⟨g, cap, cur, h1, _, hg, h2, h3, _⟩
  · exact .inl ⟨h1, List.eq_nil_of_length_eq_zero h2⟩
  · exact .inr ⟨g, cap, h1, h2, by simpa [maxLen] using h3, blk_lt hg⟩
theorem Own.slice {α : Type} {w : World} {e size : Nat} {R : α → List Value → Prop} {v : Value} {l : List α} (h : Own w e size R v l) :
    ∃ A c, v = .slice A l.length c ∧ l.length ≤ c ∧ c ≤ 9223372036854775807 := by
  rcases h.shape with ⟨rfl, rfl⟩ | ⟨g, cap, h1, h2, h3, _⟩
  · exact ⟨none, 0, rfl, by simp, by omega⟩
  · exact ⟨_, cap, h1, h2, h3⟩
theorem Own.imp {α : Type} {w w' : World} {e size : Nat} {R R' : α → List Value → Prop} {v : Value} {l : List α} (h : Own w e size R v l) (hR : ∀ a cs, a ∈ l → R a cs → R' a cs)
    (hb : ∀ g, v.ownBlock = some g → g < w.heap.size → w'.heap[g]? = w.heap[g]?) : Own w' e size R' v l := by
  obtain ⟨xs, ho, hc⟩ := h.out
  refine ⟨xs, ⟨ho.1, ?_⟩, hc.imp hR⟩
  rcases ho.2 with h1 | ⟨g, cap, cur, h1, h2, hg, r⟩
  · exact .inl h1
  · exact .inr ⟨g, cap, cur, h1, h2, by rw [hb g (by rw [h1]; rfl) (blk_lt hg)]; exact hg, r⟩
/-- An owned row reads as a row. -/
theorem Own.row {α : Type} [Inhabited α] {w : World} {e size : Nat} {R : α → List Value → Prop} {v : Value} {l : List α} {D : Nat → Prop} (h : Own w e size R v l) (hs : ∀ a cs, R a cs → cs.length = size) (hD : ∀ g, v.ownBlock = some g → D g) : Row w D R size v l := by
  obtain ⟨xs, ho, hc⟩ := h.out
  rcases h.shape with ⟨rfl, rfl⟩ | ⟨g, cap, rfl, h2, h3, _⟩
  · exact Row.nil w D R size
  · refine ⟨_, cap, rfl, h2, h3, fun h0 => ⟨g, 0, rfl, hD g rfl, fun i hi => ?_⟩⟩
    obtain ⟨cs, hr, hl, hcs⟩ := hc.at_ hs i hi
    refine ⟨cs, hr, hl, fun j u hj => ?_⟩
    have := ho.cells (g := g) rfl (i * size + j) u (hcs j u hj)
    rwa [add_plain', ← Nat.zero_add (i * size), ] at this

theorem Own.of_heap {α : Type} {w w' : World} {e size : Nat} {R : α → List Value → Prop} {v : Value} {l : List α} (h : Own w e size R v l) (he : w'.heap = w.heap) : Own w' e size R v l :=
  h.imp (fun _ _ _ h => h) (fun g _ _ => by rw [he])
theorem Own.setCell {α : Type} {w : World} {e size : Nat} {R : α → List Value → Prop} {v : Value} {l : List α} (h : Own w e size R v l) (p : Addr) (u : Value) (hne : v.ownBlock ≠ some p.block) : Own (w.setCell p u) e size R v l :=
  h.imp (fun _ _ _ h => h) (fun g hg _ => Below.heap_setCell _ _ _ _ (fun e => hne (by rw [hg, e])))
theorem Own.alloc {α : Type} {w : World} {e size : Nat} {R : α → List Value → Prop} {v : Value} {l : List α} (h : Own w e size R v l) (o : Obj) : Own (w.alloc o) e size R v l :=
  h.imp (fun _ _ _ h => h) (fun g _ hlt => Below.heap_alloc w o g hlt)
theorem Own.below {α : Type} {w w' : World} {e size : Nat} {R : α → List Value → Prop} {v : Value} {l : List α} (h : Own w e size R v l) (hb : Below w.heap.size w w') : Own w' e size R v l :=
  h.imp (fun _ _ _ h => h) (fun g _ hlt => hb.block g hlt)

/-! ### 6. Appending one element -/
structure AppTy (P : Program) (t e : TypeId) (size bytes : Nat) : Prop where
  und : P.underlying t = some (.slice e)
  info : ∃ i z, P.info? e = some i ∧ i.zero = some z ∧ i.size = size ∧ i.bytes = bytes ∧ z.cells.size = size
  pos : 0 < size
theorem AppTy.mk' {P : Program} {t e : TypeId} (z : Value) (size bytes : Nat) (h : P.underlying t = some (.slice e)) (hi : (P.info? e).map (fun i => (i.zero, i.size, i.bytes)) = some (some z, size, bytes)) (hz : z.cells.size = size) (hs : 0 < size) : AppTy P t e size bytes := by
  obtain ⟨i0, hi, hzz⟩ := Option.map_eq_some_iff.1 hi
  simp only [Prod.mk.injEq] at hzz
  exact ⟨h, ⟨i0, z, hi, hzz.1, hzz.2.1, hzz.2.2, hz⟩, hs⟩
/-- What an append of one element leaves: a row, in the old one's block or in a new one; the old value reads as it did. -/
structure Grew {α : Type} (w w' : World) (v : Value) (e size : Nat) (R : α → List Value → Prop) (l0 l : List α) (g cap : Nat) : Prop where
  own : Own w' e size R (.slice (some ⟨g, 0, none⟩) l.length cap) l
  old : Own w' e size R v l0
  grown : w.grownBy w' v.ownBlock
  lies : v.ownBlock = some g ∨ w.heap.size ≤ g
  lt : g < w'.heap.size
theorem own_append {P : Program} {W w : World} {t e ty : TypeId} {size bytes : Nat} (T : AppTy P t e size bytes) {α : Type} {R : α → List Value → Prop} {v : Value} {l : List α} (B : Nat) (a : α) (cs : List Value)
    (hsz : W.heap.size ≤ w.heap.size) (hos : w.os = W.os) (ht : w.tape = W.tape) (hout : w.output = W.output) (hold : ∀ k, k < W.heap.size → w.heap[k]? = W.heap[k]?)
    (hB : w.heap[B]? = some (.cells cs.toArray e (0, 0))) (hown : Own W e size R v l) (hr : R a cs) (hl : cs.length = size) (h1 : ∀ u ∈ cs, u.oneCell' = true) (hn : (l.length + 1) * bytes ≤ 140737488355328) (hn2 : l.length + 1 ≤ 9223372036854775807) :
    ∃ g cap w', (Builtin.append_ #[t, t] ty #[v, .slice (some ⟨B, 0, none⟩) 1 1]).run P w = .ok (.slice (some ⟨g, 0, none⟩) (l.length + 1) cap) w' ∧ Grew W w' v e size R l (l ++ [a]) g cap := by
  obtain ⟨i0, z, hi, hz0, hz1, hz2, hzs⟩ := T.info
  obtain ⟨xs, ho, hc⟩ := hown.out
  have ho' : w.ownsRow 0 e size v l.length xs := by
    refine ⟨ho.1, ?_⟩
    rcases ho.2 with h | ⟨g, cap, cur, h1, h2, hg, r⟩
    · exact .inl h
    · exact .inr ⟨g, cap, cur, h1, h2, by rw [hold g (blk_lt hg)]; exact hg, r⟩
  have hnews : ∀ j u, cs[j]? = some u → w.cell? ((⟨B, 0, none⟩ : Addr).add j) = some u := by
    intro j u hj; rw [add_plain', blk_cell hB]; simpa using hj
  have hlen : (xs ++ cs).length = (l.length + 1) * size := by rw [List.length_append, ho.1, hl, Nat.add_mul, Nat.one_mul]
  -- a new block: nothing that was there turns
  have fresh : ∀ v' w', w'.ownsRow w.heap.size e size v' (l.length + 1) (xs ++ cs) → w.grownBy w' none →
      ∃ g cap, v' = .slice (some ⟨g, 0, none⟩) (l.length + 1) cap ∧ Grew W w' v e size R l (l ++ [a]) g cap := by
    intro v' w' h2 h3
    rcases h2.2 with ⟨_, h⟩ | ⟨g, cap, cur, hv, hg, hh, r1, r2, r3⟩
    · omega
    · refine ⟨g, cap, hv, ⟨xs ++ cs, ⟨by simpa using h2.1, .inr ⟨g, cap, cur, rfl, Nat.zero_le _, hh, by simpa using r1, r2, by simpa using r3⟩⟩, .snoc hc hr⟩, ⟨xs, ⟨ho'.1, ?_⟩, hc⟩, ⟨h3.os.trans hos, h3.tape.trans ht, h3.output.trans hout, Nat.le_trans hsz h3.size, fun k hk _ => (h3.block k (by omega) (by simp)).trans (hold k hk)⟩, .inr (by omega), blk_lt hh⟩
      rcases ho'.2 with h | ⟨g0, cap0, cur0, q1, q2, q3, q⟩
      · exact .inl h
      · exact .inr ⟨g0, cap0, cur0, q1, q2, (h3.block g0 (blk_lt q3) (by simp)).trans q3, q⟩
  rcases ho'.2 with ⟨rfl, hz⟩ | ⟨g, cap, cur, rfl, hb0, hg, hnc, hcm, hcs, htk⟩
  · have hx : xs = [] := List.eq_nil_of_length_eq_zero (by rw [ho.1, hz, Nat.zero_mul])
    have hzl : l.length = 0 := hz
    obtain ⟨v', w', hrn, h2, h3, _⟩ := run_append_own (P := P) w w.heap.size t ty e i0 z size bytes T.und hi hz0 hz1 hz2 hzs T.pos (.slice none 0 0) 0 [] (World.ownsRow_nil w _ e size) ⟨B, 0, none⟩ 1 1 cs (by simpa using hl) hnews h1 (by unfold maxLen; omega) (by rw [hzl] at hn; simpa using hn) (Nat.le_refl _)
    obtain ⟨g, cap, hv, hG⟩ := fresh v' w' (by rw [hzl, hx]; simpa using h2) h3
    exact ⟨g, cap, w', by rw [hrn, hv], hG⟩
  · by_cases hroom : l.length + 1 ≤ cap
    · have hfit : l.length * i0.size + cs.length ≤ cur.size := by rw [hl, hcs, hz1, ← Nat.succ_mul]; exact Nat.mul_le_mul_right _ hroom
      have hrn := run_append_room (P := P) w t ty e i0 T.und hi g l.length cap cur hg ⟨B, 0, none⟩ 1 1 cs (by simpa [hz1] using hl) hnews h1 hroom hfit
      rw [hz1] at hrn hfit
      have hh := setRow_heap w g cur (cur.toList.take (l.length * size) ++ cs ++ cur.toList.drop (l.length * size + cs.length)).toArray e (0, 0) hg
      have hsize : (cur.toList.take (l.length * size) ++ cs ++ cur.toList.drop (l.length * size + cs.length)).length = cap * size := by
        simp only [List.length_append, List.length_take, List.length_drop, Array.length_toList]
        rw [← hcs]
        omega
      refine ⟨g, cap, _, hrn, ⟨⟨xs ++ cs, ⟨by simpa using hlen, .inr ⟨g, cap, _, by simp, Nat.zero_le _, hh, by simpa using hroom, hcm, by simpa using hsize, ?_⟩⟩, .snoc hc hr⟩, ⟨xs, ⟨ho'.1, .inr ⟨g, cap, _, rfl, Nat.zero_le _, hh, hnc, hcm, by simpa using hsize, ?_⟩⟩, hc⟩,
        ⟨hos, ht, hout, by simpa using hsz, fun k hk hne => (setRow_other w g k _ (fun e => hne (by simp [Value.ownBlock, e]))).trans (hold k hk)⟩, .inl rfl, by simpa using blk_lt hg⟩⟩
      · simp only [List.length_append, List.length_singleton]
        rw [← hlen, htk]
        exact List.take_left
      · simp only
        rw [List.append_assoc, htk, ← ho.1]
        exact List.take_left
    · obtain ⟨v', w', hrn, h2, h3⟩ := run_append_arg_grows (P := P) w t ty e i0 z size bytes T.und hi hz0 hz1 hz2 hzs T.pos ⟨g, 0, none⟩ l.length cap xs ho'.1 (fun j u hj => ho'.cells (g := g) rfl j u hj) ⟨B, 0, none⟩ 1 1 cs (by simpa using hl) hnews (by omega) (by unfold maxLen; omega) hn
      obtain ⟨g', cap', hv, hG⟩ := fresh v' w' h2 h3
      exact ⟨g', cap', w', by rw [hrn, hv], hG⟩
/-- as a step of a region that draws -/
theorem step_append_one {P : Program} {ops : Array Oper} {o : Oper} {a : Act} {W w : World} {K : Act → World → Prop} {Q : Exit → Act → World → Prop} {E : Prop}
    {t e : TypeId} {size bytes : Nat} (T : AppTy P t e size bytes) (hg : o.guard = none) (s x : Operand) (hop : o.op = Op.call { callee := Callee.builtin Builtin.append, args := #[s, x], argTypes := #[t, t] })
    {α : Type} {R : α → List Value → Prop} (v : Value) (l : List α) (hs : a.eval s = v) (B : Nat) (y : α) (cs : List Value) (hx : a.eval x = .slice (some ⟨B, 0, none⟩) 1 1)
    (hB : B = W.heap.size) (hw : w = (W.alloc (.cells cs.toArray e)).drew) (hown : Own W e size R v l) (hr : R y cs) (hl : cs.length = size) (h1 : ∀ u ∈ cs, u.oneCell' = true) (hn : (l.length + 1) * bytes ≤ 140737488355328) (hn2 : l.length + 1 ≤ 9223372036854775807)
    (h : ∀ g cap w', Grew W w' v e size R l (l ++ [y]) g cap → K (a.put o.dst (.slice (some ⟨g, 0, none⟩) (l.length + 1) cap)) w') :
    if Region.wanted o (yielded ops a.tmps) = true then Oper.wp P o a w K Q else E := by
  have hwn : Region.wanted o (yielded ops a.tmps) = true := by simp [Region.wanted, hg]
  rw [if_pos hwn]
  subst hw; subst hB
  obtain ⟨g, cap, w', hrn, hG⟩ := own_append (W := W) (ty := o.type) T W.heap.size y cs (w := (W.alloc (.cells cs.toArray e)).drew) (by simp) rfl rfl rfl (fun k hk => Below.heap_alloc W _ k hk) (heap_alloc_new W _) hown hr hl h1 hn hn2
  unfold Oper.wp
  simp [execOp, hop, resolve, invoke, builtin, hs, hx, hrn, Result.andThen]
  exact h g cap w' hG
/-- in a region that is walked in the text's order -/
theorem wpList_append_one {P : Program} {ops : Array Oper} {rest : List Oper} {o : Oper} {a : Act} {W w : World} {Q : Exit → Act → World → Prop}
    {t e : TypeId} {size bytes : Nat} (T : AppTy P t e size bytes) (hg : o.guard = none) (s x : Operand) (hop : o.op = Op.call { callee := Callee.builtin Builtin.append, args := #[s, x], argTypes := #[t, t] })
    {α : Type} {R : α → List Value → Prop} (v : Value) (l : List α) (hs : a.eval s = v) (B : Nat) (y : α) (cs : List Value) (hx : a.eval x = .slice (some ⟨B, 0, none⟩) 1 1)
    (hB : B = W.heap.size) (hw : w = W.alloc (.cells cs.toArray e)) (hown : Own W e size R v l) (hr : R y cs) (hl : cs.length = size) (h1 : ∀ u ∈ cs, u.oneCell' = true) (hn : (l.length + 1) * bytes ≤ 140737488355328) (hn2 : l.length + 1 ≤ 9223372036854775807)
    (h : ∀ g cap w', Grew W w' v e size R l (l ++ [y]) g cap → wpList P ops Q rest (a.put o.dst (.slice (some ⟨g, 0, none⟩) (l.length + 1) cap)) w') :
    wpList P ops Q (o :: rest) a w := by
  subst hw; subst hB
  refine wpList_plain hg fun K hK => ?_
  obtain ⟨g, cap, w', hrn, hG⟩ := own_append (W := W) (ty := o.type) T W.heap.size y cs (w := W.alloc (.cells cs.toArray e)) (by simp) rfl rfl rfl (fun k hk => Below.heap_alloc W _ k hk) (heap_alloc_new W _) hown hr hl h1 hn hn2
  unfold Oper.wp execOp
  simp only [hop, resolve, invoke, builtin, Sem.run_bind, Sem.run_pure, Result.andThen_ok, List.map_toArray, List.map_cons, List.map_nil, hs, hx, hrn]
  exact hK _ _ (h g cap w' hG)
theorem Grew.grow {α : Type} {w w' : World} {v : Value} {e size : Nat} {R : α → List Value → Prop} {l0 l : List α} {g cap : Nat} (h : Grew w w' v e size R l0 l g cap) {F : Nat → Prop} (hF : ∀ k, v.ownBlock = some k → F k) : Grow F w w' (fun k => F k ∨ k = g) :=
  ⟨h.grown.os, h.grown.tape, h.grown.output, h.grown.size, fun k hk hne => h.grown.block k hk (fun e => hne (hF k e.symm)), fun k hk => by
    rcases hk with hk | rfl
    · exact .inl hk
    · exact h.lies.imp (hF k) id⟩
/-- another block than the row's stands as it stood -/
theorem Grew.keep {α : Type} {w w' : World} {v : Value} {e size : Nat} {R : α → List Value → Prop} {l0 l : List α} {g cap : Nat} (h : Grew w w' v e size R l0 l g cap) {b : Nat} {o : Obj} (hb : w.heap[b]? = some o) (hne : v.ownBlock ≠ some b) : w'.heap[b]? = some o :=
  (h.grown.block b (blk_lt hb) (fun e => hne e.symm)).trans hb
theorem Grew.ne {α : Type} {w w' : World} {v : Value} {e size : Nat} {R : α → List Value → Prop} {l0 l : List α} {g cap : Nat} (h : Grew w w' v e size R l0 l g cap) {b : Nat} {o : Obj} (hb : w.heap[b]? = some o) (hne : v.ownBlock ≠ some b) : g ≠ b := by
  have := blk_lt hb
  rcases h.lies with h | h
  · intro e; subst e; exact hne h
  · omega
end Go.Proofs.Ytlajcmoiopaemaa
