/- Words of my own for the walks: what lists in memory read as, and what a call may change. No program in sight. -/
import Derived.WalkKit
import Derived.WalkLawsBesides
import Derived.Outline
import Derived.KernelRfl
import Derived.Deep.RegionLaw
import Derived.Deep.RegionHeld3
import Derived.Deep.QuietTactic
import Derived.BigQuiet
import Derived.BigRegion
import Derived.Maps.AppendAt
import Derived.StillTail
import Derived.StillTailTactics
import Derived.IntWalk
import Derived.Test.YtgaginegcjpddaaProg
import Derived.Lib.ItoaNum
import Derived.Laws.BytesArg
set_option linter.unusedVariables false
set_option linter.unusedSimpArgs false
namespace Go.Proofs.Ytgaginegcjpddaa
open Go.RowKit

theorem hid {p : Prop} (h : p) : Hid p := h
theorem bcell {W w1 : World} (hb : Below W.heap.size W w1) : (∀ b o, b < W.heap.size → w1.cell? ⟨b, o, none⟩ = W.cell? ⟨b, o, none⟩) ∧ (∀ b o, b < W.heap.size → w1.frozen? ⟨b, o, none⟩ = W.frozen? ⟨b, o, none⟩) :=
  ⟨fun b o h => hb.cell (p := ⟨b, o, none⟩) h, fun b o h => hb.frozen (p := ⟨b, o, none⟩) h⟩
theorem drawn2 {w w1 : World} {a b : Nat} (h : w1 = (w.drewN a).drewN b) : ∃ n, w1 = w.drewN n := ⟨a + b, by rw [h, World.drewN_drewN]⟩
theorem i64w {x : Int} (h0 : -9223372036854775808 ≤ x) (h1 : x ≤ 9223372036854775807) : IntKind.i64.wrap x = x := by
  simp [IntKind.wrap, IntKind.signed, IntKind.bits]; omega
theorem ret_bool {a b : Bool} (h : a = b) : Ending.returned (.bool a) = .returned (.bool b) := by rw [h]
theorem ret_int {k : IntKind} {a b : Int} (h : a = b) : Ending.returned (.int k a) = .returned (.int k b) := by rw [h]
/-! ### 1. Lists -/
def nth {α : Type} [Inhabited α] (l : List α) (i : Nat) : α := l.getD i default
theorem nth_eq {α : Type} [Inhabited α] {l : List α} {i : Nat} (h : i < l.length) : nth l i = l[i] := by simp [nth, List.getD, h]
theorem nth_some {α : Type} [Inhabited α] {l : List α} {i : Nat} (h : i < l.length) : l[i]? = some (nth l i) := by rw [nth_eq h]; simp [h]
theorem nth_append_left {α : Type} [Inhabited α] {l m : List α} {i : Nat} (h : i < l.length) : nth (l ++ m) i = nth l i := by
  rw [nth_eq h, nth_eq (by simp; omega), List.getElem_append_left h]
theorem nth_append_last {α : Type} [Inhabited α] {l : List α} {a : α} : nth (l ++ [a]) l.length = a := by
  rw [nth_eq (by simp)]; simp
theorem nth_drop {α : Type} [Inhabited α] {l : List α} {i k : Nat} : nth (l.drop k) i = nth l (k + i) := by simp [nth]
theorem nth_mem {α : Type} [Inhabited α] {l : List α} {i : Nat} (h : i < l.length) : nth l i ∈ l := by rw [nth_eq h]; exact List.getElem_mem h
theorem nth_set {α : Type} [Inhabited α] {l : List α} {i j : Nat} {a : α} (hi : i < l.length) : nth (l.set j a) i = if j = i then a else nth l i := by
  rw [nth_eq (by simpa using hi), nth_eq hi, List.getElem_set]
theorem take_succ_nth {α : Type} [Inhabited α] {l : List α} {k : Nat} (h : k < l.length) : l.take (k + 1) = l.take k ++ [nth l k] := by
  rw [List.take_succ_eq_append_getElem h, nth_eq h]
theorem drop_nth {α : Type} [Inhabited α] {l : List α} {k : Nat} (h : k < l.length) : l.drop k = nth l k :: l.drop (k + 1) := by
  rw [List.drop_eq_getElem_cons h, nth_eq h]

theorem add_plain' (g j : Nat) : (⟨g, 0, none⟩ : Addr).add j = ⟨g, j, none⟩ := by unfold Addr.add; split <;> simp_all
theorem add_off (g o j : Nat) : (⟨g, o, none⟩ : Addr).add j = ⟨g, o + j, none⟩ := by unfold Addr.add; split <;> simp_all

theorem str_slice {P : Program} {t : TypeId} (ht : P.underlying t = some .string) (s : ByteArray) (a b : Nat) (x y : Int) (hx : x = a) (hy : y = b) (h1 : a ≤ b) (h2 : b ≤ s.size) (W : World) :
    (Instr.slice t (.string s) (some (.int .i64 x)) (some (.int .i64 y)) none).run P W = .ok (.string (s.extract a b)) W := by
  subst hx; subst hy
  simp [Instr.slice, run_underlying ht, Instr.sliceBounds, Instr.sliceBound, h1, h2, Result.andThen, asIntOf]

/-! ### 2. What a call may change: the blocks of F, and whatever is new; behind it F' are those that may be changed -/
structure Grow (F : Nat → Prop) (w w' : World) (F' : Nat → Prop) : Prop where
  os : w'.os = w.os
  tape : w'.tape = w.tape
  output : w'.output = w.output
  size : w.heap.size ≤ w'.heap.size
  block : ∀ k, k < w.heap.size → ¬ F k → w'.heap[k]? = w.heap[k]?
  new : ∀ k, F' k → F k ∨ w.heap.size ≤ k
def none' : Nat → Prop := fun _ => False
theorem Grow.refl (F : Nat → Prop) (w : World) : Grow F w w F := ⟨rfl, rfl, rfl, Nat.le_refl _, fun _ _ _ => rfl, fun _ h => .inl h⟩
theorem Grow.trans {F F1 F2 : Nat → Prop} {a b c : World} (h : Grow F a b F1) (k : Grow F1 b c F2) : Grow F a c F2 :=
  ⟨k.os.trans h.os, k.tape.trans h.tape, k.output.trans h.output, Nat.le_trans h.size k.size,
    fun i hi hF => (k.block i (Nat.lt_of_lt_of_le hi h.size) (fun h1 => by rcases h.new i h1 with h2 | h2; exact hF h2; omega)).trans (h.block i hi hF),
    fun i hi => by
      rcases k.new i hi with h1 | h1
      · exact h.new i h1
      · exact .inr (Nat.le_trans h.size h1)⟩
theorem Grow.less {F F1 F2 : Nat → Prop} {a b : World} (h : Grow F a b F1) (hs : ∀ k, F2 k → F1 k) : Grow F a b F2 := ⟨h.os, h.tape, h.output, h.size, h.block, fun k hk => h.new k (hs k hk)⟩
theorem Grow.more {F F1 G : Nat → Prop} {a b : World} (h : Grow F a b F1) (hs : ∀ k, F k → G k) : Grow G a b F1 := ⟨h.os, h.tape, h.output, h.size, fun k hk hG => h.block k hk (fun hf => hG (hs k hf)), fun k hk => (h.new k hk).imp (hs k) id⟩
/-- Blocks beside: they stay those that may be changed. -/
theorem Grow.beside {F F1 : Nat → Prop} {a b : World} (h : Grow F a b F1) (E : Nat → Prop) : Grow (fun k => F k ∨ E k) a b (fun k => F1 k ∨ E k) :=
  ⟨h.os, h.tape, h.output, h.size, fun k hk hG => h.block k hk (fun hf => hG (.inl hf)), fun k hk => by
    rcases hk with hk | hk
    · exact (h.new k hk).imp .inl id
    · exact .inl (.inr hk)⟩
theorem Grow.drew {F F' : Nat → Prop} {a b : World} (h : Grow F a b F') : Grow F a b.drew F' := ⟨h.os, h.tape, h.output, h.size, h.block, h.new⟩
theorem Grow.drewN {F F' : Nat → Prop} {a b : World} (h : Grow F a b F') (n : Nat) : Grow F a (b.drewN n) F' := ⟨h.os, h.tape, h.output, h.size, h.block, h.new⟩
theorem Grow.alloc {F F' : Nat → Prop} {a b : World} (h : Grow F a b F') (o : Obj) : Grow F a (b.alloc o) F' :=
  ⟨h.os, h.tape, h.output, by have := h.size; simp; omega, fun k hk hF => (Below.heap_alloc _ _ _ (Nat.lt_of_lt_of_le hk h.size)).trans (h.block k hk hF), h.new⟩
theorem Grow.setCell {F F' : Nat → Prop} {a b : World} (h : Grow F a b F') {p : Addr} (hp : F' p.block) (u : Value) : Grow F a (b.setCell p u) F' :=
  ⟨h.os, h.tape, h.output, by simpa using h.size, fun k hk hF => (Below.heap_setCell _ _ _ _ (fun e => by subst e; rcases h.new _ hp with h1 | h1; exact hF h1; omega)).trans (h.block k hk hF), h.new⟩
theorem Grow.below {F' : Nat → Prop} {a b : World} (h : Grow none' a b F') : Below a.heap.size a b := ⟨h.os, h.tape, h.output, h.size, fun k hk => h.block k hk id⟩
theorem Grow.of_below {F : Nat → Prop} {a b : World} (h : Below a.heap.size a b) : Grow F a b F := ⟨h.os, h.tape, h.output, h.size, fun k hk _ => h.block k hk, fun _ h => .inl h⟩
/-- Whatever lies below B, if all that may be changed lies from B on. -/
theorem Grow.below_of {F F' : Nat → Prop} {a b : World} (h : Grow F a b F') {B : Nat} (hB : B ≤ a.heap.size) (hF : ∀ k, F k → B ≤ k) : Below B a b :=
  ⟨h.os, h.tape, h.output, h.size, fun k hk => h.block k (by omega) (fun e => by have := hF k e; omega)⟩
theorem Grow.cell {F F' : Nat → Prop} {a b : World} (h : Grow F a b F') {p : Addr} {v : Value} (hc : a.cell? p = some v) (hF : ¬ F p.block) : b.cell? p = some v :=
  (World.cell?_of_block (h.block p.block (World.block_lt_of_cell? a p hc) hF)).trans hc
theorem Grow.lt {F F' : Nat → Prop} {a b : World} (h : Grow F a b F') {k : Nat} (hk : k < a.heap.size) (hF : ¬ F k) : ¬ F' k := fun e => by
  rcases h.new k e with h1 | h1
  · exact hF h1
  · omega

/-! ### 3. A block that is known whole -/
theorem blk_cell {w : World} {b : Nat} {cs : Array Value} {t : TypeId} {fr : Nat × Nat} (h : w.heap[b]? = some (.cells cs t fr)) (j : Nat) : w.cell? ⟨b, j, none⟩ = cs[j]? := by simp [World.cell?, h]
theorem blk_free {w : World} {b : Nat} {cs : Array Value} {t : TypeId} (h : w.heap[b]? = some (.cells cs t (0, 0))) (j : Nat) : w.frozen? ⟨b, j, none⟩ = false := by simp [World.frozen?, h]
theorem blk_lt {w : World} {b : Nat} {o : Obj} (h : w.heap[b]? = some o) : b < w.heap.size := (Array.getElem?_eq_some_iff.1 h).1
theorem blk_set {w : World} {b j : Nat} {cs : Array Value} {t : TypeId} {fr : Nat × Nat} (h : w.heap[b]? = some (.cells cs t fr)) (v : Value) : (w.setCell ⟨b, j, none⟩ v).heap[b]? = some (.cells (cs.setIfInBounds j v) t fr) := by
  simp [World.setCell, Array.getElem?_modify, h]

theorem keep_blk {W w1 : World} {b : Nat} {o : Obj} (hb : Below W.heap.size W w1) (h : W.heap[b]? = some o) : w1.heap[b]? = some o := (hb.block b (blk_lt h)).trans h
theorem set_blk {w : World} {b : Nat} {o : Obj} (h : w.heap[b]? = some o) (p : Addr) (v : Value) (hne : b ≠ p.block) : (w.setCell p v).heap[b]? = some o := (Below.heap_setCell _ _ _ _ hne).trans h
theorem new_blk (w : World) (o : Obj) : (w.alloc o).heap[w.heap.size]? = some o := heap_alloc_new w o
theorem old_blk {w : World} {b : Nat} {o : Obj} (h : w.heap[b]? = some o) (o' : Obj) : (w.alloc o').heap[b]? = some o := (Below.heap_alloc w o' b (blk_lt h)).trans h

/-! ### 4. Rows that are read. D: where they may lie; R: what an element's cells say -/
structure Row {α : Type} [Inhabited α] (w : World) (D : Nat → Prop) (R : α → List Value → Prop) (size : Nat) (v : Value) (l : List α) : Prop where
  out : ∃ A c, v = .slice A l.length c ∧ l.length ≤ c ∧ c ≤ 9223372036854775807 ∧
    (0 < l.length → ∃ b off, A = some ⟨b, off, none⟩ ∧ D b ∧ ∀ i, i < l.length → ∃ cs, R (nth l i) cs ∧ cs.length = size ∧ ∀ j u, cs[j]? = some u → w.cell? ⟨b, off + i * size + j, none⟩ = some u)
theorem Row.slice {α : Type} [Inhabited α] {w : World} {D : Nat → Prop} {R : α → List Value → Prop} {size : Nat} {v : Value} {l : List α} (h : Row w D R size v l) : ∃ A c, v = .slice A l.length c ∧ l.length ≤ c ∧ c ≤ 9223372036854775807 := by
  obtain ⟨A, c, h1, h2, h3, _⟩ := h.out
  exact ⟨A, c, h1, h2, h3⟩
theorem Row.nil {α : Type} [Inhabited α] (w : World) (D : Nat → Prop) (R : α → List Value → Prop) (size : Nat) : Row w D R size (.slice none 0 0) [] := ⟨none, 0, rfl, by simp, by omega, fun h => by simp at h⟩
/-- In another world, under another reading. -/
theorem Row.imp {α : Type} [Inhabited α] {w w' : World} {D D' : Nat → Prop} {R R' : α → List Value → Prop} {size : Nat} {v : Value} {l : List α} (h : Row w D R size v l)
    (hR : ∀ a cs, a ∈ l → R a cs → R' a cs) (hD : ∀ b, D b → b < w.heap.size → D' b ∧ w'.heap[b]? = w.heap[b]?) (hs : 0 < size) (hRs : ∀ a cs, R a cs → cs.length = size) : Row w' D' R' size v l := by
  obtain ⟨A, c, h1, h2, h3, h4⟩ := h.out
  refine ⟨A, c, h1, h2, h3, fun h0 => ?_⟩
  obtain ⟨b, off, hA, hDb, hall⟩ := h4 h0
  have hb : b < w.heap.size := by
    obtain ⟨cs, hr, hl, hc⟩ := hall 0 h0
    have h0' : 0 < cs.length := by omega
    have := hc 0 cs[0] (by simp [h0'])
    exact World.block_lt_of_cell? w _ this
  obtain ⟨hd', hsame⟩ := hD b hDb hb
  refine ⟨b, off, hA, hd', fun i hi => ?_⟩
  obtain ⟨cs, hr, hl, hc⟩ := hall i hi
  exact ⟨cs, hR _ _ (nth_mem hi) hr, hl, fun j u hj => (World.cell?_of_block (a := ⟨b, off + i * size + j, none⟩) hsame).trans (hc j u hj)⟩

/-- whole numbers -/
def IntR (x : Int) (cs : List Value) : Prop := cs = [.int .i64 x]
def Ints (w : World) (D : Nat → Prop) (v : Value) (l : List Int) : Prop := Row w D IntR 1 v l
theorem IntR.len {x : Int} {cs : List Value} (h : IntR x cs) : cs.length = 1 := by subst h; rfl
theorem Ints.imp {w w' : World} {D D' : Nat → Prop} {v : Value} {l : List Int} (h : Ints w D v l) (hD : ∀ b, D b → b < w.heap.size → D' b ∧ w'.heap[b]? = w.heap[b]?) : Ints w' D' v l :=
  Row.imp h (fun _ _ _ h => h) hD (by omega) (fun _ _ h => h.len)
theorem Ints.at_ {w : World} {D : Nat → Prop} {v : Value} {l : List Int} (h : Ints w D v l) (k : Nat) (hk : k < l.length) :
    ∃ b off c, v = .slice (some ⟨b, off, none⟩) l.length c ∧ l.length ≤ c ∧ c ≤ 9223372036854775807 ∧ D b ∧ b < w.heap.size ∧ w.cell? ⟨b, off + k, none⟩ = some (.int .i64 (nth l k)) := by
  obtain ⟨A, c, h1, h2, h3, h4⟩ := h.out
  obtain ⟨b, off, hA, hD, hall⟩ := h4 (by omega)
  obtain ⟨cs, hr, _, hc⟩ := hall k hk
  have hr' : cs = [.int .i64 (nth l k)] := hr
  subst hr'; subst hA
  have hcell := hc 0 _ rfl
  simp only [Nat.mul_one, Nat.add_zero] at hcell
  exact ⟨b, off, c, h1, h2, h3, hD, World.block_lt_of_cell? w _ hcell, hcell⟩
/-- all of them at once, for a loop -/
theorem Ints.all {w : World} {D : Nat → Prop} {v : Value} {l : List Int} (h : Ints w D v l) (h0 : 0 < l.length) :
    ∃ b off c, v = .slice (some ⟨b, off, none⟩) l.length c ∧ l.length ≤ c ∧ c ≤ 9223372036854775807 ∧ D b ∧ b < w.heap.size ∧ ∀ k, k < l.length → w.cell? ⟨b, off + k, none⟩ = some (.int .i64 (nth l k)) := by
  obtain ⟨A, c, h1, h2, h3, h4⟩ := h.out
  obtain ⟨b, off, hA, hD, hall⟩ := h4 h0
  subst hA
  have key : ∀ k, k < l.length → w.cell? ⟨b, off + k, none⟩ = some (.int .i64 (nth l k)) := by
    intro k hk
    obtain ⟨cs, hr, _, hc⟩ := hall k hk
    have hr' : cs = [.int .i64 (nth l k)] := hr
    subst hr'
    have hcell := hc 0 _ rfl
    simpa only [Nat.mul_one, Nat.add_zero] using hcell
  exact ⟨b, off, c, h1, h2, h3, hD, World.block_lt_of_cell? w _ (key 0 h0), key⟩

/-! ### 5. Rows that are made: elements one behind the other -/
inductive RowC {α : Type} (R : α → List Value → Prop) : List α → List Value → Prop where
  | nil : RowC R [] []
  | snoc {l : List α} {xs : List Value} {a : α} {cs : List Value} : RowC R l xs → R a cs → RowC R (l ++ [a]) (xs ++ cs)
theorem RowC.imp {α : Type} {R R' : α → List Value → Prop} {l : List α} {xs : List Value} (h : RowC R l xs) (hR : ∀ a cs, a ∈ l → R a cs → R' a cs) : RowC R' l xs := by
  induction h with
  | nil => exact .nil
  | snoc _ hr ih => exact .snoc (ih fun a cs ha => hR a cs (by simp [ha])) (hR _ _ (by simp) hr)
theorem RowC.len {α : Type} {R : α → List Value → Prop} {size : Nat} (hs : ∀ a cs, R a cs → cs.length = size) {l : List α} {xs : List Value} (h : RowC R l xs) : xs.length = l.length * size := by
  induction h with
  | nil => simp
  | snoc _ hr ih => simp [ih, hs _ _ hr, Nat.add_mul]
theorem RowC.at_ {α : Type} [Inhabited α] {R : α → List Value → Prop} {size : Nat} (hs : ∀ a cs, R a cs → cs.length = size) {l : List α} {xs : List Value} (h : RowC R l xs) :
    ∀ i, i < l.length → ∃ cs, R (nth l i) cs ∧ cs.length = size ∧ ∀ j u, cs[j]? = some u → xs[i * size + j]? = some u := by
  induction h with
  | nil => intro i hi; simp at hi
  | snoc h hr ih =>
    rename_i l xs a cs
    intro i hi
    have hxl := h.len hs
    rcases Nat.lt_or_ge i l.length with hlt | hge
    · obtain ⟨c, h1, h2, h3⟩ := ih i hlt
      refine ⟨c, by rw [nth_append_left hlt]; exact h1, h2, fun j u hj => ?_⟩
      have hj' : j < size := by have := (List.getElem?_eq_some_iff.1 hj).1; omega
      have : i * size + j < xs.length := by
        rw [hxl]
        have := Nat.mul_le_mul_right size (show i + 1 ≤ l.length by omega)
        rw [Nat.add_mul] at this; omega
      rw [List.getElem?_append_left this]
      exact h3 j u hj
    · have hi' : i = l.length := by simp at hi; omega
      subst hi'
      refine ⟨cs, by rw [nth_append_last]; exact hr, hs _ _ hr, fun j u hj => ?_⟩
      rw [List.getElem?_append_right (by omega)]
      rw [show l.length * size + j - xs.length = j by omega]
      exact hj
/-- A row of the call's own, with what its elements are. -/
structure Own {α : Type} (w : World) (e size : Nat) (R : α → List Value → Prop) (v : Value) (l : List α) : Prop where
  out : ∃ xs, w.ownsRow 0 e size v l.length xs ∧ RowC R l xs
theorem Own.nil {α : Type} (w : World) (e size : Nat) (R : α → List Value → Prop) : Own w e size R (.slice none 0 0) [] := ⟨[], World.ownsRow_nil w 0 e size, .nil⟩
theorem Own.shape {α : Type} {w : World} {e size : Nat} {R : α → List Value → Prop} {v : Value} {l : List α} (h : Own w e size R v l) :
    (v = .slice none 0 0 ∧ l = []) ∨ ∃ g cap, v = .slice (some ⟨g, 0, none⟩) l.length cap ∧ l.length ≤ cap ∧ cap ≤ 9223372036854775807 ∧ g < w.heap.size := by
  obtain ⟨xs, ho, hc⟩ := h.out
  rcases ho.2 with ⟨h1, h2⟩ | ⟨g, cap, cur, h1, _, hg, h2, h3, _⟩
  · exact .inl ⟨h1, List.eq_nil_of_length_eq_zero h2⟩
  · exact .inr ⟨g, cap, h1, h2, by simpa [maxLen] using h3, blk_lt hg⟩
theorem Own.slice {α : Type} {w : World} {e size : Nat} {R : α → List Value → Prop} {v : Value} {l : List α} (h : Own w e size R v l) :
    ∃ A c, v = .slice A l.length c ∧ l.length ≤ c ∧ c ≤ 9223372036854775807 := by
  rcases h.shape with ⟨rfl, rfl⟩ | ⟨g, cap, h1, h2, h3, _⟩
  · exact ⟨none, 0, rfl, by simp, by omega⟩
  · exact ⟨_, cap, h1, h2, h3⟩
theorem Own.imp {α : Type} {w w' : World} {e size : Nat} {R R' : α → List Value → Prop} {v : Value} {l : List α} (h : Own w e size R v l) (hR : ∀ a cs, a ∈ l → R a cs → R' a cs)
    (hb : ∀ g, v.ownBlock = some g → g < w.heap.size → w'.heap[g]? = w.heap[g]?) : Own w' e size R' v l := by
  obtain ⟨xs, ho, hc⟩ := h.out
  refine ⟨xs, ⟨ho.1, ?_⟩, hc.imp hR⟩
  rcases ho.2 with h1 | ⟨g, cap, cur, h1, h2, hg, r⟩
  · exact .inl h1
  · exact .inr ⟨g, cap, cur, h1, h2, by rw [hb g (by rw [h1]; rfl) (blk_lt hg)]; exact hg, r⟩
/-- An owned row reads as a row. -/
theorem Own.row {α : Type} [Inhabited α] {w : World} {e size : Nat} {R : α → List Value → Prop} {v : Value} {l : List α} {D : Nat → Prop} (h : Own w e size R v l) (hs : ∀ a cs, R a cs → cs.length = size) (hD : ∀ g, v.ownBlock = some g → D g) : Row w D R size v l := by
  obtain ⟨xs, ho, hc⟩ := h.out
  rcases h.shape with ⟨rfl, rfl⟩ | ⟨g, cap, rfl, h2, h3, _⟩
  · exact Row.nil w D R size
  · refine ⟨_, cap, rfl, h2, h3, fun h0 => ⟨g, 0, rfl, hD g rfl, fun i hi => ?_⟩⟩
    obtain ⟨cs, hr, hl, hcs⟩ := hc.at_ hs i hi
    refine ⟨cs, hr, hl, fun j u hj => ?_⟩
    have := ho.cells (g := g) rfl (i * size + j) u (hcs j u hj)
    rwa [add_plain', ← Nat.zero_add (i * size), ] at this

theorem Own.of_heap {α : Type} {w w' : World} {e size : Nat} {R : α → List Value → Prop} {v : Value} {l : List α} (h : Own w e size R v l) (he : w'.heap = w.heap) : Own w' e size R v l :=
  h.imp (fun _ _ _ h => h) (fun g _ _ => by rw [he])
theorem Own.setCell {α : Type} {w : World} {e size : Nat} {R : α → List Value → Prop} {v : Value} {l : List α} (h : Own w e size R v l) (p : Addr) (u : Value) (hne : v.ownBlock ≠ some p.block) : Own (w.setCell p u) e size R v l :=
  h.imp (fun _ _ _ h => h) (fun g hg _ => Below.heap_setCell _ _ _ _ (fun e => hne (by rw [hg, e])))
theorem Own.alloc {α : Type} {w : World} {e size : Nat} {R : α → List Value → Prop} {v : Value} {l : List α} (h : Own w e size R v l) (o : Obj) : Own (w.alloc o) e size R v l :=
  h.imp (fun _ _ _ h => h) (fun g _ hlt => Below.heap_alloc w o g hlt)
theorem Own.below {α : Type} {w w' : World} {e size : Nat} {R : α → List Value → Prop} {v : Value} {l : List α} (h : Own w e size R v l) (hb : Below w.heap.size w w') : Own w' e size R v l :=
  h.imp (fun _ _ _ h => h) (fun g _ hlt => hb.block g hlt)

/-! ### 6. Appending one element -/
structure AppTy (P : Program) (t e : TypeId) (size bytes : Nat) : Prop where
  und : P.underlying t = some (.slice e)
  info : ∃ i z, P.info? e = some i ∧ i.zero = some z ∧ i.size = size ∧ i.bytes = bytes ∧ z.cells.size = size
  pos : 0 < size
theorem AppTy.mk' {P : Program} {t e : TypeId} (z : Value) (size bytes : Nat) (h : P.underlying t = some (.slice e)) (hi : (P.info? e).map (fun i => (i.zero, i.size, i.bytes)) = some (some z, size, bytes)) (hz : z.cells.size = size) (hs : 0 < size) : AppTy P t e size bytes := by
  obtain ⟨i0, hi, hzz⟩ := Option.map_eq_some_iff.1 hi
  simp only [Prod.mk.injEq] at hzz
  exact ⟨h, ⟨i0, z, hi, hzz.1, hzz.2.1, hzz.2.2, hz⟩, hs⟩
/-- What an append of one element leaves: a row, in the old one's block or in a new one; the old value reads as it did. -/
structure Grew {α : Type} (w w' : World) (v : Value) (e size : Nat) (R : α → List Value → Prop) (l0 l : List α) (g cap : Nat) : Prop where
  own : Own w' e size R (.slice (some ⟨g, 0, none⟩) l.length cap) l
  old : Own w' e size R v l0
  grown : w.grownBy w' v.ownBlock
  lies : v.ownBlock = some g ∨ w.heap.size ≤ g
  lt : g < w'.heap.size
theorem own_append {P : Program} {W w : World} {t e ty : TypeId} {size bytes : Nat} (T : AppTy P t e size bytes) {α : Type} {R : α → List Value → Prop} {v : Value} {l : List α} (B : Nat) (a : α) (cs : List Value)
    (hsz : W.heap.size ≤ w.heap.size) (hos : w.os = W.os) (ht : w.tape = W.tape) (hout : w.output = W.output) (hold : ∀ k, k < W.heap.size → w.heap[k]? = W.heap[k]?)
    (hB : w.heap[B]? = some (.cells cs.toArray e (0, 0))) (hown : Own W e size R v l) (hr : R a cs) (hl : cs.length = size) (h1 : ∀ u ∈ cs, u.oneCell' = true) (hn : (l.length + 1) * bytes ≤ 140737488355328) (hn2 : l.length + 1 ≤ 9223372036854775807) :
    ∃ g cap w', (Builtin.append_ #[t, t] ty #[v, .slice (some ⟨B, 0, none⟩) 1 1]).run P w = .ok (.slice (some ⟨g, 0, none⟩) (l.length + 1) cap) w' ∧ Grew W w' v e size R l (l ++ [a]) g cap := by
  obtain ⟨i0, z, hi, hz0, hz1, hz2, hzs⟩ := T.info
  obtain ⟨xs, ho, hc⟩ := hown.out
  have ho' : w.ownsRow 0 e size v l.length xs := by
    refine ⟨ho.1, ?_⟩
    rcases ho.2 with h | ⟨g, cap, cur, h1, h2, hg, r⟩
    · exact .inl h
    · exact .inr ⟨g, cap, cur, h1, h2, by rw [hold g (blk_lt hg)]; exact hg, r⟩
  have hnews : ∀ j u, cs[j]? = some u → w.cell? ((⟨B, 0, none⟩ : Addr).add j) = some u := by
    intro j u hj; rw [add_plain', blk_cell hB]; simpa using hj
  have hlen : (xs ++ cs).length = (l.length + 1) * size := by rw [List.length_append, ho.1, hl, Nat.add_mul, Nat.one_mul]
  -- a new block: nothing that was there turns
  have fresh : ∀ v' w', w'.ownsRow w.heap.size e size v' (l.length + 1) (xs ++ cs) → w.grownBy w' none →
      ∃ g cap, v' = .slice (some ⟨g, 0, none⟩) (l.length + 1) cap ∧ Grew W w' v e size R l (l ++ [a]) g cap := by
    intro v' w' h2 h3
    rcases h2.2 with ⟨_, h⟩ | ⟨g, cap, cur, hv, hg, hh, r1, r2, r3⟩
    · omega
    · refine ⟨g, cap, hv, ⟨xs ++ cs, ⟨by simpa using h2.1, .inr ⟨g, cap, cur, rfl, Nat.zero_le _, hh, by simpa using r1, r2, by simpa using r3⟩⟩, .snoc hc hr⟩, ⟨xs, ⟨ho'.1, ?_⟩, hc⟩, ⟨h3.os.trans hos, h3.tape.trans ht, h3.output.trans hout, Nat.le_trans hsz h3.size, fun k hk _ => (h3.block k (by omega) (by simp)).trans (hold k hk)⟩, .inr (by omega), blk_lt hh⟩
      rcases ho'.2 with h | ⟨g0, cap0, cur0, q1, q2, q3, q⟩
      · exact .inl h
      · exact .inr ⟨g0, cap0, cur0, q1, q2, (h3.block g0 (blk_lt q3) (by simp)).trans q3, q⟩
  rcases ho'.2 with ⟨rfl, hz⟩ | ⟨g, cap, cur, rfl, hb0, hg, hnc, hcm, hcs, htk⟩
  · have hx : xs = [] := List.eq_nil_of_length_eq_zero (by rw [ho.1, hz, Nat.zero_mul])
    have hzl : l.length = 0 := hz
    obtain ⟨v', w', hrn, h2, h3, _⟩ := run_append_own (P := P) w w.heap.size t ty e i0 z size bytes T.und hi hz0 hz1 hz2 hzs T.pos (.slice none 0 0) 0 [] (World.ownsRow_nil w _ e size) ⟨B, 0, none⟩ 1 1 cs (by simpa using hl) hnews h1 (by unfold maxLen; omega) (by rw [hzl] at hn; simpa using hn) (Nat.le_refl _)
    obtain ⟨g, cap, hv, hG⟩ := fresh v' w' (by rw [hzl, hx]; simpa using h2) h3
    exact ⟨g, cap, w', by rw [hrn, hv], hG⟩
  · by_cases hroom : l.length + 1 ≤ cap
    · have hfit : l.length * i0.size + cs.length ≤ cur.size := by rw [hl, hcs, hz1, ← Nat.succ_mul]; exact Nat.mul_le_mul_right _ hroom
      have hrn := run_append_room (P := P) w t ty e i0 T.und hi g l.length cap cur hg ⟨B, 0, none⟩ 1 1 cs (by simpa [hz1] using hl) hnews h1 hroom hfit
      rw [hz1] at hrn hfit
      have hh := setRow_heap w g cur (cur.toList.take (l.length * size) ++ cs ++ cur.toList.drop (l.length * size + cs.length)).toArray e (0, 0) hg
      have hsize : (cur.toList.take (l.length * size) ++ cs ++ cur.toList.drop (l.length * size + cs.length)).length = cap * size := by
        simp only [List.length_append, List.length_take, List.length_drop, Array.length_toList]
        rw [← hcs]
        omega
      refine ⟨g, cap, _, hrn, ⟨⟨xs ++ cs, ⟨by simpa using hlen, .inr ⟨g, cap, _, by simp, Nat.zero_le _, hh, by simpa using hroom, hcm, by simpa using hsize, ?_⟩⟩, .snoc hc hr⟩, ⟨xs, ⟨ho'.1, .inr ⟨g, cap, _, rfl, Nat.zero_le _, hh, hnc, hcm, by simpa using hsize, ?_⟩⟩, hc⟩,
        ⟨hos, ht, hout, by simpa using hsz, fun k hk hne => (setRow_other w g k _ (fun e => hne (by simp [Value.ownBlock, e]))).trans (hold k hk)⟩, .inl rfl, by simpa using blk_lt hg⟩⟩
      · simp only [List.length_append, List.length_singleton]
        rw [← hlen, htk]
        exact List.take_left
      · simp only
        rw [List.append_assoc, htk, ← ho.1]
        exact List.take_left
    · obtain ⟨v', w', hrn, h2, h3⟩ := run_append_arg_grows (P := P) w t ty e i0 z size bytes T.und hi hz0 hz1 hz2 hzs T.pos ⟨g, 0, none⟩ l.length cap xs ho'.1 (fun j u hj => ho'.cells (g := g) rfl j u hj) ⟨B, 0, none⟩ 1 1 cs (by simpa using hl) hnews (by omega) (by unfold maxLen; omega) hn
      obtain ⟨g', cap', hv, hG⟩ := fresh v' w' h2 h3
      exact ⟨g', cap', w', by rw [hrn, hv], hG⟩
/-- in a region that is walked in the text's order -/
theorem wpList_append_one {P : Program} {ops : Array Oper} {rest : List Oper} {o : Oper} {a : Act} {W w : World} {Q : Exit → Act → World → Prop}
    {t e : TypeId} {size bytes : Nat} (T : AppTy P t e size bytes) (hg : o.guard = none) (s x : Operand) (hop : o.op = Op.call { callee := Callee.builtin Builtin.append, args := #[s, x], argTypes := #[t, t] })
    {α : Type} {R : α → List Value → Prop} (v : Value) (l : List α) (hs : a.eval s = v) (B : Nat) (y : α) (cs : List Value) (hx : a.eval x = .slice (some ⟨B, 0, none⟩) 1 1)
    (hB : B = W.heap.size) (hw : w = W.alloc (.cells cs.toArray e)) (hown : Own W e size R v l) (hr : R y cs) (hl : cs.length = size) (h1 : ∀ u ∈ cs, u.oneCell' = true) (hn : (l.length + 1) * bytes ≤ 140737488355328) (hn2 : l.length + 1 ≤ 9223372036854775807)
    (h : ∀ g cap w', Grew W w' v e size R l (l ++ [y]) g cap → wpList P ops Q rest (a.put o.dst (.slice (some ⟨g, 0, none⟩) (l.length + 1) cap)) w') :
    wpList P ops Q (o :: rest) a w := by
  subst hw; subst hB
  refine wpList_plain hg fun K hK => ?_
  obtain ⟨g, cap, w', hrn, hG⟩ := own_append (W := W) (ty := o.type) T W.heap.size y cs (w := W.alloc (.cells cs.toArray e)) (by simp) rfl rfl rfl (fun k hk => Below.heap_alloc W _ k hk) (heap_alloc_new W _) hown hr hl h1 hn hn2
  unfold Oper.wp execOp
  simp only [hop, resolve, invoke, builtin, Sem.run_bind, Sem.run_pure, Result.andThen_ok, List.map_toArray, List.map_cons, List.map_nil, hs, hx, hrn]
  exact hK _ _ (h g cap w' hG)
theorem Grew.grow {α : Type} {w w' : World} {v : Value} {e size : Nat} {R : α → List Value → Prop} {l0 l : List α} {g cap : Nat} (h : Grew w w' v e size R l0 l g cap) {F : Nat → Prop} (hF : ∀ k, v.ownBlock = some k → F k) : Grow F w w' (fun k => F k ∨ k = g) :=
  ⟨h.grown.os, h.grown.tape, h.grown.output, h.grown.size, fun k hk hne => h.grown.block k hk (fun e => hne (hF k e.symm)), fun k hk => by
    rcases hk with hk | rfl
    · exact .inl hk
    · exact h.lies.imp (hF k) id⟩
/-- another block than the row's stands as it stood -/
theorem Grew.keep {α : Type} {w w' : World} {v : Value} {e size : Nat} {R : α → List Value → Prop} {l0 l : List α} {g cap : Nat} (h : Grew w w' v e size R l0 l g cap) {b : Nat} {o : Obj} (hb : w.heap[b]? = some o) (hne : v.ownBlock ≠ some b) : w'.heap[b]? = some o :=
  (h.grown.block b (blk_lt hb) (fun e => hne e.symm)).trans hb
theorem Grew.ne {α : Type} {w w' : World} {v : Value} {e size : Nat} {R : α → List Value → Prop} {l0 l : List α} {g cap : Nat} (h : Grew w w' v e size R l0 l g cap) {b : Nat} {o : Obj} (hb : w.heap[b]? = some o) (hne : v.ownBlock ≠ some b) : g ≠ b := by
  have := blk_lt hb
  rcases h.lies with h | h
  · intro e; subst e; exact hne h
  · omega
end Go.Proofs.Ytgaginegcjpddaa
/- A region that draws its order, proved operation by operation: each from what it waits for, in whatever world keeps what all keep. No program in sight. -/
namespace Go.Proofs.Ytgaginegcjpddaa
section
variable {P : Program} {Q : Exit → Act → World → Prop}
/-- What an operation waits for is there. -/
def RgDep (ops : Array Oper) (post : Nat → Value → World → Prop) (o : Oper) (a : Act) (w : World) : Prop :=
  ∀ e ∈ o.after, Region.binds .any e = true → ∀ o', ops[e.on]? = some o' → ∀ d, o'.dst = some d → post e.on (a.tmps.getD d undef) w
/-- The slots that no head writes are as they were. -/
def RgFrame (heads : List Oper) (a0 a : Act) : Prop := a.defers = a0.defers ∧ a.tmps.size = a0.tmps.size ∧ ∀ d, (∀ o ∈ heads, o.dst ≠ some d) → a.tmps.getD d undef = a0.tmps.getD d undef
def RgOk (P : Program) (Q : Exit → Act → World → Prop) (ops : Array Oper) (heads : List Oper) (a0 : Act) (Inv : World → Prop) (post : Nat → Value → World → Prop) (j : Nat) (o : Oper) : Prop :=
  ∀ a w K, Inv w → RgDep ops post o a w → RgFrame heads a0 a →
    (∀ v w', Inv w' → post j v w' → (∀ i u, i ≠ j → post i u w → post i u w') → K (a.put o.dst v) w') →
    if Region.wanted o (yielded ops a.tmps) then o.wp P a w K Q ∨ (o.asks P a w ∧ LetsOut Q) else K (a.put o.dst undef) w
def RgAll (P : Program) (Q : Exit → Act → World → Prop) (ops : Array Oper) (heads : List Oper) (a0 : Act) (Inv : World → Prop) (post : Nat → Value → World → Prop) : Nat → List Oper → Prop
  | _, [] => True
  | j, o :: r => RgOk P Q ops heads a0 Inv post j o ∧ RgAll P Q ops heads a0 Inv post (j + 1) r
theorem RgAll.at_ {ops : Array Oper} {heads : List Oper} {a0 : Act} {Inv : World → Prop} {post : Nat → Value → World → Prop} : ∀ {l : List Oper} {k : Nat}, RgAll P Q ops heads a0 Inv post k l → ∀ j o, l[j]? = some o → RgOk P Q ops heads a0 Inv post (k + j) o
  | [], _, _, j, o, h => by simp at h
  | x :: r, k, h, 0, o, ho => by simp at ho; subst ho; exact h.1
  | x :: r, k, h, j + 1, o, ho => by
    have := RgAll.at_ h.2 j o (by simpa using ho)
    rwa [Nat.add_assoc, Nat.add_comm 1 j] at this
def rgPut (a : Act) : List Oper → Nat → (Nat → Value) → Act
  | [], _, _ => a
  | o :: l, k, vs => rgPut (a.put o.dst (vs k)) l (k + 1) vs
def rgB (l : List Oper) (n : Nat) : Bool :=
  ((List.range n).all fun j => match l[j]? with | some o => o.after.all fun e => !Region.binds .any e || decide (e.on < j) | none => false) &&
  (decide (n = l.length) || (Region.sinkB .any l.toArray n && Region.chainB .any l.toArray n)) &&
  Region.seqB .any l.toArray (l.length - n) n (Array.replicate n true ++ Array.replicate (l.length - n) false) &&
  decide (((l.take n).filterMap (·.dst)).Nodup) && decide (n ≤ l.length)
theorem put_defers (a : Act) (d : Option Tmp) (v : Value) : (a.put d v).defers = a.defers := by cases d <;> rfl
theorem put_size (a : Act) (d : Option Tmp) (v : Value) : (a.put d v).tmps.size = a.tmps.size := by cases d <;> simp [Act.put]
theorem put_ne (a : Act) (d : Option Tmp) (v : Value) (k : Nat) (h : d ≠ some k) : (a.put d v).tmps.getD k undef = a.tmps.getD k undef := by
  cases d with
  | none => rfl
  | some d =>
    have : d ≠ k := fun e => h (by rw [e])
    simp [Act.put, Array.getD_eq_getD_getElem?, Array.getElem?_setIfInBounds_ne this]
theorem put_eq (a : Act) (d : Nat) (v : Value) (h : d < a.tmps.size) : (a.put (some d) v).tmps.getD d undef = v := by
  simp [Act.put, Array.getD_eq_getD_getElem?, h]
theorem rgPut_defers : ∀ (l : List Oper) (a : Act) (k : Nat) (vs : Nat → Value), (rgPut a l k vs).defers = a.defers
  | [], _, _, _ => rfl
  | o :: l, a, k, vs => by rw [rgPut, rgPut_defers l, put_defers]
theorem rgPut_size : ∀ (l : List Oper) (a : Act) (k : Nat) (vs : Nat → Value), (rgPut a l k vs).tmps.size = a.tmps.size
  | [], _, _, _ => rfl
  | o :: l, a, k, vs => by rw [rgPut, rgPut_size l, put_size]
theorem rgPut_ne : ∀ (l : List Oper) (a : Act) (k : Nat) (vs : Nat → Value) (d : Nat), (∀ o ∈ l, o.dst ≠ some d) → (rgPut a l k vs).tmps.getD d undef = a.tmps.getD d undef
  | [], _, _, _, _, _ => rfl
  | o :: l, a, k, vs, d, h => by rw [rgPut, rgPut_ne l _ _ _ d (fun o' ho' => h o' (by simp [ho'])), put_ne _ _ _ _ (h o (by simp))]
theorem rgPut_eq : ∀ (l : List Oper) (a : Act) (k : Nat) (vs : Nat → Value) (d j : Nat) (o : Oper), (l.filterMap (·.dst)).Nodup → l[j]? = some o → o.dst = some d → d < a.tmps.size → (rgPut a l k vs).tmps.getD d undef = vs (k + j)
  | [], _, _, _, _, j, o, _, h, _, _ => by simp at h
  | x :: l, a, k, vs, d, 0, o, hn, h, hd, hs => by
    simp at h; subst h
    rw [rgPut, rgPut_ne l _ _ _ d (fun o' ho' e => by
      simp only [List.filterMap_cons, hd, List.nodup_cons, List.mem_filterMap] at hn
      exact hn.1 ⟨o', ho', e⟩), hd, put_eq _ _ _ hs, Nat.add_zero]
  | x :: l, a, k, vs, d, j + 1, o, hn, h, hd, hs => by
    have hn' : (l.filterMap (·.dst)).Nodup := by
      cases hx : x.dst with
      | none => simpa [List.filterMap_cons, hx] using hn
      | some y => simp only [List.filterMap_cons, hx, List.nodup_cons] at hn; exact hn.2
    rw [rgPut, rgPut_eq l _ _ _ d j o hn' (by simpa using h) hd (by rw [put_size]; exact hs), Nat.add_assoc, Nat.add_comm 1 j]
theorem act_ext {a b : Act} (hd : a.defers = b.defers) (hs : a.tmps.size = b.tmps.size) (h : ∀ d, a.tmps.getD d undef = b.tmps.getD d undef) : a = b := by
  cases a with | mk ta da => cases b with | mk tb db =>
  simp only at hd hs h
  subst hd
  congr 1
  apply Array.ext hs
  intro i h1 h2
  have := h i
  simpa [Array.getD_eq_getD_getElem?, h1, h2] using this
structure RgG (l : List Oper) (n : Nat) (a0 : Act) (Inv : World → Prop) (post : Nat → Value → World → Prop) (listed : Array Bool) (a : Act) (w : World) : Prop where
  head : HeadInv .any l.toArray n listed
  inv : Inv w
  frame : RgFrame (l.take n) a0 a
  posts : ∀ j o d, j < n → l[j]? = some o → listed.getD j false = true → o.dst = some d → post j (a.tmps.getD d undef) w
def rgLeft (n : Nat) (listed : Array Bool) : Nat := (List.range n).countP fun j => listed.getD j true == false
theorem getD_true_set (listed : Array Bool) (i j : Nat) (hi : i < listed.size) : (listed.setIfInBounds i true).getD j true = if i = j then true else listed.getD j true := by
  by_cases h : i = j
  · subst h; simp [Array.getD_eq_getD_getElem?, hi]
  · simp [Array.getD_eq_getD_getElem?, Array.getElem?_setIfInBounds_ne h, h]
theorem countP_range_change (n i : Nat) (hi : i < n) (p q : Nat → Bool) (hp : p i = true) (hq : q i = false) (hs : ∀ j, j ≠ i → p j = q j) : (List.range n).countP p = (List.range n).countP q + 1 := by
  induction n with
  | zero => omega
  | succ n ih =>
    rw [List.range_succ, List.countP_append, List.countP_append]
    by_cases h : i = n
    · subst h
      have : (List.range i).countP p = (List.range i).countP q := by
        apply List.countP_congr
        intro x hx
        rw [hs x (by have := List.mem_range.1 hx; omega)]
      rw [this]
      simp [hp, hq]
    · rw [ih (by omega)]
      simp only [List.countP_singleton, hs n (Ne.symm h)]
      omega
theorem rgLeft_set (n : Nat) (listed : Array Bool) (i : Nat) (hi : i < n) (hs : i < listed.size) (hl : listed.getD i true = false) : rgLeft n listed = rgLeft n (listed.setIfInBounds i true) + 1 := by
  unfold rgLeft
  refine countP_range_change n i hi _ _ (by simp [hl]) (by rw [getD_true_set _ _ _ hs]; simp) (fun j hj => ?_)
  rw [getD_true_set _ _ _ hs, if_neg (Ne.symm hj)]
theorem rgLeft_zero {n : Nat} {listed : Array Bool} (h : rgLeft n listed = 0) : ∀ j, j < n → listed.getD j true = true := by
  intro j hj
  unfold rgLeft at h
  have := List.countP_eq_zero.1 h j (List.mem_range.2 hj)
  simpa using this
theorem rgLeft_pos {n : Nat} {listed : Array Bool} (h : rgLeft n listed ≠ 0) : ∃ j, j < n ∧ listed.getD j true = false ∧ ∀ i, i < j → listed.getD i true = true := by
  have : ∃ j, j < n ∧ listed.getD j true = false := by
    by_cases hall : ∃ j, j < n ∧ listed.getD j true = false
    · exact hall
    · exfalso; apply h; unfold rgLeft
      rw [List.countP_eq_zero]
      intro j hj hc
      exact hall ⟨j, List.mem_range.1 hj, by simpa using hc⟩
  obtain ⟨j, hj, hl⟩ := this
  induction j using Nat.strongRecOn with
  | _ j ih =>
    by_cases hc : ∃ i, i < j ∧ listed.getD i true = false
    · obtain ⟨i, hi, hli⟩ := hc
      exact ih i hi (by omega) hli
    · refine ⟨j, hj, hl, fun i hi => ?_⟩
      cases he : listed.getD i true with
      | true => rfl
      | false => exact absurd ⟨i, hi, he⟩ hc
theorem getD_false_of {listed : Array Bool} {i : Nat} (h : listed.getD i true = true) (hi : i < listed.size) : listed.getD i false = true := by
  simp [Array.getD_eq_getD_getElem?, hi] at h ⊢; exact h
theorem rg_any {l : List Oper} {n : Nat} {a0 : Act} {Inv : World → Prop} {post : Nat → Value → World → Prop} (hB : rgB l n = true)
    (hsz : ∀ o ∈ l.take n, ∀ d, o.dst = some d → d < a0.tmps.size) (hops : RgAll P Q l.toArray (l.take n) a0 Inv post 0 (l.take n))
    (hend : ∀ vs w, Inv w → (∀ j o d, j < n → l[j]? = some o → o.dst = some d → post j (vs j) w) → wpList P l.toArray Q (l.drop n) (rgPut a0 (l.take n) 0 vs) w) :
    ∀ (m fuel : Nat) (listed : Array Bool) (a : Act) (w : World), rgLeft n listed = m → fuel = m + (l.length - n) → RgG l n a0 Inv post listed a w → wpAny P .any l.toArray Q fuel listed a w := by
  simp only [rgB, Bool.and_eq_true, decide_eq_true_eq, Bool.or_eq_true] at hB
  obtain ⟨⟨⟨⟨hlex, htail⟩, hseq⟩, hnd⟩, hnl⟩ := hB
  intro m
  induction m with
  | zero =>
    intro fuel listed a w hm hf hG
    have hall := rgLeft_zero hm
    have hlist : listed = Array.replicate n true ++ Array.replicate (l.length - n) false := by
      have hs := hG.head.size
      apply Array.ext
      · rw [hs]; simp; omega
      · intro i h1 h2
        rcases Nat.lt_or_ge i n with hi | hi
        · have := hall i hi
          rw [Array.getElem_append_left (by simpa using hi)]
          simpa [Array.getD_eq_getD_getElem?, h1] using this
        · have := hG.head.tail i hi (by rw [← hs]; exact h1)
          rw [Array.getElem_append_right (by simpa using hi)]
          simpa [Array.getD_eq_getD_getElem?, h1] using this
    have hvs := hend (fun j => match l[j]? with | some o => (match o.dst with | some d => a.tmps.getD d undef | none => undef) | none => undef) w hG.inv (fun j o d hj ho hd => by
      simp only [ho, hd]
      exact hG.posts j o d hj ho (getD_false_of (hall j hj) (by rw [hG.head.size]; simp; omega)) hd)
    have ha : a = rgPut a0 (l.take n) 0 (fun j => match l[j]? with | some o => (match o.dst with | some d => a.tmps.getD d undef | none => undef) | none => undef) := by
      apply act_ext
      · rw [rgPut_defers]; exact hG.frame.1
      · rw [rgPut_size]; exact hG.frame.2.1
      · intro d
        by_cases hd : ∃ o ∈ l.take n, o.dst = some d
        · obtain ⟨o, ho, hod⟩ := hd
          obtain ⟨j, hj, hjo⟩ := List.getElem_of_mem ho
          have hjn : j < n := by simp at hj; omega
          have hjo' : (l.take n)[j]? = some o := by rw [List.getElem?_eq_getElem hj, hjo]
          rw [rgPut_eq (l.take n) a0 0 _ d j o hnd hjo' hod (hsz o ho d hod), Nat.zero_add]
          have : l[j]? = some o := by rw [List.getElem?_take] at hjo'; rw [if_pos hjn] at hjo'; exact hjo'
          simp only [this, hod]
        · have hd' : ∀ o ∈ l.take n, o.dst ≠ some d := fun o ho e => hd ⟨o, ho, e⟩
          rw [rgPut_ne _ _ _ _ _ hd']
          exact hG.frame.2.2 d hd'
    rw [← ha] at hvs
    have key := wpAny_of_seq (P := P) (ops := l.toArray) (md := .any) (Q' := Q) (l.drop n) n listed a w (fun j => by simp [List.getElem?_drop]) (by rw [List.length_drop, hlist]; exact hseq) hvs
    rw [List.length_drop] at key
    rw [hf, Nat.zero_add]
    exact key
  | succ m ih =>
    intro fuel listed a w hm hf hG
    obtain ⟨i0, hi0, hl0, hlow⟩ := rgLeft_pos (n := n) (listed := listed) (by omega)
    rw [hf, show m + 1 + (l.length - n) = (m + (l.length - n)) + 1 by omega]
    have hs := hG.head.size
    have hsl : listed.size = l.length := by rw [hs]; simp
    have hmin : i0 ∈ Region.ready .any l.toArray listed := by
      have h1 := List.all_eq_true.1 hlex i0 (List.mem_range.2 hi0)
      cases ho : l[i0]? with
      | none => rw [ho] at h1; cases h1
      | some o =>
        rw [ho] at h1
        refine mem_ready.2 ⟨hl0, o, by simpa using ho, fun e he hb => ?_⟩
        have h2 := Array.all_eq_true'.1 h1 e he
        simp only [hb, Bool.not_true, Bool.false_or, decide_eq_true_eq] at h2
        exact getD_false_of (hlow e.on h2) (by rw [hsl]; omega)
    refine ⟨fun h => (by rw [h] at hmin; cases hmin), fun i hi => ?_⟩
    obtain ⟨hun, oi, hoi, hall⟩ := mem_ready.1 hi
    have hil : i < l.length := by
      have := (Array.getElem?_eq_some_iff.1 hoi).1
      simpa using this
    have hin : i < n := by
      rcases Nat.lt_or_ge i n with h | h
      · exact h
      · exfalso
        rcases htail with h1 | ⟨hsk, hch⟩
        · omega
        · exact tail_waits hsk hch (by simp; omega) hG.head (n - i0) i0 rfl hi0 hl0 i h hi
    have hoi' : l[i]? = some oi := by simpa using hoi
    have hoit : (l.take n)[i]? = some oi := by rw [List.getElem?_take, if_pos hin]; exact hoi'
    have hok := RgAll.at_ hops i oi hoit
    rw [Nat.zero_add] at hok
    have hmem : oi ∈ l.take n := List.mem_of_getElem? hoit
    unfold wpOp
    simp only [hoi]
    refine hok a w _ hG.inv (fun e he hb o' ho' d hd => ?_) hG.frame (fun v w' hI' hp hst => ?_)
    · have hle := hall e he hb
      have hen : e.on < n := by
        rcases Nat.lt_or_ge e.on n with h | h
        · exact h
        · exfalso
          have h3 : e.on < listed.size := by
            rcases Nat.lt_or_ge e.on listed.size with h4 | h4
            · exact h4
            · simp [Array.getD_eq_getD_getElem?, Array.getElem?_eq_none h4] at hle
          have := hG.head.tail e.on h (by rw [← hs]; exact h3)
          simp [Array.getD_eq_getD_getElem?, h3] at this hle
          rw [this] at hle; cases hle
      exact hG.posts e.on o' d hen (by simpa using ho') hle hd
    · refine ih _ _ _ w' (by have := rgLeft_set n listed i hin (by rw [hsl]; exact hil) hun; omega) rfl ⟨hG.head.set hi hin, hI', ⟨by rw [put_defers]; exact hG.frame.1, by rw [put_size]; exact hG.frame.2.1, fun d hd => ?_⟩, fun j o d hj ho hl hd => ?_⟩
      · rw [put_ne _ _ _ _ (hd oi hmem)]
        exact hG.frame.2.2 d hd
      · by_cases hij : i = j
        · subst hij
          have : o = oi := Option.some.inj (ho.symm.trans hoi')
          subst this
          rw [hd, put_eq _ _ _ (by rw [hG.frame.2.1]; exact hsz o hmem d hd)]
          exact hp
        · rw [getD_set_ne false hij] at hl
          have hne : oi.dst ≠ some d := by
            intro e
            have hjt : (l.take n)[j]? = some o := by rw [List.getElem?_take, if_pos hj]; exact ho
            have h1 := rgPut_eq (l.take n) a0 0 (fun x => .int .i64 x) d i oi hnd hoit e (hsz oi hmem d e)
            have h2 := rgPut_eq (l.take n) a0 0 (fun x => .int .i64 x) d j o hnd hjt hd (hsz oi hmem d e)
            rw [h1] at h2
            simp only [Nat.zero_add, Value.int.injEq, true_and] at h2
            omega
          rw [put_ne _ _ _ _ hne]
          exact hst j _ (fun e => hij e.symm) (hG.posts j o d hj ho hl hd)
theorem wp_region_rg {id : Nat} {l : List Oper} (n : Nat) {a0 : Act} {w0 : World} (Inv : World → Prop) (post : Nat → Value → World → Prop) (hm : P.follows .mixedOrders = true) (hB : rgB l n = true)
    (hsz : (l.take n).all (fun o => match o.dst with | some d => decide (d < a0.tmps.size) | none => true) = true) (hI : Inv w0.drew) (hops : RgAll P Q l.toArray (l.take n) a0 Inv post 0 (l.take n))
    (hend : ∀ vs w, Inv w → (∀ j o d, j < n → l[j]? = some o → o.dst = some d → post j (vs j) w) → wpList P l.toArray Q (l.drop n) (rgPut a0 (l.take n) 0 vs) w) : (Code.region id l.toArray true).wp P Q a0 w0 := by
  have hnl : n ≤ l.length := by
    simp only [rgB, Bool.and_eq_true, decide_eq_true_eq] at hB
    exact hB.2
  refine wp_region_any hm ?_
  refine rg_any hB (fun o ho d hd => ?_) hops hend n _ _ a0 w0.drew ?_ (by simp; omega) ⟨⟨by simp, fun j oj _ hl => (by rw [getD_replicate_false] at hl; cases hl), fun t _ ht => getD_in (by simpa using ht) (getD_replicate_false _ _)⟩, hI, ⟨rfl, rfl, fun _ _ => rfl⟩, fun j o d _ _ hl => (by rw [getD_replicate_false] at hl; cases hl)⟩
  · have := List.all_eq_true.1 hsz o ho
    rw [hd] at this
    simpa using this
  · unfold rgLeft
    rw [List.countP_eq_length.2]
    · simp
    · intro j hj
      have : j < l.length := by have := List.mem_range.1 hj; omega
      simp [Array.getD_eq_getD_getElem?, this]
/-- The same obligations, in a region that goes in the text's order. -/
theorem rg_list {l : List Oper} {n : Nat} {a0 : Act} {Inv : World → Prop} {post : Nat → Value → World → Prop} (hB : rgB l n = true)
    (hsz : ∀ o ∈ l.take n, ∀ d, o.dst = some d → d < a0.tmps.size) (hops : RgAll P Q l.toArray (l.take n) a0 Inv post 0 (l.take n))
    (hend : ∀ vs w, Inv w → (∀ j o d, j < n → l[j]? = some o → o.dst = some d → post j (vs j) w) → wpList P l.toArray Q (l.drop n) (rgPut a0 (l.take n) 0 vs) w) :
    ∀ (m j : Nat) (a : Act) (w : World), m = n - j → j ≤ n → Inv w → RgFrame (l.take n) a0 a → (∀ i o d, i < j → l[i]? = some o → o.dst = some d → post i (a.tmps.getD d undef) w) → wpList P l.toArray Q (l.drop j) a w := by
  simp only [rgB, Bool.and_eq_true, decide_eq_true_eq, Bool.or_eq_true] at hB
  obtain ⟨⟨⟨⟨hlex, htail⟩, hseq⟩, hnd⟩, hnl⟩ := hB
  intro m
  induction m with
  | zero =>
    intro j a w hm hj hI hF hp
    have hjn : j = n := by omega
    subst hjn
    have hvs := hend (fun i => match l[i]? with | some o => (match o.dst with | some d => a.tmps.getD d undef | none => undef) | none => undef) w hI (fun i o d hi ho hd => by
      simp only [ho, hd]
      exact hp i o d hi ho hd)
    have ha : a = rgPut a0 (l.take j) 0 (fun i => match l[i]? with | some o => (match o.dst with | some d => a.tmps.getD d undef | none => undef) | none => undef) := by
      apply act_ext
      · rw [rgPut_defers]; exact hF.1
      · rw [rgPut_size]; exact hF.2.1
      · intro d
        by_cases hd : ∃ o ∈ l.take j, o.dst = some d
        · obtain ⟨o, ho, hod⟩ := hd
          obtain ⟨i, hi, hio⟩ := List.getElem_of_mem ho
          have hin : i < j := by simp at hi; omega
          have hio' : (l.take j)[i]? = some o := by rw [List.getElem?_eq_getElem hi, hio]
          rw [rgPut_eq (l.take j) a0 0 _ d i o hnd hio' hod (hsz o ho d hod), Nat.zero_add]
          have : l[i]? = some o := by rw [List.getElem?_take] at hio'; rw [if_pos hin] at hio'; exact hio'
          simp only [this, hod]
        · have hd' : ∀ o ∈ l.take j, o.dst ≠ some d := fun o ho e => hd ⟨o, ho, e⟩
          rw [rgPut_ne _ _ _ _ _ hd']
          exact hF.2.2 d hd'
    rw [← ha] at hvs
    exact hvs
  | succ m ih =>
    intro j a w hm hj hI hF hp
    have hjn : j < n := by omega
    have hjl : j < l.length := by omega
    rw [List.drop_eq_getElem_cons hjl]
    have hoj : l[j]? = some l[j] := by simp [hjl]
    have hojt : (l.take n)[j]? = some l[j] := by rw [List.getElem?_take, if_pos hjn]; exact hoj
    have hok := RgAll.at_ hops j _ hojt
    rw [Nat.zero_add] at hok
    have hmem : l[j] ∈ l.take n := List.mem_of_getElem? hojt
    have h1 := List.all_eq_true.1 hlex j (List.mem_range.2 hjn)
    rw [hoj] at h1
    have := hok a w (wpList P l.toArray Q (l.drop (j + 1))) hI (fun e he hb o' ho' d hd => by
      have h2 := Array.all_eq_true'.1 h1 e he
      simp only [hb, Bool.not_true, Bool.false_or, decide_eq_true_eq] at h2
      exact hp e.on o' d h2 (by simpa using ho') hd) hF (fun v w' hI' hpj hst => by
      refine ih (j + 1) _ w' (by omega) (by omega) hI' ⟨by rw [put_defers]; exact hF.1, by rw [put_size]; exact hF.2.1, fun d hd => ?_⟩ (fun i o d hi ho hd => ?_)
      · rw [put_ne _ _ _ _ (hd _ hmem)]
        exact hF.2.2 d hd
      · by_cases hij : i = j
        · subst hij
          have : o = l[i] := Option.some.inj (ho.symm.trans hoj)
          subst this
          rw [hd, put_eq _ _ _ (by rw [hF.2.1]; exact hsz _ hmem d hd)]
          exact hpj
        · have hne : (l[j]).dst ≠ some d := by
            intro e
            have hit : (l.take n)[i]? = some o := by rw [List.getElem?_take, if_pos (by omega)]; exact ho
            have h1 := rgPut_eq (l.take n) a0 0 (fun x => .int .i64 x) d j _ hnd hojt e (hsz _ hmem d e)
            have h2 := rgPut_eq (l.take n) a0 0 (fun x => .int .i64 x) d i o hnd hit hd (hsz _ hmem d e)
            rw [h1] at h2
            simp only [Nat.zero_add, Value.int.injEq, true_and] at h2
            omega
          rw [put_ne _ _ _ _ hne]
          exact hst i _ (by omega) (hp i o d (by omega) ho hd))
    unfold wpList
    split
    · rename_i hw; rw [if_pos hw] at this; exact this
    · rename_i hw; rw [if_neg hw] at this; exact this
/-- Whether the region draws its order or not. -/
theorem wp_region_rgd {d : Bool} {id : Nat} {l : List Oper} (n : Nat) {a0 : Act} {w0 : World} (Inv : World → Prop) (post : Nat → Value → World → Prop) (hm : P.follows .mixedOrders = true) (hB : rgB l n = true)
    (hsz : (l.take n).all (fun o => match o.dst with | some d => decide (d < a0.tmps.size) | none => true) = true) (hI : Inv w0) (hI' : Inv w0.drew) (hops : RgAll P Q l.toArray (l.take n) a0 Inv post 0 (l.take n))
    (hend : ∀ vs w, Inv w → (∀ j o d, j < n → l[j]? = some o → o.dst = some d → post j (vs j) w) → wpList P l.toArray Q (l.drop n) (rgPut a0 (l.take n) 0 vs) w) : (Code.region id l.toArray d).wp P Q a0 w0 := by
  cases d
  · refine wp_region_lit ?_
    have := rg_list hB (fun o ho d hd => by
      have := List.all_eq_true.1 hsz o ho
      rw [hd] at this
      simpa using this) hops hend n 0 a0 w0 (by omega) (Nat.zero_le _) hI ⟨rfl, rfl, fun _ _ => rfl⟩ (fun i _ _ hi => by omega)
    simpa using this
  · exact wp_region_rg n Inv post hm hB hsz hI' hops hend
theorem RgDep.get {ops : Array Oper} {post : Nat → Value → World → Prop} {o : Oper} {a : Act} {w : World} (h : RgDep ops post o a w) (i : Nat) {o' : Oper} {d : Nat} (hi : (o.after.toList.any fun e => Region.binds .any e && e.on == i) = true) (ho : ops[i]? = some o') (hd : o'.dst = some d) : post i (a.tmps.getD d undef) w := by
  obtain ⟨e, he, hb⟩ := List.any_eq_true.1 hi
  simp only [Bool.and_eq_true, beq_iff_eq] at hb
  obtain ⟨hb, rfl⟩ := hb
  exact h e (by simpa using he) hb o' ho d hd
theorem RgFrame.get {heads : List Oper} {a0 a : Act} (h : RgFrame heads a0 a) (d : Nat) (hd : (heads.all fun o => o.dst != some d) = true) : a.tmps.getD d undef = a0.tmps.getD d undef :=
  h.2.2 d (fun o ho e => by have := List.all_eq_true.1 hd o ho; rw [e] at this; simp at this)
/-- An operation that leaves the world alone. -/
theorem RgOk.val {ops : Array Oper} {heads : List Oper} {a0 : Act} {Inv : World → Prop} {post : Nat → Value → World → Prop} {j : Nat} {o : Oper} (hg : o.guard = none)
    (h : ∀ a w, Inv w → RgDep ops post o a w → RgFrame heads a0 a → ∃ v, (execOp a.eval o).run P w = .ok (.value v) w ∧ post j v w) : RgOk P Q ops heads a0 Inv post j o := by
  intro a w K hI hD hF hK
  rw [if_pos (by simp [Region.wanted, hg])]
  obtain ⟨v, hr, hp⟩ := h a w hI hD hF
  left
  unfold Oper.wp
  rw [hr]
  exact hK v w hI hp (fun _ _ _ h => h)
/-- One that makes a world in which all that is known stays known. -/
theorem RgOk.turn {ops : Array Oper} {heads : List Oper} {a0 : Act} {Inv : World → Prop} {post : Nat → Value → World → Prop} {j : Nat} {o : Oper} (hg : o.guard = none)
    (h : ∀ a w, Inv w → RgDep ops post o a w → RgFrame heads a0 a → ∃ v w', (execOp a.eval o).run P w = .ok (.value v) w' ∧ Inv w' ∧ post j v w' ∧ ∀ i u, i ≠ j → post i u w → post i u w') : RgOk P Q ops heads a0 Inv post j o := by
  intro a w K hI hD hF hK
  rw [if_pos (by simp [Region.wanted, hg])]
  obtain ⟨v, w', hr, hI', hp, hs⟩ := h a w hI hD hF
  left
  unfold Oper.wp
  rw [hr]
  exact hK v w' hI' hp hs
/-- A call of a Go function. -/
theorem RgOk.call {ops : Array Oper} {heads : List Oper} {a0 : Act} {Inv : World → Prop} {post : Nat → Value → World → Prop} {j : Nat} {o : Oper} (hg : o.guard = none) (f : FuncId)
    (h : ∀ a w, Inv w → RgDep ops post o a w → RgFrame heads a0 a → ∃ args, (execOp a.eval o).run P w = .ok (.enter f args) w ∧ Calls P f args w fun e w' => ∃ v, e = .returned v ∧ Inv w' ∧ post j v w' ∧ ∀ i u, i ≠ j → post i u w → post i u w') : RgOk P Q ops heads a0 Inv post j o := by
  intro a w K hI hD hF hK
  rw [if_pos (by simp [Region.wanted, hg])]
  obtain ⟨args, hr, hc⟩ := h a w hI hD hF
  left
  unfold Oper.wp
  rw [hr, Oper.upon_enter]
  refine hc.mono ?_
  rintro e w' ⟨v, rfl, hI', hp, hs⟩
  exact hK v w' hI' hp hs
/-- An append of one element to a row of the call's own. -/
theorem RgOk.append {ops : Array Oper} {heads : List Oper} {a0 : Act} {Inv : World → Prop} {post : Nat → Value → World → Prop} {j : Nat} {o : Oper} (hg : o.guard = none) {t e : TypeId} {size bytes : Nat} (T : AppTy P t e size bytes) (s x : Operand)
    (hop : o.op = Op.call { callee := Callee.builtin Builtin.append, args := #[s, x], argTypes := #[t, t] }) {α : Type} {R : α → List Value → Prop} (v : Value) (l : List α) (y : α) (cs : List Value)
    (hr : R y cs) (hl : cs.length = size) (h1 : ∀ u ∈ cs, u.oneCell' = true) (hn : (l.length + 1) * bytes ≤ 140737488355328) (hn2 : l.length + 1 ≤ 9223372036854775807)
    (h : ∀ a w, Inv w → RgDep ops post o a w → RgFrame heads a0 a → ∃ B, a.eval s = v ∧ a.eval x = .slice (some ⟨B, 0, none⟩) 1 1 ∧ w.heap[B]? = some (.cells cs.toArray e (0, 0)) ∧ Own w e size R v l ∧
      ∀ g cap w', Grew w w' v e size R l (l ++ [y]) g cap → Inv w' ∧ post j (.slice (some ⟨g, 0, none⟩) (l.length + 1) cap) w' ∧ ∀ i u, i ≠ j → post i u w → post i u w') : RgOk P Q ops heads a0 Inv post j o := by
  intro a w K hI hD hF hK
  rw [if_pos (by simp [Region.wanted, hg])]
  obtain ⟨B, hs, hx, hB, hO, hG⟩ := h a w hI hD hF
  obtain ⟨g, cap, w', hrn, hGr⟩ := own_append (W := w) (w := w) (ty := o.type) T B y cs (Nat.le_refl _) rfl rfl rfl (fun _ _ => rfl) hB hO hr hl h1 hn hn2
  obtain ⟨hI', hp, hst⟩ := hG g cap w' hGr
  left
  unfold Oper.wp
  simp only [execOp, hop, resolve, invoke, builtin, Sem.run_bind, Sem.run_pure, Result.andThen_ok, List.map_toArray, List.map_cons, List.map_nil, hs, hx, hrn]
  exact hK _ w' hI' hp hst
end
end Go.Proofs.Ytgaginegcjpddaa
/- A statement 'x.f = append(x.f, e)': the whole region at once, whether it draws its order or not. No program in sight. -/
namespace Go.Proofs.Ytgaginegcjpddaa
open Go.RowKit
theorem Grew.alloc {α : Type} {w w' : World} {v : Value} {e size : Nat} {R : α → List Value → Prop} {l0 l : List α} {g cap : Nat} (h : Grew w w' v e size R l0 l g cap) (o : Obj) : Grew w (w'.alloc o) v e size R l0 l g cap :=
  ⟨h.own.alloc o, h.old.alloc o, h.grown.trans (World.grownBy_alloc _ _ _), h.lies, by have := h.lt; simp; omega⟩
theorem Grew.from {α : Type} {w0 w w' : World} {v : Value} {e size : Nat} {R : α → List Value → Prop} {l0 l : List α} {g cap : Nat} (hg : w0.grownBy w v.ownBlock) (h : Grew w w' v e size R l0 l g cap) : Grew w0 w' v e size R l0 l g cap :=
  ⟨h.own, h.old, hg.trans h.grown, h.lies.imp id (fun h => Nat.le_trans hg.size h), h.lt⟩
/-- What the operations of such a statement leave, one by one. -/
def pushPost {α : Type} (w0 : World) (pb off o : Nat) (ov y : Value) (cs : List Value) (e size : Nat) (R : α → List Value → Prop) (l0 : List α) (x : α) : Nat → Value → World → Prop
  | 0, v, _ => v = .pointer (some ⟨pb, o, none⟩)
  | 1, v, _ => v = .pointer (some ⟨pb, o, none⟩)
  | 2, v, _ => v = .pointer (some ⟨pb, o, none⟩)
  | 3, v, _ => v = .pointer (some ⟨pb, o + off, none⟩)
  | 4, v, _ => v = ov
  | 5, v, _ => v = y
  | 6, v, w => ∃ B : Nat, v = .slice (some ⟨B, 0, none⟩) 1 1 ∧ w0.heap.size ≤ B ∧ w.heap[B]? = some (.cells cs.toArray e (0, 0))
  | 7, v, w => ∃ g cap : Nat, v = .slice (some ⟨g, 0, none⟩) (l0.length + 1) cap ∧ Grew w0 w ov e size R l0 (l0 ++ [x]) g cap
  | _, _, _ => True
theorem pushPost_alloc {α : Type} {w0 w : World} {pb off o : Nat} {ov y : Value} {cs : List Value} {e size : Nat} {R : α → List Value → Prop} {l0 : List α} {x : α} {i : Nat} {u : Value} (h : pushPost w0 pb off o ov y cs e size R l0 x i u w) (ob : Obj) : pushPost w0 pb off o ov y cs e size R l0 x i u (w.alloc ob) := by
  unfold pushPost at h ⊢
  split at h <;> first
    | exact h
    | (obtain ⟨B, h1, h2, h3⟩ := h; exact ⟨B, h1, h2, old_blk h3 ob⟩)
    | (obtain ⟨g, cap, h1, h2⟩ := h; exact ⟨g, cap, h1, h2.alloc ob⟩)
theorem pushPost_grew {α : Type} {w0 w w' : World} {pb off o : Nat} {ov y : Value} {cs : List Value} {e size : Nat} {R : α → List Value → Prop} {l0 m : List α} {x : α} {g cap : Nat} (hG : Grew w w' ov e size R l0 m g cap) (hlt : ∀ b, ov.ownBlock = some b → b < w0.heap.size) {i : Nat} {u : Value} (hi : i ≠ 7) (h : pushPost w0 pb off o ov y cs e size R l0 x i u w) : pushPost w0 pb off o ov y cs e size R l0 x i u w' := by
  unfold pushPost at h ⊢
  split at h <;> first
    | exact h
    | (obtain ⟨B, h1, h2, h3⟩ := h; exact ⟨B, h1, h2, hG.keep h3 (fun e => by have := hlt B e; omega)⟩)
    | exact absurd rfl hi
theorem Own.blk {α : Type} {w : World} {e size : Nat} {R : α → List Value → Prop} {v : Value} {l : List α} (ho : Own w e size R v l) (b : Nat) (hv : v.ownBlock = some b) : b < w.heap.size := by
  rcases ho.shape with ⟨h1, _⟩ | ⟨g, cap, h1, _, _, h2⟩
  · rw [h1] at hv; cases hv
  · rw [h1] at hv; cases hv; exact h2
section
variable {P : Program} {Q : Exit → Act → World → Prop}
def pushShape (p t sty k slT : Nat) (eop : Op) : List (Option Tmp × Op × Option (Nat × Bool)) :=
  [(some t, .move (.tmp p), none), (some (t + 1), .move (.tmp p), none), (some (t + 2), .nilCheck (.tmp (t + 1)), none), (some (t + 3), .fieldAddr sty (.tmp (t + 2)) k, none), (some (t + 4), .load slT (.tmp (t + 3)), none), (some (t + 5), eop, none),
   (some (t + 6), .buildSlice slT 1 #[(0, .tmp (t + 5))], none), (some (t + 7), .call { callee := .builtin .append, args := #[.tmp (t + 4), .tmp (t + 6)], argTypes := #[slT, slT] }, none),
   (some (t + 8), .nilCheck (.tmp t), none), (some (t + 9), .fieldAddr sty (.tmp (t + 8)) k, none), (none, .store slT (.tmp (t + 9)) (.tmp (t + 7)), none)]
def rgWaits (l : List Oper) (j i : Nat) : Bool := match l[j]? with | some o => o.after.toList.any fun e => Region.binds .any e && e.on == i | none => false
theorem rgWaits_get {l : List Oper} {j i : Nat} (h : rgWaits l j i = true) {o : Oper} (ho : l[j]? = some o) {ops : Array Oper} {post : Nat → Value → World → Prop} {a : Act} {w : World} (hD : RgDep ops post o a w) {o' : Oper} {d : Nat} (ho' : ops[i]? = some o') (hd : o'.dst = some d) : post i (a.tmps.getD d undef) w := by
  unfold rgWaits at h
  rw [ho] at h
  exact hD.get i h ho' hd
def pushDeps (l : List Oper) : Bool := rgWaits l 2 1 && rgWaits l 3 2 && rgWaits l 4 3 && rgWaits l 6 5 && rgWaits l 7 4 && rgWaits l 7 6
def pushAct (a : Act) (t : Nat) (pt pf ov y sb sg : Value) : Act :=
  ((((((((((a.put (some t) pt).put (some (t + 1)) pt).put (some (t + 2)) pt).put (some (t + 3)) pf).put (some (t + 4)) ov).put (some (t + 5)) y).put (some (t + 6)) sb).put (some (t + 7)) sg).put (some (t + 8)) pt).put (some (t + 9)) pf)
theorem list11 {α : Type} {l : List α} (h : l.length = 11) : ∃ a b c d e f g i j k m, l = [a, b, c, d, e, f, g, i, j, k, m] := by
  match l, h with
  | [a, b, c, d, e, f, g, i, j, k, m], _ => exact ⟨a, b, c, d, e, f, g, i, j, k, m, rfl⟩
/-- what the program says of the types of such a statement -/
structure PushTy (P : Program) (sty k off slT e size bytes : Nat) : Prop where
  app : AppTy P slT e size bytes
  field : ∀ b o w, (Instr.fieldAt sty (.pointer (some ⟨b, o, none⟩)) k).run P w = .ok (.pointer (some ⟨b, o + off, none⟩)) w
  load : ∀ a v w, w.cell? a = some v → (Instr.loadAt slT (.pointer (some a))).run P w = .ok v w
  store : ∀ a p n c w u, w.cell? a = some u → w.frozen? a = false → (Instr.storeAt slT (.pointer (some a)) (.slice p n c)).run P w = .ok () (w.setCell a (.slice p n c))
theorem wp_push {sty k off slT e size bytes : Nat} (T : PushTy P sty k off slT e size bytes) {d : Bool} {id : Nat} {l : List Oper} {a0 : Act} {w0 : World} (hm : P.follows .mixedOrders = true) (p t : Nat) (eop : Op)
    (hB : rgB l 8 = true) (hdep : pushDeps l = true) (hsh : l.map (fun o => (o.dst, o.op, o.guard)) = pushShape p t sty k slT eop) (hsz' : decide (t + 10 ≤ a0.tmps.size) = true) (hpt : p < t)
    {α : Type} {R : α → List Value → Prop} (pb o : Nat) (ov y : Value) (cs : List Value) (l0 : List α) (x : α)
    (hp : a0.tmps.getD p undef = .pointer (some ⟨pb, o, none⟩)) (hc : w0.cell? ⟨pb, o + off, none⟩ = some ov) (hfz : w0.frozen? ⟨pb, o + off, none⟩ = false) (hne : ov.ownBlock ≠ some pb) (hO : Own w0 e size R ov l0)
    (hel : ∀ a w' o5, o5.op = eop → RgFrame (l.take 8) a0 a → w0.grownBy w' ov.ownBlock → (execOp a.eval o5).run P w' = .ok (.value y) w')
    (hbs : ∀ w, (Instr.buildSlice slT 1 #[(0, y)]).run P w = .ok (.slice (some ⟨w.heap.size, 0, none⟩) 1 1) (w.alloc (.cells cs.toArray e)))
    (hr : R x cs) (hl : cs.length = size) (h1 : ∀ u ∈ cs, u.oneCell' = true) (hn : (l0.length + 1) * bytes ≤ 140737488355328) (hn2 : l0.length + 1 ≤ 9223372036854775807)
    (hQ : ∀ B g cap w1, Grew w0 w1 ov e size R l0 (l0 ++ [x]) g cap → Q .normal (pushAct a0 t (.pointer (some ⟨pb, o, none⟩)) (.pointer (some ⟨pb, o + off, none⟩)) ov y (.slice (some ⟨B, 0, none⟩) 1 1) (.slice (some ⟨g, 0, none⟩) (l0.length + 1) cap)) (w1.setCell ⟨pb, o + off, none⟩ (.slice (some ⟨g, 0, none⟩) (l0.length + 1) cap))) :
    (Code.region id l.toArray d).wp P Q a0 w0 := by
  have hsz : t + 10 ≤ a0.tmps.size := of_decide_eq_true hsz'
  have hblt : ∀ b, ov.ownBlock = some b → b < w0.heap.size := fun b hb => hO.blk b hb
  have hpb : pb < w0.heap.size := World.block_lt_of_cell? w0 _ hc
  obtain ⟨o0, o1, o2, o3, o4, o5, o6, o7, o8, o9, o10, rfl⟩ := list11 (l := l) (by have := congrArg List.length hsh; simpa [pushShape] using this)
  simp only [List.map_cons, List.map_nil, pushShape, List.cons.injEq, Prod.mk.injEq, and_true] at hsh
  obtain ⟨⟨d0, p0, g0⟩, ⟨d1, p1, g1⟩, ⟨d2, p2, g2⟩, ⟨d3, p3, g3⟩, ⟨d4, p4, g4⟩, ⟨d5, p5, g5⟩, ⟨d6, p6, g6⟩, ⟨d7, p7, g7⟩, ⟨d8, p8, g8⟩, ⟨d9, p9, g9⟩, ⟨d10, p10, g10⟩⟩ := hsh
  simp only [pushDeps, Bool.and_eq_true] at hdep
  obtain ⟨⟨⟨⟨⟨w21, w32⟩, w43⟩, w65⟩, w74⟩, w76⟩ := hdep
  have hlt : ∀ i : Nat, i < 10 → (t + i : Nat) < a0.tmps.size := by intro i hi; omega
  have hfr : ∀ a : Act, RgFrame ([o0, o1, o2, o3, o4, o5, o6, o7, o8, o9, o10].take 8) a0 a → a.tmps.getD p undef = .pointer (some ⟨pb, o, none⟩) := fun a hF => by
    rw [hF.2.2 p (fun ob hob e => by
      simp only [List.take, List.mem_cons, List.not_mem_nil, or_false] at hob
      rcases hob with h | h | h | h | h | h | h | h <;> rw [h] at e <;> simp only [d0, d1, d2, d3, d4, d5, d6, d7] at e <;> (have e2 : (_ : Nat) = (_ : Nat) := Option.some.inj e; omega)), hp]
  refine wp_region_rgd 8 (fun w' => w0.grownBy w' ov.ownBlock ∧ Own w' e size R ov l0) (pushPost w0 pb off o ov y cs e size R l0 x) hm hB ?_ ⟨⟨rfl, rfl, rfl, Nat.le_refl _, fun _ _ _ => rfl⟩, hO⟩ ⟨⟨rfl, rfl, rfl, Nat.le_refl _, fun _ _ _ => rfl⟩, hO.of_heap rfl⟩ ?_ ?_
  · simp only [List.take, List.all_cons, List.all_nil, d0, d1, d2, d3, d4, d5, d6, d7, Bool.and_true, Bool.and_eq_true, decide_eq_true_eq]; exact ⟨hlt 0 (by omega), hlt 1 (by omega), hlt 2 (by omega), hlt 3 (by omega), hlt 4 (by omega), hlt 5 (by omega), hlt 6 (by omega), hlt 7 (by omega)⟩
  · refine ⟨?_, ?_, ?_, ?_, ?_, ?_, ?_, ?_, trivial⟩
    · exact RgOk.val g0 fun a w hI hD hF => ⟨_, by simp only [execOp, p0, Act.eval, hfr a hF]; rfl, rfl⟩
    · exact RgOk.val g1 fun a w hI hD hF => ⟨_, by simp only [execOp, p1, Act.eval, hfr a hF]; rfl, rfl⟩
    · refine RgOk.val g2 fun a w hI hD hF => ?_
      have e1 : a.tmps.getD (t + 1) undef = _ := rgWaits_get w21 rfl hD rfl d1
      exact ⟨_, by simp only [execOp, p2, Act.eval, e1]; rfl, rfl⟩
    · refine RgOk.val g3 fun a w hI hD hF => ?_
      have e1 : a.tmps.getD (t + 2) undef = _ := rgWaits_get w32 rfl hD rfl d2
      exact ⟨_, by simp only [execOp, p3, Act.eval, e1, Sem.run_bind, Sem.run_pure, T.field, Result.andThen_ok], rfl⟩
    · refine RgOk.val g4 fun a w hI hD hF => ?_
      have e1 : a.tmps.getD (t + 3) undef = _ := rgWaits_get w43 rfl hD rfl d3
      have hc' := World.grownBy.cell hI.1 hc (fun e => hne e.symm)
      exact ⟨_, by simp only [execOp, p4, Act.eval, e1, Sem.run_bind, Sem.run_pure, T.load _ _ _ hc', Result.andThen_ok], rfl⟩
    · exact RgOk.val g5 fun a w hI hD hF => ⟨y, hel a w o5 p5 hF hI.1, rfl⟩
    · refine RgOk.turn g6 fun a w hI hD hF => ?_
      have e1 : a.tmps.getD (t + 5) undef = _ := rgWaits_get w65 rfl hD rfl d5
      refine ⟨_, _, by simp only [execOp, p6, Act.eval, e1, List.map_toArray, List.map_cons, List.map_nil, Sem.run_bind, Sem.run_pure, hbs, Result.andThen_ok], ⟨hI.1.trans (World.grownBy_alloc _ _ _), hI.2.alloc _⟩, ⟨_, rfl, hI.1.size, new_blk _ _⟩, fun i u hi h => pushPost_alloc h _⟩
    · refine RgOk.append (R := R) g7 T.app (.tmp (t + 4)) (.tmp (t + 6)) p7 ov l0 x cs hr hl h1 hn hn2 fun a w hI hD hF => ?_
      have e4 : a.tmps.getD (t + 4) undef = _ := rgWaits_get w74 rfl hD rfl d4
      obtain ⟨B, e6, hB1, hB2⟩ := rgWaits_get w76 rfl hD rfl d6
      refine ⟨B, e4, e6, hB2, hI.2, fun g cap w' hG => ⟨⟨hI.1.trans hG.grown, hG.old⟩, ⟨g, cap, rfl, Grew.from hI.1 hG⟩, fun i u hi h => pushPost_grew hG hblt hi h⟩⟩
  · intro vs w hI hP
    obtain ⟨g, cap, e7, hG⟩ := hP 7 _ _ (by omega) rfl d7
    obtain ⟨B, e6, hB1, hB2⟩ := hP 6 _ _ (by omega) rfl d6
    have e0 : vs 0 = _ := hP 0 _ _ (by omega) rfl d0
    have e1 : vs 1 = _ := hP 1 _ _ (by omega) rfl d1
    have e2 : vs 2 = _ := hP 2 _ _ (by omega) rfl d2
    have e3 : vs 3 = _ := hP 3 _ _ (by omega) rfl d3
    have e4 : vs 4 = _ := hP 4 _ _ (by omega) rfl d4
    have e5 : vs 5 = _ := hP 5 _ _ (by omega) rfl d5
    have hc' := World.grownBy.cell hI.1 hc (fun e => hne e.symm)
    have hfz' : w.frozen? ⟨pb, o + off, none⟩ = false := by
      rw [← hfz]; simp only [World.frozen?, hI.1.block pb hpb (fun e => hne e.symm)]
    have hput : rgPut a0 ([o0, o1, o2, o3, o4, o5, o6, o7, o8, o9, o10].take 8) 0 vs = ((((((((a0.put (some t) (.pointer (some ⟨pb, o, none⟩))).put (some (t + 1)) (.pointer (some ⟨pb, o, none⟩))).put (some (t + 2)) (.pointer (some ⟨pb, o, none⟩))).put (some (t + 3)) (.pointer (some ⟨pb, o + off, none⟩))).put (some (t + 4)) ov).put (some (t + 5)) y).put (some (t + 6)) (.slice (some ⟨B, 0, none⟩) 1 1)).put (some (t + 7)) (.slice (some ⟨g, 0, none⟩) (l0.length + 1) cap)) := by
      simp only [List.take, rgPut, d0, d1, d2, d3, d4, d5, d6, d7, Nat.zero_add, e0, e1, e2, e3, e4, e5, e6, e7]
    rw [hput]
    have hput2 : ∀ (a : Act) (i j : Nat) (v : Value), i ≠ j → (a.put (some i) v).tmps.getD j undef = a.tmps.getD j undef := fun a i j v h => put_ne _ _ _ _ (by simpa using h)
    have hs : ∀ (a : Act) (dd : Option Tmp) (v : Value), (a.put dd v).tmps.size = a.tmps.size := fun a dd v => put_size _ _ _
    simp only [List.drop]
    refine wpList_plain g8 fun K hK => ?_
    unfold Oper.wp
    rw [show (execOp (Act.eval _) o8).run P w = .ok (.value (.pointer (some ⟨pb, o, none⟩))) w by
      simp only [execOp, p8, Act.eval]
      rw [hput2 _ _ _ _ (by omega), hput2 _ _ _ _ (by omega), hput2 _ _ _ _ (by omega), hput2 _ _ _ _ (by omega), hput2 _ _ _ _ (by omega), hput2 _ _ _ _ (by omega), hput2 _ _ _ _ (by omega), put_eq _ _ _ (by omega)]
      rfl]
    refine hK _ _ ?_
    refine wpList_plain g9 fun K hK => ?_
    unfold Oper.wp
    rw [show (execOp (Act.eval _) o9).run P w = .ok (.value (.pointer (some ⟨pb, o + off, none⟩))) w by
      simp only [execOp, p9, Act.eval, d8]
      rw [put_eq _ _ _ (by simp only [hs]; omega)]
      simp only [Sem.run_bind, Sem.run_pure, T.field, Result.andThen_ok]]
    refine hK _ _ ?_
    refine wpList_plain g10 fun K hK => ?_
    unfold Oper.wp
    rw [show (execOp (Act.eval _) o10).run P w = .ok .skip (w.setCell ⟨pb, o + off, none⟩ (.slice (some ⟨g, 0, none⟩) (l0.length + 1) cap)) by
      simp only [execOp, p10, Act.eval, d8, d9]
      rw [put_eq _ _ _ (by simp only [hs]; omega), hput2 _ _ _ _ (by omega), hput2 _ _ _ _ (by omega), put_eq _ _ _ (by simp only [hs]; omega)]
      simp only [Sem.run_bind, Sem.run_pure, T.store _ _ _ _ _ _ hc' hfz', Result.andThen_ok]]
    refine hK _ _ ?_
    refine wpList_nil ?_
    have := hQ B g cap w hG
    simpa only [pushAct, d8, d9, d10, Act.put] using this
end
theorem wpStill_skip {P : Program} {ops : Array Oper} {w : World} {Q : Act → Prop} {a : Act} {o : Oper} {rest : List Oper} (h0 : Region.wanted o (yielded ops a.tmps) = false) (h : wpStill P ops w Q rest (a.put o.dst undef)) : wpStill P ops w Q (o :: rest) a := by
  unfold wpStill
  rw [if_neg (by simp [h0])]
  exact h
theorem wp_still_tail {P : Program} {id : Nat} {Q : Exit → Act → World → Prop} {a : Act} {w : World} {l : List Oper} (n : Nat) (hm : P.follows .mixedOrders = true) (hB : Region.lexTailB .any l.toArray n = true)
    (h : wpStill P l.toArray w.drew (fun a' => wpList P l.toArray Q (l.drop n) a' w.drew) (l.take n) a) : (Code.region id l.toArray true).wp P Q a w := wp_region_still_tail n hm hB h
theorem wpStill_want {P : Program} {ops : Array Oper} {w : World} {Q : Act → Prop} {a : Act} {o : Oper} {rest : List Oper} (h0 : Region.wanted o (yielded ops a.tmps) = true) (h : ∀ K : Act → Prop, (∀ a, wpStill P ops w Q rest a → K a) → o.still P a w K) : wpStill P ops w Q (o :: rest) a := by
  unfold wpStill
  rw [if_pos h0]
  exact h _ (fun _ h => h)
/-- the same, the operations' array being held back: guards are asked one by one -/
theorem wp_still_gtail {P : Program} {id : Nat} {Q : Exit → Act → World → Prop} {a : Act} {w : World} {l : List Oper} (n : Nat) (hm : P.follows .mixedOrders = true) (hB : Region.lexTailB .any l.toArray n = true)
    (h : ∀ ops, Hid (ops = l.toArray) → wpStill P ops w.drew (fun a' => wpList P ops Q (l.drop n) a' w.drew) (l.take n) a) : (Code.region id l.toArray true).wp P Q a w := wp_region_still_tail n hm hB (h _ (hid rfl))
end Go.Proofs.Ytgaginegcjpddaa
/- What the program's num.Digits and num.Parse come to. -/
namespace Go.Proofs.Ytgaginegcjpddaa
open Go.RowKit
/-- a number that a word's size bounds -/
def Word64 (U : Nat) : Prop := U ≤ 9223372036854775808
theorem dig_bound {U k : Nat} (h : Word64 U) (hk : k = 0 ∨ U / 10 ^ k ≠ 0) : k ≤ 18 := by
  rcases hk with hk | hk
  · omega
  · rcases Nat.lt_or_ge k 19 with h1 | h1
    · omega
    · exfalso; apply hk
      have h2 : (10 : Nat) ^ 19 ≤ 10 ^ k := Nat.pow_le_pow_right (by omega) h1
      have h3 : (10 : Nat) ^ 19 = 10000000000000000000 := by decide
      unfold Word64 at h
      exact Nat.div_eq_of_lt (by omega)
theorem word_wrap {U : Nat} (h : Word64 U) : IntKind.u64.wrap (U : Int) = U := by
  unfold Word64 at h; simp [IntKind.wrap, IntKind.signed, IntKind.bits]; omega
theorem word_neg {U : Nat} (h0 : 0 < U) (h : Word64 U) : IntKind.u64.wrap (-IntKind.u64.wrap (-(U : Int))) = U := by
  unfold Word64 at h
  simp [IntKind.wrap, IntKind.signed, IntKind.bits]; omega
theorem word_div {U k : Nat} (h : Word64 U) : Word64 (U / 10 ^ k) := Nat.le_trans (Nat.div_le_self _ _) h
/-- a's digits, as cells of a buffer from a place on -/
def Tail (cs : Array Value) (p : Nat) (l : List UInt8) : Prop := cs.size = p + l.length ∧ ∀ i, i < l.length → cs[p + i]? = some (.int .u8 ((nth l i).toNat : Int))
theorem Tail.cons {cs : Array Value} {p : Nat} {l : List UInt8} (h : Tail cs (p + 1) l) (c : UInt8) (x : Int) (hx : x = (c.toNat : Int)) : Tail (cs.setIfInBounds p (.int .u8 x)) p (c :: l) := by
  subst hx
  refine ⟨by simp only [Array.size_setIfInBounds, List.length_cons, h.1]; omega, fun i hi => ?_⟩
  have hp : p < cs.size := by rw [h.1]; omega
  rcases i with _ | i
  · simp [nth, hp]
  · have := h.2 i (by simpa using hi)
    rw [show p + (i + 1) = p + 1 + i by omega, Array.getElem?_setIfInBounds_ne (by omega), this]
    simp [nth]
theorem Tail.nil (cs : Array Value) : Tail cs cs.size [] := ⟨by simp, fun i hi => by simp at hi⟩
theorem Tail.conv {P : Program} {src dst e t : TypeId} {cs : Array Value} {p : Nat} {l : List UInt8} (h : Tail cs p l) (hs : P.underlying src = some (.slice e)) (he : P.underlying e = some (.int .u8)) (hd : P.underlying dst = some .string) (w : World) (m c : Nat) (hm : m = l.length) :
    (convert src dst (.slice (some ⟨w.heap.size, p, none⟩) m c)).run P (w.alloc (.cells cs t)) = .ok (.string ⟨l.toArray⟩) (w.alloc (.cells cs t)) := by
  subst hm
  have key := run_convert_bytes_arg (P := P) (w.alloc (.cells cs t)) src e hs he w.heap.size p l.length c (l.map fun b => (b.toNat : Int)) (by simp) (fun i hi => by
    rw [World.cell?_alloc_new, h.2 i hi]
    simp [nth, hi]) dst hd
  rw [key]
  congr 2
  have : (l.map ((fun n : Int => UInt8.ofNat n.toNat) ∘ fun b : UInt8 => (b.toNat : Int))) = l := by
    conv => rhs; rw [← List.map_id l]
    exact List.map_congr_left fun b _ => by simp
  simp [strOfNums, List.map_map, this]
theorem arr_slice {P : Program} {t e n : Nat} {i : TypeInfo} (ht : P.underlying t = some (.array n e)) (hi : P.info? e = some i) (hs : i.size = 1) (b l : Nat) (hl : l < n) (W : World) :
    (Instr.sliceAt t (.pointer (some ⟨b, 0, none⟩)) (some (.int .i64 (l : Int))) none none).run P W = .ok (.slice (some ⟨b, l, none⟩) (n - l) (n - l)) W := by
  have h1 : P.elem t = e := by simp [Program.elem, ht]
  have h2 : P.arrayLen t = n := by simp [Program.arrayLen, ht]
  rw [run_sliceAt_array_l W t ⟨b, 0, none⟩ (by rw [h1, h2]; exact ht) .i64 l (by omega) (by rw [h2]; omega)]
  simp [h1, h2, sizeOf, typeInfo, hi, hs, slicedAt, Result.andThen, show n ≠ l by omega, add_plain']
def buf20 : Array Value := Array.replicate 20 (.int .u8 0)
/-- the digits of U's k last places -/
def lastDigs (U : Nat) : Nat → List UInt8
  | 0 => []
  | k + 1 => Lib.dg U k :: lastDigs U k
theorem lastDigs_length (U k : Nat) : (lastDigs U k).length = k := by induction k <;> simp [lastDigs, *]
theorem lastDigs_get (U k i : Nat) (h : i < k) : (lastDigs U k)[i]? = some (Lib.dg U (k - 1 - i)) := by
  induction k generalizing i with
  | zero => omega
  | succ k ih =>
    rcases i with _ | i
    · simp [lastDigs]
    · simp only [lastDigs, List.getElem?_cons_succ]
      rw [ih i (by omega)]
      congr 2; omega
theorem lastDigs_all (U k : Nat) (h : k = 0 ∨ U / 10 ^ k ≠ 0) (h2 : U / 10 ^ (k + 1) = 0) : lastDigs U (k + 1) = Lib.decDigits U := by
  have hn : Lib.nDigits U = k + 1 := by
    have hlt : U < 10 ^ (k + 1) := by
      rcases Nat.lt_or_ge U (10 ^ (k + 1)) with h3 | h3
      · exact h3
      · exfalso; have := (Nat.div_pos_iff).2 ⟨Nat.pow_pos (show 0 < 10 by omega), h3⟩; omega
    rcases h with rfl | h
    · exact Lib.nDigits_small (by simpa using hlt)
    · refine Lib.nDigits_unique k U ?_ hlt
      rcases Nat.lt_or_ge U (10 ^ k) with h3 | h3
      · exact absurd (Nat.div_eq_of_lt h3) h
      · exact h3
  rw [Lib.decDigits_eq, hn]
  apply List.ext_getElem?
  intro i
  rcases Nat.lt_or_ge i (k + 1) with hi | hi
  · rw [lastDigs_get _ _ _ hi]; simp [hi]
  · rw [List.getElem?_eq_none (by rw [lastDigs_length]; omega), List.getElem?_eq_none (by simp; omega)]
theorem dg_num (U j : Nat) : ((Lib.dg U j).toNat : Int) = 48 + ((U / 10 ^ j % 10 : Nat) : Int) := by
  unfold Lib.dg
  have : U / 10 ^ j % 10 < 10 := Nat.mod_lt _ (by omega)
  rw [UInt8.toNat_ofNat', Nat.mod_eq_of_lt (by omega)]
  omega
theorem und184 : Try.prog.underlying 182 = some (.array 20 5) := by kernel_rfl
theorem info5 : (Try.prog.info? 5).map (fun i => i.size) = some 1 := by kernel_rfl
def DigInv (w : World) (U k : Nat) (wr : World) : Prop := ∃ cs : Array Value, wr = w.alloc (.cells cs 182) ∧ Tail cs (20 - k) (lastDigs U k)
theorem div_succ (U k : Nat) : U / 10 ^ (k + 1) = U / 10 ^ k / 10 := by rw [Nat.pow_succ, Nat.div_div_eq_div_mul]
set_option maxRecDepth 100000 in
set_option maxHeartbeats 400000 in
theorem digits_pos (U : Nat) (w : World) (hU : Word64 U) : Calls Try.prog 87 #[.int .i64 U] w fun e w' => e = .returned (.string ⟨(Lib.itoa U).toArray⟩) ∧ Below w.heap.size w w' := by
  obtain ⟨i5, hi5, hs5⟩ := Option.map_eq_some_iff.1 info5
  have hw := word_wrap hU
  have hneg : ¬ (U : Int) < 0 := by omega
  have hit : Lib.itoa (U : Int) = Lib.decDigits U := by simp [Lib.itoa, hneg]
  rw [hit]; clear hit
  go_enter Try.func87, Try.ntmps87
  go_wp2
  clear hw
  go_loopw [4, 5] (fun t4 t5 wr => ∃ k : Nat, t4 = .int .i64 (20 - (k : Int)) ∧ t5 = .int .u64 ((U / 10 ^ k : Nat) : Int) ∧ (k = 0 ∨ U / 10 ^ k ≠ 0) ∧ DigInv w U k wr) (fun t4 _ _ => (intOf t4).toNat)
  case atStart => exact ⟨0, by simp, by simp, by simp, buf20, rfl, Tail.nil _⟩
  case round =>
    obtain ⟨k, rfl, rfl, hk0, cs, rfl, htail⟩ := hrel
    have hk := dig_bound hU hk0
    have hu := word_div (k := k) hU
    have ht1 : Tail cs (20 - k - 1 + 1) (lastDigs U k) := by rw [show 20 - k - 1 + 1 = 20 - k by omega]; exact htail
    have ht2 := ht1.cons (Lib.dg U k) (48 + ((U / 10 ^ k : Nat) : Int) % 10) (by rw [dg_num]; omega)
    obtain ⟨old, hold⟩ : ∃ v, cs[20 - k - 1]? = some v := ⟨cs[20 - k - 1]'(by rw [ht1.1]; omega), Array.getElem?_eq_getElem _⟩
    have hsl := arr_slice und184 hi5 hs5 w.heap.size (20 - k - 1) (by omega)
    have hcv := ht2.conv (P := Try.prog) (src := 108) (dst := 9) (e := 5) (t := 182) Try.underlying108 Try.underlying5 Try.underlying9 w (20 - (20 - k - 1)) (20 - (20 - k - 1)) (by simp [lastDigs_length]; omega)
    have hcast : (20 : Int) - (k : Int) - 1 = ((20 - k - 1 : Nat) : Int) := by omega
    rw [← hcast] at hsl
    clear hcast
    generalize hu' : U / 10 ^ k = u at *
    have hu1 : (u : Int) ≤ 9223372036854775808 := by unfold Word64 at hu; omega
    have HU' := hid hu'
    have HT2 := hid ht2
    have HK0 := hid hk0
    clear hu' hk0 hu ht2 ht1 htail
    go_wp2
    · have hz : u / 10 = 0 := by
        have h : ((u : Int) / 10 == 0) = true := by assumption
        have h2 := of_decide_eq_true h
        omega
      go_ret
      refine ⟨?_, (Below.refl _ _).alloc (Nat.le_refl _) _⟩
      have hl := lastDigs_all U k (HK0.out.imp id (fun h => by rw [HU'.out]; exact h)) (by rw [div_succ, HU'.out]; exact hz)
      rw [← hl]
      rfl
    · have hz : u / 10 ≠ 0 := by
        have h : ((u : Int) / 10 == 0) = false := by assumption
        intro e
        have h2 := of_decide_eq_false h
        omega
      go_roundw
      case rel =>
        refine ⟨k + 1, by go_num, ?_, .inr (by rw [div_succ, HU'.out]; exact hz), _, rfl, ?_⟩
        · rw [div_succ, HU'.out]; go_num
        · rw [show 20 - (k + 1) = 20 - k - 1 by omega]; exact HT2.out
      case measure => simp [intOf]; omega
set_option maxRecDepth 100000 in
set_option maxHeartbeats 400000 in
theorem digits_neg (U : Nat) (w : World) (hU : Word64 U) (h0 : 0 < U) : Calls Try.prog 87 #[.int .i64 (-(U : Int))] w fun e w' => e = .returned (.string ⟨(Lib.itoa (-(U : Int))).toArray⟩) ∧ Below w.heap.size w w' := by
  obtain ⟨i5, hi5, hs5⟩ := Option.map_eq_some_iff.1 info5
  have hw := word_neg h0 hU
  have hneg : -(U : Int) < 0 := by omega
  have hit : Lib.itoa (-(U : Int)) = 45 :: Lib.decDigits U := by unfold Lib.itoa; rw [if_pos hneg]; simp
  rw [hit]; clear hit
  go_enter Try.func87, Try.ntmps87
  go_wp2
  clear hw
  go_loopw [4, 5] (fun t4 t5 wr => ∃ k : Nat, t4 = .int .i64 (20 - (k : Int)) ∧ t5 = .int .u64 ((U / 10 ^ k : Nat) : Int) ∧ (k = 0 ∨ U / 10 ^ k ≠ 0) ∧ DigInv w U k wr) (fun t4 _ _ => (intOf t4).toNat)
  case atStart => exact ⟨0, by simp, by simp, by simp, buf20, rfl, Tail.nil _⟩
  case round =>
    obtain ⟨k, rfl, rfl, hk0, cs, rfl, htail⟩ := hrel
    have hk := dig_bound hU hk0
    have hu := word_div (k := k) hU
    have ht1 : Tail cs (20 - k - 1 + 1) (lastDigs U k) := by rw [show 20 - k - 1 + 1 = 20 - k by omega]; exact htail
    have ht2 := ht1.cons (Lib.dg U k) (48 + ((U / 10 ^ k : Nat) : Int) % 10) (by rw [dg_num]; omega)
    obtain ⟨old, hold⟩ : ∃ v, cs[20 - k - 1]? = some v := ⟨cs[20 - k - 1]'(by rw [ht1.1]; omega), Array.getElem?_eq_getElem _⟩
    have ht3 := Tail.cons (p := 20 - k - 1 - 1) (by rw [show 20 - k - 1 - 1 + 1 = 20 - k - 1 by omega]; exact ht2) 45 45 rfl
    obtain ⟨old2, hold2⟩ : ∃ v, (cs.setIfInBounds (20 - k - 1) (.int .u8 (48 + ((U / 10 ^ k : Nat) : Int) % 10)))[20 - k - 1 - 1]? = some v := ⟨_, Array.getElem?_eq_getElem (by simp [ht1.1]; omega)⟩
    have hsl := arr_slice und184 hi5 hs5 w.heap.size (20 - k - 1 - 1) (by omega)
    have hcv := ht3.conv (P := Try.prog) (src := 108) (dst := 9) (e := 5) (t := 182) Try.underlying108 Try.underlying5 Try.underlying9 w (20 - (20 - k - 1 - 1)) (20 - (20 - k - 1 - 1)) (by simp [lastDigs_length]; omega)
    have hcast : (20 : Int) - (k : Int) - 1 - 1 = ((20 - k - 1 - 1 : Nat) : Int) := by omega
    rw [← hcast] at hsl
    clear hcast
    generalize hu' : U / 10 ^ k = u at *
    have hu1 : (u : Int) ≤ 9223372036854775808 := by unfold Word64 at hu; omega
    have HU' := hid hu'
    have HT2 := hid ht2
    have HK0 := hid hk0
    clear hu' hk0 hu ht2 ht1 ht3 htail
    go_wp2
    · have hz : u / 10 = 0 := by
        have h : ((u : Int) / 10 == 0) = true := by assumption
        have h2 := of_decide_eq_true h
        omega
      go_ret
      refine ⟨?_, (Below.refl _ _).alloc (Nat.le_refl _) _⟩
      have hl := lastDigs_all U k (HK0.out.imp id (fun h => by rw [HU'.out]; exact h)) (by rw [div_succ, HU'.out]; exact hz)
      rw [← hl]
      rfl
    · have hz : u / 10 ≠ 0 := by
        have h : ((u : Int) / 10 == 0) = false := by assumption
        intro e
        have h2 := of_decide_eq_false h
        omega
      go_roundw
      case rel =>
        refine ⟨k + 1, by go_num, ?_, .inr (by rw [div_succ, HU'.out]; exact hz), _, rfl, ?_⟩
        · rw [div_succ, HU'.out]; go_num
        · rw [show 20 - (k + 1) = 20 - k - 1 by omega]; exact HT2.out
      case measure => simp [intOf]; omega
theorem digits_any (a : Int) (w : World) (h0 : -9223372036854775808 ≤ a) (h1 : a ≤ 9223372036854775807) : Calls Try.prog 87 #[.int .i64 a] w fun e w' => e = .returned (.string ⟨(Lib.itoa a).toArray⟩) ∧ Below w.heap.size w w' := by
  rcases Int.lt_or_le a 0 with h | h
  · obtain ⟨U, rfl⟩ : ∃ U : Nat, a = -(U : Int) := ⟨a.natAbs, by omega⟩
    exact digits_neg U w (by unfold Word64; omega) (by omega)
  · obtain ⟨U, rfl⟩ := Int.eq_ofNat_of_zero_le h
    exact digits_pos U w (by unfold Word64; omega)
end Go.Proofs.Ytgaginegcjpddaa
