/- What the program's tree.Depth comes to. -/
import Derived.Test.YtgaginegcjpddaaQt3
import Derived.Laws.MakeOwn
import Derived.Maps.OwnSet
import Derived.Maps.Views
import Derived.StringKeys
set_option linter.unusedVariables false
set_option linter.unusedSimpArgs false
namespace Go.Proofs.Ytgaginegcjpddaa
open Go.RowKit Go.Shelf
attribute [local go_sem] Oper.semAt_some
def maxK (d ks : List Int) : Int := ks.foldl (fun a k => max a (nth d k.toNat)) 0
theorem maxK_snoc (d ks : List Int) (x : Int) : maxK d (ks ++ [x]) = max (maxK d ks) (nth d x.toNat) := by simp [maxK]
/-- how deep the last j forms are -/
def deepS (l : List Form) : Nat → List Int
  | 0 => List.replicate l.length 0
  | j + 1 => if (nth l (l.length - 1 - j)).kind = 1 then (deepS l j).set (l.length - 1 - j) (min (maxK (deepS l j) (behind l.length ((l.length - 1 - j : Nat) : Int) (nth l (l.length - 1 - j)).kids) + 1) 13) else deepS l j
theorem deepS_len (l : List Form) : ∀ j, (deepS l j).length = l.length
  | 0 => by simp [deepS]
  | j + 1 => by unfold deepS; split <;> simp [deepS_len l j]
/-- the deepest of the places that there are -/
def mostS (d : List Int) (top : List Int) : Int := top.foldl (fun (a n : Int) => if 0 ≤ n ∧ n < d.length then max a (nth d n.toNat) else a) 0
def depthS (l : List Form) (top : List Int) : Int := mostS (deepS l l.length) top
theorem maxK_bd (d : List Int) (hd : ∀ i, 0 ≤ nth d i ∧ nth d i ≤ 13) : ∀ ks, 0 ≤ maxK d ks ∧ maxK d ks ≤ 13 := by
  intro ks
  have key : ∀ (ks : List Int) (a : Int), 0 ≤ a ∧ a ≤ 13 → 0 ≤ ks.foldl (fun a k => max a (nth d k.toNat)) a ∧ ks.foldl (fun a k => max a (nth d k.toNat)) a ≤ 13 := by
    intro ks
    induction ks with
    | nil => intro a h; exact h
    | cons k r ih =>
      intro a h
      have := hd k.toNat
      refine ih _ ?_
      show 0 ≤ max a (nth d k.toNat) ∧ max a (nth d k.toNat) ≤ 13
      omega
  exact key ks 0 (by omega)
theorem deepS_bd (l : List Form) : ∀ j i, 0 ≤ nth (deepS l j) i ∧ nth (deepS l j) i ≤ 13
  | 0, i => by
    simp only [deepS, nth, List.getD_eq_getElem?_getD, List.getElem?_replicate]
    have : (default : Int) = 0 := rfl
    split <;> simp [this]
  | j + 1, i => by
    have ih := deepS_bd l j
    have hm := maxK_bd _ ih (behind l.length ((l.length - 1 - j : Nat) : Int) (nth l (l.length - 1 - j)).kids)
    unfold deepS
    split
    · rcases Nat.lt_or_ge i (deepS l j).length with h | h
      · rw [nth_set h]
        split
        · omega
        · exact ih i
      · simp [nth, List.getElem?_eq_none (show ((deepS l j).set (l.length - 1 - j) _).length ≤ i by simpa using h), show (default : Int) = 0 from rfl]
    · exact ih i
def intsA (d : List Int) : Array Value := (d.map (Value.int .i64)).toArray
theorem intsA_get {d : List Int} {j : Nat} (h : j < d.length) : (intsA d)[j]? = some (.int .i64 (nth d j)) := by simp [intsA, h, nth_eq h]
theorem intsA_set {d : List Int} {j : Nat} {x : Int} : (intsA d).setIfInBounds j (.int .i64 x) = intsA (d.set j x) := by
  simp [intsA, List.map_set]
theorem arr_u {t : Array Value} {n : Nat} (h : t.size = n) : ∃ u : Nat → Value, (∀ i, t.getD i undef = u i) ∧ t = ((List.range n).map u).toArray := by
  refine ⟨fun i => t.getD i undef, fun _ => rfl, ?_⟩
  apply Array.ext
  · simp [h]
  · intro i h1 h2
    simp [Array.getD, h1]
/-- what Depth's loop stands on -/
structure DepthW (n0 : Nat) (w : World) (m Bd Bi Db : Nat) (Ds : List Nat) (iv : Int) (d : List Int) (W : World) : Prop where
  bd : W.heap[Bd]? = some (.cells #[.slice (some ⟨Db, 0, none⟩) m m] 25 (0, 0))
  bi : W.heap[Bi]? = some (.cells #[.int .i64 iv] 3 (0, 0))
  db : W.heap[Db]? = some (.cells (intsA d) 3 (0, 0))
  below : Below n0 w W
  marks : ∀ D ∈ Ds, n0 ≤ D ∧ W.heap[D]? = some (.deferred (some []))
  nodup : Ds.Nodup
  ne : Bd ≠ Bi ∧ Bd ≠ Db ∧ Bi ≠ Db
  lo : n0 ≤ Bd ∧ n0 ≤ Bi ∧ n0 ≤ Db
theorem DepthW.kept {n0 : Nat} {w : World} {m Bd Bi Db : Nat} {Ds : List Nat} {iv : Int} {d : List Int} {W W' : World} (h : DepthW n0 w m Bd Bi Db Ds iv d W) {row : Option Nat} (hg : W.grownBy W' row) (hr : ∀ r, row = some r → n0 ≤ r ∧ r ≠ Bd ∧ r ≠ Bi ∧ r ≠ Db ∧ r ∉ Ds) (hn : n0 ≤ W.heap.size) : DepthW n0 w m Bd Bi Db Ds iv d W' :=
  ⟨(hg.block _ (blk_lt h.bd) (fun e => (hr _ e.symm).2.1 rfl)).trans h.bd, (hg.block _ (blk_lt h.bi) (fun e => (hr _ e.symm).2.2.1 rfl)).trans h.bi, (hg.block _ (blk_lt h.db) (fun e => (hr _ e.symm).2.2.2.1 rfl)).trans h.db,
    h.below.grown hg hn (fun k e => (hr k e).1), fun D hD => ⟨(h.marks D hD).1, (hg.block _ (blk_lt (h.marks D hD).2) (fun e => (hr _ e.symm).2.2.2.2 hD)).trans (h.marks D hD).2⟩, h.nodup, h.ne, h.lo⟩
theorem DepthW.notIn {n0 : Nat} {w : World} {m Bd Bi Db : Nat} {Ds : List Nat} {iv : Int} {d : List Int} {W : World} (h : DepthW n0 w m Bd Bi Db Ds iv d W) : Bd ∉ Ds ∧ Bi ∉ Ds ∧ Db ∉ Ds := by
  refine ⟨fun e => ?_, fun e => ?_, fun e => ?_⟩
  · have := (h.marks _ e).2; rw [h.bd] at this; cases this
  · have := (h.marks _ e).2; rw [h.bi] at this; cases this
  · have := (h.marks _ e).2; rw [h.db] at this; cases this
/-- a value of the row turns -/
theorem DepthW.set {n0 : Nat} {w : World} {m Bd Bi Db : Nat} {Ds : List Nat} {iv : Int} {d : List Int} {W : World} (h : DepthW n0 w m Bd Bi Db Ds iv d W) (j : Nat) (x : Int) : DepthW n0 w m Bd Bi Db Ds iv (d.set j x) (W.setCell ⟨Db, j, none⟩ (.int .i64 x)) :=
  ⟨set_blk h.bd _ _ h.ne.2.1, set_blk h.bi _ _ h.ne.2.2, by rw [blk_set h.db, intsA_set], h.below.setCell h.lo.2.2 _, fun D hD => ⟨(h.marks D hD).1, set_blk (h.marks D hD).2 _ _ (fun e => h.notIn.2.2 (by have e' : D = Db := e; rw [← e']; exact hD))⟩, h.nodup, h.ne, h.lo⟩
theorem DepthW.drew {n0 : Nat} {w : World} {m Bd Bi Db : Nat} {Ds : List Nat} {iv : Int} {d : List Int} {W : World} (h : DepthW n0 w m Bd Bi Db Ds iv d W) : DepthW n0 w m Bd Bi Db Ds iv d W.drew :=
  ⟨h.bd, h.bi, h.db, below_drewN h.below 1, h.marks, h.nodup, h.ne, h.lo⟩
/-- the loop's variable: a new box -/
theorem DepthW.next {n0 : Nat} {w : World} {m Bd Bi Db : Nat} {Ds : List Nat} {iv : Int} {d : List Int} {W : World} (h : DepthW n0 w m Bd Bi Db Ds iv d W) (v v' : Int) (hn : n0 ≤ W.heap.size) :
    DepthW n0 w m Bd W.heap.size Db Ds v' d ((W.alloc (.cells #[.int .i64 v] 3 (0, 0))).setCell ⟨W.heap.size, 0, none⟩ (.int .i64 v')) := by
  have l1 := blk_lt h.bd
  have l2 := blk_lt h.db
  refine ⟨set_blk (old_blk h.bd _) _ _ (by show Bd ≠ W.heap.size; omega), by rw [blk_set (new_blk W _)]; rfl, set_blk (old_blk h.db _) _ _ (by show Db ≠ W.heap.size; omega), (h.below.alloc hn _).setCell hn _, fun D hD => ⟨(h.marks D hD).1, ?_⟩, h.nodup, ⟨by omega, h.ne.2.1, by omega⟩, ⟨h.lo.1, hn, h.lo.2.2⟩⟩
  have := blk_lt (h.marks D hD).2
  exact set_blk (old_blk (h.marks D hD).2 _) _ _ (by show D ≠ W.heap.size; omega)
theorem DepthW.next1 {n0 : Nat} {w : World} {m Bd Bi Db : Nat} {Ds : List Nat} {iv : Int} {d : List Int} {W : World} (h : DepthW n0 w m Bd Bi Db Ds iv d W) (v' : Int) (hn : n0 ≤ W.heap.size) :
    DepthW n0 w m Bd W.heap.size Db Ds v' d (W.alloc (.cells #[.int .i64 v'] 3 (0, 0))) := by
  have l1 := blk_lt h.bd
  have l2 := blk_lt h.db
  exact ⟨old_blk h.bd _, new_blk W _, old_blk h.db _, h.below.alloc hn _, fun D hD => ⟨(h.marks D hD).1, old_blk (h.marks D hD).2 _⟩, h.nodup, ⟨by omega, h.ne.2.1, by omega⟩, ⟨h.lo.1, hn, h.lo.2.2⟩⟩
theorem DepthW.size {n0 : Nat} {w : World} {m Bd Bi Db : Nat} {Ds : List Nat} {iv : Int} {d : List Int} {W : World} (h : DepthW n0 w m Bd Bi Db Ds iv d W) : n0 ≤ W.heap.size := by
  have := blk_lt h.bd; have := h.lo.1; omega
theorem DepthW.alloc {n0 : Nat} {w : World} {m Bd Bi Db : Nat} {Ds : List Nat} {iv : Int} {d : List Int} {W : World} (h : DepthW n0 w m Bd Bi Db Ds iv d W) (o : Obj) : DepthW n0 w m Bd Bi Db Ds iv d (W.alloc o) :=
  ⟨old_blk h.bd _, old_blk h.bi _, old_blk h.db _, h.below.alloc h.size _, fun D hD => ⟨(h.marks D hD).1, old_blk (h.marks D hD).2 _⟩, h.nodup, h.ne, h.lo⟩
theorem DepthW.mark {n0 : Nat} {w : World} {m Bd Bi Db : Nat} {Ds : List Nat} {iv : Int} {d : List Int} {W : World} (h : DepthW n0 w m Bd Bi Db Ds iv d W) {D : Nat} (hD : W.heap[D]? = some (.deferred (some []))) (h0 : n0 ≤ D) (hn : D ∉ Ds) : DepthW n0 w m Bd Bi Db (D :: Ds) iv d W :=
  ⟨h.bd, h.bi, h.db, h.below, fun E hE => by
    rcases List.mem_cons.1 hE with rfl | hE
    · exact ⟨h0, hD⟩
    · exact h.marks E hE, List.nodup_cons.2 ⟨hn, h.nodup⟩, h.ne, h.lo⟩
theorem DepthW.lts {n0 : Nat} {w : World} {m Bd Bi Db : Nat} {Ds : List Nat} {iv : Int} {d : List Int} {W : World} (h : DepthW n0 w m Bd Bi Db Ds iv d W) : Bd < W.heap.size ∧ Bi < W.heap.size ∧ Db < W.heap.size ∧ ∀ D ∈ Ds, D < W.heap.size :=
  ⟨blk_lt h.bd, blk_lt h.bi, blk_lt h.db, fun D hD => blk_lt (h.marks D hD).2⟩
theorem deepS_low (l : List Form) : ∀ j i, i + j < l.length → nth (deepS l j) i = 0
  | 0, i, h => by simp [deepS, nth_eq (show i < (List.replicate l.length (0 : Int)).length by simpa using h)]
  | j + 1, i, h => by
    unfold deepS
    split
    · rw [nth_set (by rw [deepS_len]; omega), if_neg (by omega)]
      exact deepS_low l j i (by omega)
    · exact deepS_low l j i (by omega)
theorem set_self {l : List Int} {i : Nat} (h : nth l i = 0) : l.set i 0 = l := by
  apply List.ext_getElem?
  intro k
  rw [List.getElem?_set]
  split
  · rename_i e
    subst e
    split
    · rename_i hk
      rw [nth_eq hk] at h
      simp [hk, h]
    · rename_i hk
      simp [List.getElem?_eq_none (by omega : l.length ≤ i)]
  · rfl
/-- a range over a function of one loop variable that is only assigned -/
theorem rf1 {F : Fence} {n : Nat} {P : Program} {α : Type} {g : Operand} {p q : Tmp} {assign body : Code} {Q : Exit → Go.Act → World → Prop} {a : Go.Act} {w : World}
    (hro : F.round = none) (h1 : 1 ≤ n) {gf : Nat} {lb : Array Value} (hg : a.eval g = .func (.func gf) #[] lb) (hFg : F.fn gf) (eg : ∀ args w, (callFunc gf args).run P w = .ok (.enter gf args) w)
    {e : α → Value} {Kp : World → World → Prop} {S Sp : List α → Prop} {N : Nat} (hseq : SeqStopsK F (n - 1) P gf lb (fun x => #[e x]) Kp S Sp N w)
    (hKt : ∀ {A B C : World}, Kp A B → Kp B C → Kp A C) (hKb : ∀ (W : World) (l : Nat) (o o' : Obj), w.heap.size ≤ l → W.heap[l]? = some o → o.isCells = false → o.isWalk = false → Kp W (W.putObj l o'))
    (I : List α → World → Prop) (Ix : Code → List α → World → Prop) (hI : OwnFrom w.heap.size I) (hIx : ∀ c, OwnFrom w.heap.size (Ix c)) (h0 : I [] w) (q' : Tmp) (hq : q' = q)
    (hassign : ∀ (l : Nat) (x : α) (W : World) (K : Go.Act → World → Prop), K ⟨(a.tmps.setIfInBounds p (e x)).setIfInBounds q' (e x), []⟩ W → assign.wpIn (F.inRound l) (n - 1 - 1) P (Exit.then K (fun _ _ _ => False)) { tmps := a.tmps.setIfInBounds p (e x), defers := [] } W)
    (hbody : ∀ (l : Nat) (pre : List α) (x : α) (W : World), I pre W → pre.length < N → body.wpIn (F.inRound l) (n - 1 - 1) P (ownPostG w.heap.size Kp I Ix (pre ++ [x]) W) ⟨(a.tmps.setIfInBounds p (e x)).setIfInBounds q' (e x), []⟩ W)
    (hdone : ∀ (D : Nat) (xs : List α) (W : World), w.heap.size ≤ D → S xs → I xs W → W.heap[D]? = some (.deferred (some [])) → Q .normal { a with defers := { target := .collected D, args := #[] } :: a.defers } W)
    (hstop : ∀ (D : Nat) (c : Code) (pre : List α) (W : World), w.heap.size ≤ D → Sp pre → Ix c pre W → W.heap[D]? = some (.deferred (some [])) → c.wpIn F n P Q { a with defers := { target := .collected D, args := #[] } :: a.defers } W) :
    (Code.rangeFunc g #[p] assign body).wpIn F n P Q a w :=
  wpIn_rangeFunc_ownG hro h1 hg hFg eg hseq hKt hKb (Below.refl _ _) (fun _ => rfl) I Ix hI hIx h0 (fun x => ⟨(a.tmps.setIfInBounds p (e x)).setIfInBounds q' (e x), []⟩) (fun l x W K hK => by
    rw [show (#[p].zip #[e x]) = #[(p, e x)] by simp]
    have := hassign l x W K hK
    simpa only [List.foldl_toArray', List.foldl_toArray, List.foldl_cons, List.foldl_nil] using this) hbody hdone hstop
theorem leaves_marks {F : Fence} {n : Nat} {P : Program} {fn : Func} {tmps : Array Value} {R : Ending → World → Prop} (v : Value) (hres : ∀ w, (results fn tmps).run P w = .ok v w) (n0 : Nat) : ∀ (Ds : List Nat) (w : World), Ds.Nodup → (∀ D ∈ Ds, n0 ≤ D ∧ w.heap[D]? = some (.deferred (some []))) →
    (∀ w', Below n0 w w' → R (.returned v) w') → LeavesInM F n P fn tmps R (Ds.map fun D => { target := .collected D, args := #[] }) .returning w
  | [], w, _, _, h => ⟨v, hres w, h w (Below.refl _ _)⟩
  | D :: Ds, w, hn, hD, h => by
    have hn' := List.nodup_cons.1 hn
    refine ⟨by simp, .inl ⟨D, _, rfl, run_takeDeferred (hD D (by simp)).2, ?_⟩⟩
    have hB : Below n0 w (w.putObj D (.deferred none)) := (Below.refl n0 w).grown (grownBy_putObj' w D _) (by have := blk_lt (hD D (by simp)).2; have := (hD D (by simp)).1; omega) (fun k e => by cases e; exact (hD D (by simp)).1)
    refine leaves_marks v hres n0 Ds _ hn'.2 (fun E hE => ⟨(hD E (by simp [hE])).1, ?_⟩) (fun w' hb => h w' (hB.trans hb))
    have hne : D ≠ E := fun e => hn'.1 (e ▸ hE)
    exact (World.putObj_heap_other (by omega)).trans (hD E (by simp [hE])).2
end Go.Proofs.Ytgaginegcjpddaa
/- What the program's tree.Depth comes to: the walk. -/
namespace Go.Proofs.Ytgaginegcjpddaa
open Go.RowKit Go.Shelf
attribute [local go_sem] Oper.semAt_some
theorem madeInts (m : Nat) : madeCells (Value.int .i64 0).cells m = intsA (List.replicate m 0) := by
  apply Array.ext
  · simp [size_madeCells, intsA]
  · intro i h1 h2
    simp [madeCells, intsA, Value.cells, Nat.mod_one]
theorem mk_ints (m : Nat) (hm : m ≤ 1000000) (w : World) : (Instr.makeSlice 25 (.int .i64 (m : Int)) (.int .i64 (m : Int))).run Try.prog w = .ok (.slice (some ⟨w.heap.size, 0, none⟩) m m) (w.alloc (.cells (intsA (List.replicate m 0)) 3 (0, 0))) := by
  obtain ⟨i, z, h1, h2, h3, h4, h5⟩ := ty_int.info
  have hz : z = .int .i64 0 := by
    have h : (Try.prog.info? 3).map (fun i => i.zero) = some (some (Value.int .i64 0)) := by kernel_rfl
    rw [h1] at h
    simp only [Option.map_some, Option.some.injEq] at h
    rw [h2] at h
    simpa using h
  have := run_makeSlice (P := Try.prog) (w := w) 25 3 i z ty_int.und h1 h2 .i64 .i64 (m : Int) (m : Int) (by omega) (by omega) (by rw [h3]; simp; omega) (by rw [h4]; omega) (by omega)
  rw [h3, hz] at this
  simpa [madeInts] using this
def mark (D : Nat) : Deferred := { target := .collected D, args := #[] }
/-- the frame and the world, where Depth's loop goes round -/
def DepthI (n0 : Nat) (w : World) (l : List Form) (v tv : Value) (Bd : Nat) (a : Act) (W : World) : Prop :=
  ∃ j Bi Db Ds, a.tmps.size = 75 ∧ a.tmps.getD 0 undef = v ∧ a.tmps.getD 1 undef = tv ∧ a.tmps.getD 5 undef = .pointer (some ⟨Bd, 0, none⟩) ∧ a.tmps.getD 6 undef = .pointer (some ⟨Bi, 0, none⟩) ∧ a.defers = Ds.map mark ∧ j ≤ l.length ∧
    DepthW n0 w l.length Bd Bi Db Ds ((l.length : Int) - 1 - j) (deepS l j) W
def depthM (a : Act) (W : World) : Nat := match a.tmps.getD 6 undef with
  | .pointer (some A) => match W.cell? A with
    | some (.int _ i) => (i + 1).toNat
    | _ => 0
  | _ => 0
theorem depthM_eq {a : Act} {W : World} {b : Nat} {i : Int} (h6 : a.tmps.getD 6 undef = .pointer (some ⟨b, 0, none⟩)) (hb : W.heap[b]? = some (.cells #[.int .i64 i] 3 (0, 0))) : depthM a W = (i + 1).toNat := by
  unfold depthM
  rw [h6]
  simp only [blk_cell hb 0]
  rfl
set_option maxHeartbeats 4000000 in
set_option maxRecDepth 100000 in
theorem depth_any (l : List Form) (top : List Int) (v tv : Value) (w : World) (D : Nat → Prop) (h : Forms w D v l) (ht : Ints w D tv top) (hl : l.length ≤ 400) :
    Calls Try.prog 36 #[v, tv] w fun e w' => e = .returned (.int .i64 (depthS l top)) ∧ Below w.heap.size w w' := by
  obtain ⟨A, c, rfl, hle, hcap⟩ := h.slice
  obtain ⟨B, d, rfl, hle2, hcap2⟩ := ht.slice
  have hmk := mk_ints l.length (by omega)
  refine (callsIn_wide (n := 9)).1 ?_
  refine callsIn_of_wp_marks Try.func36 rfl trivial ?_ rfl
  simp only [Try.ntmps36, List.size_toArray, List.length_cons, List.length_nil, Nat.reduceAdd, Nat.reduceSub, Array.replicate_succ, Array.replicate_zero, List.push_toArray, List.append_toArray, List.nil_append, List.cons_append]
  have HM := hid hmk
  gi_wp2
  clear hmk
  refine wpIn_loop (DepthI w.heap.size w l (.slice A l.length c) (.slice B top.length d) (w.heap.size + 1)) depthM ?start ?round
  case start =>
    refine ⟨0, w.heap.size + 1 + 1, w.heap.size, [], rfl, rfl, rfl, rfl, rfl, rfl, Nat.zero_le _, ⟨?_, ?_, ?_, ?_, by simp, List.nodup_nil, by omega, by omega⟩⟩
    · exact old_blk (by have := new_blk (w.alloc (Obj.cells (intsA (List.replicate l.length 0)) 3 (0, 0))) (Obj.cells #[Value.slice (some ⟨w.heap.size, 0, none⟩) l.length l.length] 25 (0, 0)); simpa using this) _
    · have := new_blk ((w.alloc (Obj.cells (intsA (List.replicate l.length 0)) 3 (0, 0))).alloc (Obj.cells #[Value.slice (some ⟨w.heap.size, 0, none⟩) l.length l.length] 25 (0, 0))) (Obj.cells #[Value.int .i64 ((l.length : Int) - 1)] 3 (0, 0))
      simpa using this
    · exact old_blk (old_blk (new_blk _ _) _) _
    · exact (((Below.refl _ _).alloc (Nat.le_refl _) _).alloc (by simp) _).alloc (by simp; omega) _
  case round =>
    rintro ⟨tmps, defs⟩ wr ⟨j, Bi, Db, Ds, hsz, h0, h1, h5, h6, hds, hj, hW⟩
    obtain ⟨u, hu, ht⟩ := arr_u hsz
    simp only at hsz h0 h1 h5 h6 hds ht
    rw [hu] at h0 h1 h5 h6
    rw [show List.range 75 = [0, 1, 2, 3, 4, 5, 6, 7, 8, 9, 10, 11, 12, 13, 14, 15, 16, 17, 18, 19, 20, 21, 22, 23, 24, 25, 26, 27, 28, 29, 30, 31, 32, 33, 34, 35, 36, 37, 38, 39, 40, 41, 42, 43, 44, 45, 46, 47, 48, 49, 50, 51, 52, 53, 54, 55, 56, 57, 58, 59, 60, 61, 62, 63, 64, 65, 66, 67, 68, 69, 70, 71, 72, 73, 74] from rfl] at ht
    simp only [List.map_cons, List.map_nil, h0, h1, h5, h6] at ht
    subst ht; subst hds
    clear hsz hu h0 h1 h5 h6
    have hsz := hW.size
    by_cases hlt : j < l.length
    · obtain ⟨i, hi⟩ : ∃ i : Nat, i + 1 + j = l.length := ⟨l.length - 1 - j, by omega⟩
      have hiv : (l.length : Int) - 1 - (j : Int) = (i : Int) := by omega
      rw [hiv] at hW
      obtain ⟨fb, fo, fc, he, _, _, hfb, kv, hkv, hfc⟩ := h.at_ (n := i) (by omega)
      simp only [Value.slice.injEq] at he
      obtain ⟨rfl, h00, rfl⟩ := he
      have k1 := (hW.below.cell (p := ⟨fb, fo + i * 5, none⟩) hfb).trans (hfc 0 _ rfl)
      have k3 := hid ((hW.below.cell (p := ⟨fb, fo + i * 5 + 3, none⟩) hfb).trans (hfc 3 _ rfl))
      have c1 := blk_cell hW.bi 0
      have hil : (i : Int) < (l.length : Int) := by omega
      have hi0 : (0 : Int) ≤ (i : Int) := by omega
      have hstep : Hid (deepS l (j + 1) = if (nth l i).kind = 1 then (deepS l j).set i (min (maxK (deepS l j) (behind l.length (i : Int) (nth l i).kids) + 1) 13) else deepS l j) := by
        have e : l.length - 1 - j = i := by omega
        unfold Hid
        rw [deepS, e]
      clear h00 hiv hfc
      by_cases hk : (nth l i).kind = 1
      · have hkb : ((nth l i).kind != 1) = false := by simp [hk]
        have HW := hid hW
        have HK := hid hk
        have HI := hid hi
        clear hW hk hi
        gi_wp2_with (refine ⟨trivial, ?_⟩; gi_at_call 61; refine (callsIn_wide.2 (kids_any _ _ _ _ _)).mono ?_; rintro e w' ⟨rfl, rfl⟩)
        obtain ⟨W0, hW0⟩ : ∃ W0, ((wr.alloc (Obj.cells #[Value.slice (some ⟨fb, fo, none⟩) l.length c] 29)).alloc (Obj.cells #[Value.int .i64 (i : Int)] 3)) = W0 := ⟨_, rfl⟩
        have hz0 : W0.heap.size = wr.heap.size + 2 := by rw [← hW0]; simp
        have hA := (HW.out.alloc (Obj.cells #[Value.slice (some ⟨fb, fo, none⟩) l.length c] 29)).alloc (Obj.cells #[Value.int .i64 (i : Int)] 3)
        have hb1 : W0.cell? ⟨wr.heap.size, 0, none⟩ = some (.slice (some ⟨fb, fo, none⟩) l.length c) := by rw [← hW0]; exact blk_cell (old_blk (new_blk wr _) _) 0
        have hb2 : W0.cell? ⟨wr.heap.size + 1, 0, none⟩ = some (.int .i64 (i : Int)) := by
          rw [← hW0]
          have := new_blk (wr.alloc (Obj.cells #[Value.slice (some ⟨fb, fo, none⟩) l.length c] 29)) (Obj.cells #[Value.int .i64 (i : Int)] 3)
          rw [World.size_alloc] at this
          exact blk_cell this 0
        have hb3 : W0.cell? ⟨fb, fo + i * 5 + 3, none⟩ = some kv := by
          rw [← hW0]
          have := k3.out
          have hlt3 := World.block_lt_of_cell? wr _ this
          exact (World.cell?_of_block (a := ⟨fb, fo + i * 5 + 3, none⟩) ((Below.heap_alloc _ _ _ (by simp; omega)).trans (Below.heap_alloc _ _ _ hlt3))).trans this
        rw [hW0] at hA ⊢
        clear hW0
        obtain ⟨lt1, lt2, lt3, lt4⟩ := HW.out.lts
        have HA := hid hA
        clear hA
        have hZ : ∀ b, b < wr.heap.size + 2 ∧ b ≠ Db → b < W0.heap.size := fun b hb => by have := hb.1; omega
        have hfl : fb < wr.heap.size ∧ fb ≠ Db := ⟨by omega, by have := HW.out.lo.2.2; omega⟩
        have hki : Ints W0 (fun b => b < wr.heap.size + 2 ∧ b ≠ Db) kv (nth l i).kids := hkv.imp fun b _ hb => ⟨⟨by omega, by have := HW.out.lo.2.2; omega⟩, HA.out.below.block b hb⟩
        refine rf1 (α := Beh l.length i) (p := 30) rfl (by omega) (gf := 80) (lb := #[.pointer (some ⟨wr.heap.size, 0, none⟩), .pointer (some ⟨wr.heap.size + 1, 0, none⟩)]) rfl trivial (enters_of Try.func80 (by kernel_rfl) rfl)
          (kids_stops Fence.wide (9 - 1) trivial rfl (by omega) wr.heap.size (wr.heap.size + 1) (fun b => b < wr.heap.size + 2 ∧ b ≠ Db) l.length c i fb fo kv (nth l i).kids W0 hZ (by omega) (by omega) hb1 hb2 hb3 ⟨by omega, by omega⟩ ⟨by omega, by omega⟩ ⟨by omega, hfl.2⟩ hki)
          keepZ_t (keepZ_b hZ)
          (fun (pre : List (Beh l.length i)) W => DepthW w.heap.size w l.length (w.heap.size + 1) Bi Db Ds (i : Int) ((deepS l j).set i (maxK (deepS l j) (pre.map (·.1)))) W)
          (fun _ _ _ => False) (fun s A B row hs hg hr => DepthW.kept (iv := (i : Int)) (d := (deepS l j).set i (maxK (deepS l j) (s.map (·.1)))) hs hg (fun r e => by
            have := (hr r e).1
            exact ⟨by omega, by omega, by omega, by omega, fun hm => by have := lt4 r hm; omega⟩) hs.size)
          (fun _ _ _ _ _ hs _ _ => hs) ?h0 7 rfl ?assign ?body ?done ?stop
        case h0 =>
          show DepthW _ _ _ _ _ _ _ _ ((deepS l j).set i (maxK (deepS l j) [])) W0
          rw [show maxK (deepS l j) [] = 0 from rfl, set_self (deepS_low l j i (by have := HI.out; omega))]
          exact HA.out
        case assign =>
          intro l' x W K hK
          gi_wp2
          exact hK
        case body =>
          rintro l' pre ⟨x, hx1, hx2⟩ W hD hlen
          obtain ⟨xn, rfl⟩ : ∃ xn : Nat, x = xn := ⟨x.toNat, by omega⟩
          obtain ⟨y, hy⟩ : ∃ y, maxK (deepS l j) (pre.map (·.1)) = y := ⟨_, rfl⟩
          simp only [hy] at hD
          have HY := hid hy
          clear hy
          have hdl := deepS_len l j
          have q1 := blk_cell hD.bd 0
          have q2 := blk_cell hD.bi 0
          have q3 := (blk_cell hD.db i).trans (intsA_get (d := (deepS l j).set i y) (j := i) (by simp; omega))
          have q4 := (blk_cell hD.db xn).trans (intsA_get (d := (deepS l j).set i y) (j := xn) (by simp; omega))
          rw [nth_set (by omega), if_pos rfl] at q3
          rw [nth_set (by omega), if_neg (by omega)] at q4
          have f1 := blk_free hD.db
          obtain ⟨z, hz⟩ : ∃ z, nth (deepS l j) xn = z := ⟨_, rfl⟩
          rw [hz] at q4
          have HZ2 := hid hz
          have HD := hid hD
          clear hz hD hdl
          have hxi0 : (0 : Int) ≤ (xn : Int) := by omega
          gi_wp2
          (refine wpIn_still_tail 12 (by kernel_rfl) (by kernel_rfl) (by decide) ?_; simp only [List.take_succ_cons, List.take_zero, List.drop_succ_cons, List.drop_zero]; (repeat (first | (refine wpStill_skip (by rfl) ?_; simp only [Act.put, List.setIfInBounds_toArray, List.set_cons_succ, List.set_cons_zero]) | still_step | (refine wpStill_step (fun K hK => ?_); simp [go_sem, ↓IntWalk.iteOmega, *]; refine hK _ ?_; clear hK K))); refine wpStill_nil ?_)
          go_wp2
          all_goals refine (show ∀ (Q : Exit → Go.Act → World → Prop) a w, Q .normal a w → nOnly Q .normal a w from fun _ _ _ h => h) _ _ _ ?_
          gi_wp2
          refine ⟨((KeepsOthers.setCell _ _ _).trans (KeepsOthers.drew _)).from _, fun b hb => Below.heap_setCell _ _ _ _ hb.2, ?_⟩
          have h2 := (HD.out.set i (max y z)).drew
          rw [List.set_set] at h2
          show DepthW _ _ _ _ _ _ _ _ ((deepS l j).set i (maxK (deepS l j) ((pre ++ [(⟨(xn : Int), hx1, hx2⟩ : Beh l.length i)]).map (·.1)))) _
          rw [List.map_append, List.map_cons, List.map_nil, maxK_snoc, HY.out, Int.toNat_natCast, HZ2.out]
          exact h2
        case done =>
          intro D ys W hDl hys hD hDd
          have hD2 : DepthW w.heap.size w l.length (w.heap.size + 1) Bi Db (D :: Ds) (i : Int) ((deepS l j).set i (maxK (deepS l j) (behind l.length i (nth l i).kids))) W := by
            have := hD
            rw [hys] at this
            exact this.mark hDd (by omega) (fun hm => by have := lt4 D hm; omega)
          clear hD hys
          obtain ⟨y, hy⟩ : ∃ y, maxK (deepS l j) (behind l.length i (nth l i).kids) = y := ⟨_, rfl⟩
          rw [hy] at hstep hD2
          have hy0 : 0 ≤ y ∧ y ≤ 13 := by rw [← hy]; exact maxK_bd _ (deepS_bd l j) _
          clear hy
          have hdl := deepS_len l j
          have q1 := blk_cell hD2.bd 0
          have q2 := blk_cell hD2.bi 0
          have q3 := (blk_cell hD2.db i).trans (intsA_get (d := (deepS l j).set i y) (j := i) (by simp; omega))
          rw [nth_set (by omega), if_pos rfl] at q3
          have f1 := blk_free hD2.db
          have HD := hid hD2
          have hWs := hD2.size
          obtain ⟨hy1, hy2⟩ := hy0
          have hDd2 := hid hDd
          clear hD2 hdl hDd
          gi_wp2
          refine wpIn_wide.2 ?_
          (refine wp_still_tail 9 (by kernel_rfl) (by kernel_rfl) ?_; simp only [List.take_succ_cons, List.take_zero, List.drop_succ_cons, List.drop_zero]; (repeat (first | (refine wpStill_skip (by rfl) ?_; simp only [Act.put, List.setIfInBounds_toArray, List.set_cons_succ, List.set_cons_zero]) | still_step | (refine wpStill_step (fun K hK => ?_); simp [go_sem, ↓IntWalk.iteOmega, *]; refine hK _ ?_; clear hK K))); refine wpStill_nil ?_)
          go_wp2
          have h3 := (HD.out.set i (min (y + 1) 13)).drew
          rw [List.set_set] at h3
          clear q1 q2 q3 f1 hWs
          obtain ⟨W3, hW3⟩ : ∃ W3, (W.setCell ⟨Db, i, none⟩ (.int .i64 (min (y + 1) 13))).drew = W3 := ⟨_, rfl⟩
          rw [hW3] at h3 ⊢
          clear hW3
          have q2 := blk_cell h3.bi 0
          have hs3 := h3.size
          have H3 := hid h3
          clear h3
          gi_wp2
          refine ⟨⟨j + 1, W3.heap.size, Db, D :: Ds, rfl, rfl, rfl, rfl, rfl, rfl, by have := HI.out; omega, ?_⟩, ?_⟩
          · rw [hstep.out, if_pos HK.out, show (l.length : Int) - 1 - ((j + 1 : Nat) : Int) = (i : Int) - 1 by have := HI.out; omega]
            exact H3.out.next1 _ hs3
          · rw [depthM_eq rfl (new_blk W3 _), depthM_eq rfl HW.out.bi]; omega
        case stop =>
          rintro D c pre W _ _ h _
          exact h.elim
      · have hkb : ((nth l i).kind != 1) = true := by rw [bne_iff_ne]; exact hk
        have HW := hid hW
        have HK := hid hk
        have HI := hid hi
        clear hW hk hi
        gi_wp2
        refine ⟨⟨j + 1, wr.heap.size, Db, Ds, rfl, rfl, rfl, rfl, rfl, rfl, by have := HI.out; omega, ?_⟩, ?_⟩
        · rw [hstep.out, if_neg HK.out, show (l.length : Int) - 1 - ((j + 1 : Nat) : Int) = (i : Int) - 1 by have := HI.out; omega]
          exact HW.out.next1 _ hsz
        · rw [depthM_eq rfl (new_blk wr _), depthM_eq rfl HW.out.bi]; omega
    · have hj' : j = l.length := by omega
      subst hj'
      rw [show (l.length : Int) - 1 - ((l.length : Nat) : Int) = -1 by omega] at hW
      have c1 := blk_cell hW.bi 0
      have c2 := blk_cell hW.bd 0
      have c3 := hid (fun k (h : k < l.length) => (blk_cell hW.db k).trans (intsA_get (d := deepS l l.length) (j := k) (by rw [deepS_len]; exact h)))
      have HW := hid hW
      clear hW hlt hj
      gi_wp2
      gi_loopw [8, 55] (fun s8 s55 W => W = wr ∧ ∃ k : Nat, s55 = .int .i64 (k : Int) ∧ k ≤ top.length ∧ s8 = .int .i64 (mostS (deepS l l.length) (top.take k))) (fun s8 s55 W => top.length - cnt s55)
      case atStart => exact ⟨rfl, 0, rfl, Nat.zero_le _, rfl⟩
      case round =>
        obtain ⟨rfl, k, rfl, hk, rfl⟩ := hrel
        by_cases hlt : k < top.length
        · obtain ⟨b, off, c2', he, _, _, _, hb, hcell⟩ := ht.at_ k hlt
          simp only [Value.slice.injEq] at he
          obtain ⟨rfl, h00, rfl⟩ := he
          clear h00
          have hc := (HW.out.below.cell (p := ⟨b, off + k, none⟩) hb).trans hcell
          have hT := hid (take_succ_nth hlt)
          obtain ⟨x, hx⟩ : ∃ x, nth top k = x := ⟨_, rfl⟩
          rw [hx] at hc hT
          clear hcell hx
          have hstep : Hid (mostS (deepS l l.length) (top.take (k + 1)) = if 0 ≤ x ∧ x < (l.length : Int) then max (mostS (deepS l l.length) (top.take k)) (nth (deepS l l.length) x.toNat) else mostS (deepS l l.length) (top.take k)) := by
            have hT' := hT.out
            unfold Hid mostS
            rw [hT', List.foldl_append, deepS_len]
            rfl
          obtain ⟨y, hy⟩ : ∃ y, mostS (deepS l l.length) (top.take k) = y := ⟨_, rfl⟩
          rw [hy] at hstep ⊢
          clear hy
          by_cases h0 : 0 ≤ x
          · by_cases h1 : x < (l.length : Int)
            · obtain ⟨xn, rfl⟩ : ∃ xn : Nat, x = xn := ⟨x.toNat, by omega⟩
              have c4 := c3.out xn (by omega)
              obtain ⟨z, hz⟩ : ∃ z, nth (deepS l l.length) xn = z := ⟨_, rfl⟩
              rw [hz] at c4
              have HZ := hid hz
              clear hz
              gi_wp2
              all_goals
                go_roundw
                case rel =>
                  refine ⟨trivial, k + 1, by simp, by omega, ?_⟩
                  rw [hstep.out, if_pos ⟨h0, h1⟩, Int.toNat_natCast, HZ.out]
                  try (simp only [Value.int.injEq, true_and]; omega)
                case measure => simp only [cnt]; omega
            · gi_wp2
              go_roundw
              case rel =>
                refine ⟨trivial, k + 1, by simp, by omega, ?_⟩
                rw [hstep.out, if_neg (fun e => h1 e.2)]
              case measure => simp only [cnt]; omega
          · gi_wp2
            go_roundw
            case rel =>
              refine ⟨trivial, k + 1, by simp, by omega, ?_⟩
              rw [hstep.out, if_neg (fun e => h0 e.1)]
            case measure => simp only [cnt]; omega
        · have hk' : k = top.length := by omega
          subst hk'
          rw [List.take_length]
          gi_wp2
          exact leaves_marks _ (fun w => results_tmp rfl _ _ _) w.heap.size Ds wr HW.out.nodup HW.out.marks (fun w' hb => ⟨rfl, HW.out.below.trans hb⟩)
end Go.Proofs.Ytgaginegcjpddaa
/- What the program's tree.Right comes to. -/
namespace Go.Proofs.Ytgaginegcjpddaa
open Go.RowKit
def walkedS (l : List Form) (top : List Int) : Int × Bool := walkS l (l.length + 1) top 0
def rightS (l : List Form) (top : List Int) : Bool :=
  decide (l.length ≤ 400) && l.all aloneS && ((walkedS l top).2 && decide ((walkedS l top).1 = l.length) && decide (depthS l top ≤ 12))
theorem Forms.below {w w' : World} {D : Nat → Prop} {v : Value} {l : List Form} (h : Forms w D v l) (hb : Below w.heap.size w w') : Forms w' D v l :=
  Row.imp h (fun a cs _ hr => by
    obtain ⟨kv, rfl, hk⟩ := hr
    exact ⟨kv, rfl, hk.imp fun b hD hlt => ⟨hD, hb.block b hlt⟩⟩) (fun b hD hlt => ⟨hD, hb.block b hlt⟩) (by omega) (fun _ _ h => h.len)
theorem all_take {α : Type} [Inhabited α] {p : α → Bool} {l : List α} {k : Nat} (hk : k < l.length) : (l.take (k + 1)).all p = ((l.take k).all p && p (nth l k)) := by
  rw [take_succ_nth hk]; simp
theorem all_false {α : Type} [Inhabited α] {p : α → Bool} {l : List α} {k : Nat} (hk : k < l.length) (h : p (nth l k) = false) : l.all p = false := by
  rw [List.all_eq_false]
  exact ⟨_, nth_mem hk, by simp [h]⟩
set_option maxHeartbeats 2000000 in
set_option maxRecDepth 100000 in
theorem right_any (l : List Form) (top : List Int) (v tv : Value) (w : World) (D : Nat → Prop) (h : Forms w D v l) (ht : Ints w D tv top) (hts : ∀ f ∈ l, f.text.size ≤ 9223372036854775807) :
    Calls Try.prog 16 #[v, tv] w fun e w' => e = .returned (.bool (rightS l top)) ∧ Below w.heap.size w w' := by
  obtain ⟨A, c, rfl, hle, hcap⟩ := h.slice
  obtain ⟨B, d, rfl, hle2, hcap2⟩ := ht.slice
  by_cases h4 : l.length ≤ 400
  · have h4i : ¬ ((400 : Int) < (l.length : Int)) := by omega
    go_enter Try.func16, Try.ntmps16
    go_wp2
    go_loopw [6, 14] (fun s6 s14 wr => ∃ k : Nat, s14 = .int .i64 (k : Int) ∧ k ≤ l.length ∧ Hid ((l.take k).all aloneS = true) ∧ Below w.heap.size w wr) (fun s6 s14 wr => l.length - cnt s14)
    case atStart => exact ⟨0, rfl, Nat.zero_le _, hid rfl, Below.refl _ _⟩
    case round =>
      obtain ⟨k, rfl, hk, hR, hB⟩ := hrel
      have hws := hB.size
      by_cases hlt : k < l.length
      · obtain ⟨fb, fo, fc, he, _, _, hfb, kv, hkv, hfc⟩ := h.at_ (n := k) hlt
        simp only [Value.slice.injEq] at he
        obtain ⟨rfl, h00, rfl⟩ := he
        obtain ⟨KA, kc, rfl, hkl, hkc⟩ := hkv.slice
        have hcell : ∀ j u, ((nth l k).cells (.slice KA (nth l k).kids.length kc))[j]? = some u → wr.cell? ⟨fb, fo + k * 5 + j, none⟩ = some u := fun j u hj => (hB.cell (p := ⟨fb, fo + k * 5 + j, none⟩) hfb).trans (hfc j u hj)
        have c0 := hcell 0 _ rfl; have c1 := hcell 1 _ rfl; have c2 := hcell 2 _ rfl; have c3 := hcell 3 _ rfl; have c4 := hcell 4 _ rfl
        rw [Nat.add_zero] at c0
        have hT := hid (all_take (p := aloneS) hlt)
        have hF := hid (all_false (p := aloneS) hlt)
        have htx := hid (hts _ (nth_mem hlt))
        obtain ⟨T, hTe⟩ : ∃ T, nth l k = T := ⟨_, rfl⟩
        rw [hTe] at c0 c1 c2 c3 c4 hT hF htx hkl
        have HC := hid (show T.kids.length ≤ 9223372036854775807 by omega)
        clear h00 hfc hcell hkv hTe hkl
        by_cases ha : aloneS T = true
        · have HA := hid ha
          clear ha
          go_wp2_with (go_at_call 34; refine (alone_any T KA kc _ HC.out htx.out).mono ?_; rintro e w' ⟨rfl, hb⟩; rw [HA.out])
          go_roundw
          case rel => exact ⟨k + 1, by simp, by omega, hid (by rw [hT.out, hR.out, HA.out]; rfl), (hB.alloc (by omega) _).trans (hb.mono (by simp; omega))⟩
          case measure => simp only [cnt]; omega
        · have ha' : aloneS T = false := by simpa using ha
          have HA := hid ha'
          clear ha ha'
          go_wp2_with (go_at_call 34; refine (alone_any T KA kc _ HC.out htx.out).mono ?_; rintro e w' ⟨rfl, hb⟩; rw [HA.out])
          go_ret
          refine ⟨ret_bool ?_, (hB.alloc (by omega) _).trans (hb.mono (by simp; omega))⟩
          rw [rightS, hF.out HA.out]; simp
      · have hk' : k = l.length := by omega
        subst hk'
        rw [List.take_length] at hR
        have h2 := h.below (hB.mono (Nat.le_refl _))
        have ht2 : Ints wr D (.slice B top.length d) top := ht.imp fun b hD hlt => ⟨hD, hB.block b hlt⟩
        obtain ⟨nx, ok, hn⟩ : ∃ nx ok, walkedS l top = (nx, ok) := ⟨_, _, rfl⟩
        have hn' := hn
        unfold walkedS at hn'
        have HN := hid hn'
        have HR : Hid (rightS l top = (ok && decide (nx = l.length) && decide (depthS l top ≤ 12))) := by
          unfold Hid
          rw [rightS, hn, hR.out, decide_eq_true h4]; rfl
        clear hn hn'
        have H2 := hid h2; have HT2 := hid ht2
        clear h2 ht2
        cases ok with
        | false =>
          go_wp2_with (go_at_call 35; refine (walk_any l _ wr D H2.out (by omega) (l.length + 1) top _ 0 HT2.out (by omega) (by omega) (by omega) (by omega)).mono ?_; rintro e w' ⟨rfl, rfl⟩; rw [HN.out])
          go_ret
          exact ⟨ret_bool (by rw [HR.out]; simp), hB⟩
        | true =>
          by_cases hx : nx = l.length
          · have hxb : (nx == (l.length : Int)) = true := by simpa using hx
            have HX := hid hx
            clear hx
            by_cases hd : depthS l top ≤ 12
            · have HD := hid hd
              go_wp2_with (first | (go_at_call 35; refine (walk_any l _ wr D H2.out (by omega) (l.length + 1) top _ 0 HT2.out (by omega) (by omega) (by omega) (by omega)).mono ?_; rintro e w' ⟨rfl, rfl⟩; rw [HN.out]) | (go_at_call 36; refine (depth_any l top _ _ _ D H2.out HT2.out h4).mono ?_; rintro e w' ⟨rfl, hb⟩))
              go_ret
              exact ⟨ret_bool (by rw [HR.out]; simp [HX.out, HD.out]), hB.trans (hb.mono hws)⟩
            · have HD := hid hd
              have hd' : ¬ (depthS l top ≤ 12) := hd
              go_wp2_with (first | (go_at_call 35; refine (walk_any l _ wr D H2.out (by omega) (l.length + 1) top _ 0 HT2.out (by omega) (by omega) (by omega) (by omega)).mono ?_; rintro e w' ⟨rfl, rfl⟩; rw [HN.out]) | (go_at_call 36; refine (depth_any l top _ _ _ D H2.out HT2.out h4).mono ?_; rintro e w' ⟨rfl, hb⟩))
              go_ret
              exact ⟨ret_bool (by rw [HR.out]; simp [HX.out, HD.out]), hB.trans (hb.mono hws)⟩
          · have hxb : (nx == (l.length : Int)) = false := by simpa using hx
            have HX := hid hx
            clear hx
            go_wp2_with (go_at_call 35; refine (walk_any l _ wr D H2.out (by omega) (l.length + 1) top _ 0 HT2.out (by omega) (by omega) (by omega) (by omega)).mono ?_; rintro e w' ⟨rfl, rfl⟩; rw [HN.out])
            go_ret
            exact ⟨ret_bool (by rw [HR.out]; simp [HX.out]), hB⟩
  · have h4i : (400 : Int) < (l.length : Int) := by omega
    have hr : Hid (rightS l top = false) := by unfold Hid rightS; rw [decide_eq_false h4]; rfl
    go_enter Try.func16, Try.ntmps16
    go_wp2
    go_ret
    exact ⟨ret_bool hr.out.symm, Below.refl _ _⟩
end Go.Proofs.Ytgaginegcjpddaa
/- Small functions of prog and num. -/
namespace Go.Proofs.Ytgaginegcjpddaa
open Go.RowKit
def sideS (b : Bool) : ByteArray := if b then ⟨#[105, 110]⟩ else ⟨#[111, 117, 116]⟩
theorem side_any (b : Bool) (w : World) : Calls Try.prog 78 #[.bool b] w fun e w' => e = .returned (.string (sideS b)) ∧ w' = w := by
  cases b
  · go_enter Try.func78, Try.ntmps78
    go_wp2
    go_ret
    exact ⟨rfl, rfl⟩
  · go_enter Try.func78, Try.ntmps78
    go_wp2
    go_ret
    exact ⟨rfl, rfl⟩
/-- what the writer gives up with -/
def stopped : List PanicEntry := [{ v := .iface 81 (.agg #[]), recovered := false }]
theorem below_any (n limit : Int) (w : World) : Calls Try.prog 31 #[.int .i64 n, .int .i64 limit] w fun e w' => (if n < 0 ∨ limit ≤ n then e = .panicked stopped else e = .returned (.tuple #[])) ∧ w' = w := by
  by_cases h0 : n < 0
  · go_enter Try.func31, Try.ntmps31
    go_wp2
    exact ⟨rfl, rfl, rfl⟩
  · by_cases h1 : limit ≤ n
    · go_enter Try.func31, Try.ntmps31
      go_wp2
      exact ⟨rfl, rfl, rfl⟩
    · go_enter Try.func31, Try.ntmps31
      go_wp2
      go_end0
      exact ⟨rfl, rfl⟩
def arityS (o : Int) : Int := if o = 0 ∨ 19 < o then 0 else if o = 15 then 1 else if o = 18 then 3 else 2
theorem arity_any (o : Int) (w : World) : Calls Try.prog 84 #[.int .u8 o] w fun e w' => e = .returned (.int .i64 (arityS o)) ∧ w' = w := by
  go_enter Try.func84, Try.ntmps84
  go_wp2
  all_goals (go_ret; refine ⟨ret_int ?_, rfl⟩; simp_all [arityS])
def reducesS (o : Int) : Int × Bool := if o = 1 ∨ o = 17 then (0, true) else if o = 16 then (1, true) else if o = 6 then (9223372036854775807, true) else if o = 7 then (-9223372036854775808, true) else (0, false)
theorem ret_two {k : IntKind} {a b : Int} {c d : Bool} (h : (a, c) = (b, d)) : Ending.returned (.tuple #[.int k a, .bool c]) = .returned (.tuple #[.int k b, .bool d]) := by cases h; rfl
set_option maxRecDepth 100000 in
theorem reduces_any (o : Int) (w : World) : Calls Try.prog 85 #[.int .u8 o] w fun e w' => e = .returned (.tuple #[.int .i64 (reducesS o).1, .bool (reducesS o).2]) ∧ w' = w := by
  go_enter Try.func85, Try.ntmps85
  go_wp2
  all_goals (go_ret2; refine ⟨ret_two ?_, rfl⟩; simp_all [reducesS])
def namedS (s : ByteArray) : Bool := wordKind s == 3 && decide (97 ≤ (nth s.data.toList 0).toNat ∧ (nth s.data.toList 0).toNat ≤ 122)
theorem word_pos {s : ByteArray} (h : wordKind s = 3) : 0 < s.size := by
  rcases Nat.eq_zero_or_pos s.size with h0 | h0
  · exfalso
    have hs : s = ⟨#[]⟩ := by
      cases s with | mk d =>
      have : d.size = 0 := h0
      rw [Array.eq_empty_of_size_eq_zero this]
    subst hs
    have h1 : isSign ⟨#[]⟩ = false := by simp [isSign, ByteArray.toList_eq]
    have h2 : lexName ⟨#[]⟩ = false := by unfold lexName; rw [decide_eq_false (fun e => e.1 rfl)]; exact Bool.and_false _
    unfold wordKind at h
    rw [h1, h2] at h
    split at h <;> simp at h
  · exact h0
set_option maxHeartbeats 800000 in
set_option maxRecDepth 100000 in
theorem progNamed_any (s : ByteArray) (w : World) (hs : s.size ≤ 9223372036854775807) : Calls Try.prog 68 #[.string s] w fun e w' => e = .returned (.bool (namedS s)) ∧ Below w.heap.size w w' := by
  by_cases hk : wordKind s = 3
  · have h0 := word_pos hk
    have hk' : (wordKind s == 3) = true := by simpa using hk
    have hg := get_nth s 0 h0
    have HG := hid hg
    have HS := hid hs
    clear hk hg hs
    go_enter Try.func68, Try.ntmps68
    go_wp2_with (go_at_call 60; refine (wordKind_any s _ HS.out).mono ?_; rintro e w' ⟨rfl, hb⟩)
    all_goals (go_ret; refine ⟨ret_bool ?_, hb⟩; unfold namedS; rw [hk', ← HG.out, Bool.true_and, Bool.eq_iff_iff]; simp; try omega)
  · have hk' : (wordKind s == 3) = false := by simpa using hk
    have HS := hid hs
    clear hk hs
    go_enter Try.func68, Try.ntmps68
    go_wp2_with (go_at_call 60; refine (wordKind_any s _ HS.out).mono ?_; rintro e w' ⟨rfl, hb⟩)
    go_ret
    exact ⟨ret_bool (by simp [namedS, hk']), hb⟩
end Go.Proofs.Ytgaginegcjpddaa
/- Operations' words. -/
namespace Go.Proofs.Ytgaginegcjpddaa
open Go.RowKit
/-- the operations' words, by their numbers -/
def opWords : List ByteArray := [⟨#[]⟩, ⟨#[43]⟩, ⟨#[45]⟩, ⟨#[42]⟩, ⟨#[47]⟩, ⟨#[37]⟩, ⟨#[109, 105, 110]⟩, ⟨#[109, 97, 120]⟩, ⟨#[115, 104, 108]⟩, ⟨#[115, 104, 114]⟩, ⟨#[38]⟩, ⟨#[124]⟩, ⟨#[94]⟩, ⟨#[61]⟩, ⟨#[60]⟩, ⟨#[110, 111, 116]⟩, ⟨#[97, 110, 100]⟩, ⟨#[111, 114]⟩, ⟨#[105, 102]⟩, ⟨#[110, 97, 114, 114, 111, 119]⟩]
def wordsV : Value := .agg #[.string ⟨#[]⟩, .string ⟨#[43]⟩, .string ⟨#[45]⟩, .string ⟨#[42]⟩, .string ⟨#[47]⟩, .string ⟨#[37]⟩, .string ⟨#[109, 105, 110]⟩, .string ⟨#[109, 97, 120]⟩, .string ⟨#[115, 104, 108]⟩, .string ⟨#[115, 104, 114]⟩, .string ⟨#[38]⟩, .string ⟨#[124]⟩, .string ⟨#[94]⟩, .string ⟨#[61]⟩, .string ⟨#[60]⟩, .string ⟨#[110, 111, 116]⟩, .string ⟨#[97, 110, 100]⟩, .string ⟨#[111, 114]⟩, .string ⟨#[105, 102]⟩, .string ⟨#[110, 97, 114, 114, 111, 119]⟩]
instance : Inhabited ByteArray := ⟨⟨#[]⟩⟩
def opWordS (o : Int) : ByteArray := if 19 < o then ⟨#[]⟩ else nth opWords o.toNat
def wordsA : Array Value := wordsV.cells
theorem wpList_built {P : Program} {Q : Exit → Act → World → Prop} {ops : Array Oper} {rest : List Oper} {o : Oper} {a : Act} {w : World} (hg : o.guard = none) (t : TypeId) (parts : Array (Nat × Operand)) (ho : o.op = .build t parts) (c : Array Value)
    (hf : P.built t (parts.map fun (i, x) => (i, a.eval x)).toList = some c) (h : wpList P ops Q rest (a.put o.dst (.agg c)) w) : wpList P ops Q (o :: rest) a w :=
  wpList_build hg t parts ho (by rw [hf]; rfl) (by rw [hf]; exact h)
theorem results_cell {fn : Func} {t : Tmp} {ty : TypeId} (h : fn.results = #[.cell t ty]) (tmps : Array Value) (P : Program) (w : World) (v : Value) (a : Addr) (hp : tmps.getD t undef = .pointer (some a)) (hl : (loadVar ty a).run P w = .ok v w) : (results fn tmps).run P w = .ok v w := by
  simp only [Array.getD_eq_getD_getElem?] at hp
  simp [results, h, hp, asAddr, hl]
set_option maxHeartbeats 1600000 in
set_option maxRecDepth 100000 in
theorem words_any (w : World) : Calls Try.prog 33 #[] w fun e w' => e = .returned wordsV ∧ Below w.heap.size w w' := by
  go_enter Try.func33, Try.ntmps33
  go_upto_region 1 with fail
  refine wp_region_lit ?_
  refine wpList_built rfl 89 _ rfl wordsA (by kernel_rfl) ?_
  refine wpList_store_row rfl 89 (.tmp 0) (.tmp 1) rfl w.heap.size wordsA rfl rfl 89 _ (new_blk w _) (by kernel_rfl) rfl (by kernel_rfl) ?_
  refine wpList_nil ?_
  have hb := setRow_heap (w.alloc _) w.heap.size _ wordsA 89 (0, 0) (new_blk w (.cells #[.string ⟨#[]⟩, .string ⟨#[]⟩, .string ⟨#[]⟩, .string ⟨#[]⟩, .string ⟨#[]⟩, .string ⟨#[]⟩, .string ⟨#[]⟩, .string ⟨#[]⟩, .string ⟨#[]⟩, .string ⟨#[]⟩, .string ⟨#[]⟩, .string ⟨#[]⟩, .string ⟨#[]⟩, .string ⟨#[]⟩, .string ⟨#[]⟩, .string ⟨#[]⟩, .string ⟨#[]⟩, .string ⟨#[]⟩, .string ⟨#[]⟩, .string ⟨#[]⟩] 89 (0, 0)))
  have hB : Below w.heap.size w ((w.alloc (.cells #[.string ⟨#[]⟩, .string ⟨#[]⟩, .string ⟨#[]⟩, .string ⟨#[]⟩, .string ⟨#[]⟩, .string ⟨#[]⟩, .string ⟨#[]⟩, .string ⟨#[]⟩, .string ⟨#[]⟩, .string ⟨#[]⟩, .string ⟨#[]⟩, .string ⟨#[]⟩, .string ⟨#[]⟩, .string ⟨#[]⟩, .string ⟨#[]⟩, .string ⟨#[]⟩, .string ⟨#[]⟩, .string ⟨#[]⟩, .string ⟨#[]⟩, .string ⟨#[]⟩] 89 (0, 0))).setRow w.heap.size wordsA) :=
    ⟨rfl, rfl, rfl, by simp, fun k hk => (setRow_other _ _ _ _ (by omega)).trans (Below.heap_alloc w _ k hk)⟩
  generalize (w.alloc (.cells #[.string ⟨#[]⟩, .string ⟨#[]⟩, .string ⟨#[]⟩, .string ⟨#[]⟩, .string ⟨#[]⟩, .string ⟨#[]⟩, .string ⟨#[]⟩, .string ⟨#[]⟩, .string ⟨#[]⟩, .string ⟨#[]⟩, .string ⟨#[]⟩, .string ⟨#[]⟩, .string ⟨#[]⟩, .string ⟨#[]⟩, .string ⟨#[]⟩, .string ⟨#[]⟩, .string ⟨#[]⟩, .string ⟨#[]⟩, .string ⟨#[]⟩, .string ⟨#[]⟩] 89 (0, 0))).setRow w.heap.size wordsA = W at hb hB ⊢
  simp only [Act.put]
  go_wp2
  refine bodyPost_ret (results_cell rfl _ _ _ (.agg wordsA) ⟨w.heap.size, 0, none⟩ rfl (run_loadVar_row W w.heap.size 89 89 wordsA (0, 0) _ hb Try.underlying89 rfl (by kernel_rfl))) rfl ?_
  exact ⟨rfl, hB⟩
set_option maxHeartbeats 1600000 in
set_option maxRecDepth 100000 in
theorem opWord_any (o : Int) (w : World) (h0 : 0 ≤ o) : Calls Try.prog 15 #[.int .u8 o] w fun e w' => e = .returned (.string (opWordS o)) ∧ Below w.heap.size w w' := by
  by_cases h19 : 19 < o
  · go_enter Try.func15, Try.ntmps15
    go_wp2
    go_ret
    exact ⟨by rw [opWordS, if_pos h19]; rfl, Below.refl _ _⟩
  · obtain ⟨k, rfl⟩ : ∃ k : Nat, o = k := ⟨o.toNat, by omega⟩
    have hk : k < 20 := by omega
    have hix : ∀ W, (Instr.index 89 wordsV (.int .u8 (k : Int))).run Try.prog W = .ok (.string (nth opWords k)) W := by
      intro W
      have : k = 0 ∨ k = 1 ∨ k = 2 ∨ k = 3 ∨ k = 4 ∨ k = 5 ∨ k = 6 ∨ k = 7 ∨ k = 8 ∨ k = 9 ∨ k = 10 ∨ k = 11 ∨ k = 12 ∨ k = 13 ∨ k = 14 ∨ k = 15 ∨ k = 16 ∨ k = 17 ∨ k = 18 ∨ k = 19 := by omega
      rcases this with rfl | rfl | rfl | rfl | rfl | rfl | rfl | rfl | rfl | rfl | rfl | rfl | rfl | rfl | rfl | rfl | rfl | rfl | rfl | rfl <;> rfl
    clear hk
    go_enter Try.func15, Try.ntmps15
    go_wp2_with (go_at_call 33; refine (words_any _).mono ?_; rintro e w' ⟨rfl, hb⟩)
    go_ret
    exact ⟨by rw [opWordS, if_neg (by omega), Int.toNat_natCast]; rfl, hb⟩
end Go.Proofs.Ytgaginegcjpddaa
/- The operation of a word. -/
namespace Go.Proofs.Ytgaginegcjpddaa
open Go.RowKit
def readGo : Nat → Nat → ByteArray → Int × Bool
  | 0, _, _ => (0, false)
  | f + 1, k, s => if nth opWords k = s then ((k : Int), true) else readGo f (k + 1) s
def readOpS (s : ByteArray) : Int × Bool := readGo 19 1 s
end Go.Proofs.Ytgaginegcjpddaa
/- Expressions in memory; prog.truth. -/
namespace Go.Proofs.Ytgaginegcjpddaa
open Go.RowKit
/-- an expression -/
structure Expr where
  kind : Int
  of_ : Int
  op : Int
  name : ByteArray
  num : Int
  kids : List Int
deriving Inhabited
def Expr.cells (x : Expr) (kv : Value) : List Value := [.int .u8 x.kind, .int .u8 x.of_, .int .u8 x.op, .string x.name, .int .i64 x.num, kv]
def truthS (s : ByteArray) : Expr × Bool := if s = ⟨#[116, 114, 117, 101]⟩ then ({ kind := 1, of_ := 2, op := 0, name := ⟨#[]⟩, num := 1, kids := [] }, true) else ({ kind := 1, of_ := 2, op := 0, name := ⟨#[]⟩, num := 0, kids := [] }, s = ⟨#[102, 97, 108, 115, 101]⟩)
set_option maxHeartbeats 800000 in
set_option maxRecDepth 100000 in
theorem truth_any (s : ByteArray) (w : World) : Calls Try.prog 82 #[.string s] w fun e w' => e = .returned (.tuple #[.agg ((truthS s).1.cells (.slice none 0 0)).toArray, .bool (truthS s).2]) ∧ Below w.heap.size w w' := by
  have h1 := str_eq s ⟨#[116, 114, 117, 101]⟩
  have h2 := str_eq s ⟨#[102, 97, 108, 115, 101]⟩
  by_cases he : s = ⟨#[116, 114, 117, 101]⟩
  · subst he
    clear h1 h2
    go_enter Try.func82, Try.ntmps82
    go_wp2
    refine bodyPost_ret (v := .tuple #[.agg #[.int .u8 1, .int .u8 2, .int .u8 0, .string ⟨#[]⟩, .int .i64 1, .slice none 0 0], .bool true]) (by simp [results, Try.results82, go_sem]) rfl ⟨rfl, ?_⟩
    exact ((Below.refl _ _).alloc (Nat.le_refl _) _).alloc (by simp) _
  · have hb1 : (s.toList == [116, 114, 117, 101]) = false := by rw [show ([116, 114, 117, 101] : List UInt8) = (⟨#[116, 114, 117, 101]⟩ : ByteArray).toList by rw [ByteArray.toList_eq], h1]; simpa using he
    by_cases hf : s = ⟨#[102, 97, 108, 115, 101]⟩
    · subst hf
      clear h1 h2 he hb1
      go_enter Try.func82, Try.ntmps82
      go_wp2
      refine bodyPost_ret (v := .tuple #[.agg #[.int .u8 1, .int .u8 2, .int .u8 0, .string ⟨#[]⟩, .int .i64 0, .slice none 0 0], .bool true]) (by simp [results, Try.results82, go_sem]) rfl ⟨rfl, ?_⟩
      exact ((Below.refl _ _).alloc (Nat.le_refl _) _).alloc (by simp) _
    · have hb2 : (s.toList == [102, 97, 108, 115, 101]) = false := by rw [show ([102, 97, 108, 115, 101] : List UInt8) = (⟨#[102, 97, 108, 115, 101]⟩ : ByteArray).toList by rw [ByteArray.toList_eq], h2]; simpa using hf
      have ht : truthS s = ({ kind := 1, of_ := 2, op := 0, name := ⟨#[]⟩, num := 0, kids := [] }, false) := by unfold truthS; rw [if_neg he]; simp [hf]
      have HT := hid ht
      clear h1 h2 he hf ht
      go_enter Try.func82, Try.ntmps82
      go_wp2
      rw [HT.out]
      refine bodyPost_ret (v := .tuple #[.agg #[.int .u8 1, .int .u8 2, .int .u8 0, .string ⟨#[]⟩, .int .i64 0, .slice none 0 0], .bool false]) (by simp [results, Try.results82, go_sem]) rfl ⟨rfl, ?_⟩
      exact ((Below.refl _ _).alloc (Nat.le_refl _) _).alloc (by simp) _
end Go.Proofs.Ytgaginegcjpddaa
/- What the program's reader of forms comes to: plain Lean, no program in sight. -/
namespace Go.Proofs.Ytgaginegcjpddaa
/-- where, and why -/
abbrev Wr := Int × Int
structure PDecl where
  name : ByteArray
  side : Int
  kind : Int
deriving Inhabited
structure PAct where
  kind : Int
  name : ByteArray
  op : Int
  inn : Bool
  e : Int
  cond : Int
deriving Inhabited
structure PStmt where
  kind : Int
  name : ByteArray
  op : Int
  e : Int
  cond : Int
  acts : List PAct
  thn : List Int
  els : List Int
deriving Inhabited
structure Prg where
  decls : List PDecl
  exprs : List Expr
  stmts : List PStmt
  main : List Int
deriving Inhabited
def Prg.none : Prg := ⟨[], [], [], []⟩
def strB (l : List UInt8) : ByteArray := ⟨l.toArray⟩
/-- the form at a place -/
def fm (l : List Form) (n : Int) : Form := nth l n.toNat
def splitOk (l : List Form) (n : Int) : Bool := (fm l n).kind == 1 && decide (0 < (fm l n).kids.length) && (fm l (nth (fm l n).kids 0)).kind == 3
def headW (l : List Form) (n : Int) : ByteArray := (fm l (nth (fm l n).kids 0)).text
def tailK (l : List Form) (n : Int) : List Int := (fm l n).kids.drop 1
def nameOk (l : List Form) (n : Int) : Bool := (fm l n).kind == 3 && namedS (fm l n).text
def saysS (l : List Form) (n : Int) (w : ByteArray) : Bool := (fm l n).kind == 3 && decide ((fm l n).text = w)
def wrongS (l : List Form) (n : Int) : Wr := ((fm l n).pos, 8)
def wOwn := strB [111, 119, 110]
def wFar := strB [102, 97, 114]
def wVia := strB [118, 105, 97]
def wId := strB [105, 100]
def wFarid := strB [102, 97, 114, 105, 100]
def wCount := strB [99, 111, 117, 110, 116]
def wDeg := strB [100, 101, 103]
def wOut := strB [111, 117, 116]
def wIn := strB [105, 110]
def wTrue := strB [116, 114, 117, 101]
def wFalse := strB [102, 97, 108, 115, 101]
def wPut := strB [112, 117, 116]
def wPush := strB [112, 117, 115, 104]
def wPull := strB [112, 117, 108, 108]
def wSet := strB [115, 101, 116]
def wFold := strB [102, 111, 108, 100]
def wEach := strB [101, 97, 99, 104]
def wIf := strB [105, 102]
def wWhile := strB [119, 104, 105, 108, 101]
def wLoop := strB [108, 111, 111, 112]
def wBfs := strB [98, 102, 115]
def wInt := strB [105, 110, 116]
def wBool := strB [98, 111, 111, 108]
def wNint := strB [110, 105, 110, 116]
def wNbool := strB [110, 98, 111, 111, 108]
def wEint := strB [101, 105, 110, 116]
def wEbool := strB [101, 98, 111, 111, 108]
def exprK (k : Int) : Expr := { kind := k, of_ := 0, op := 0, name := ⟨#[]⟩, num := 0, kids := [] }
def expr0 : Expr := exprK 0
def aloneK (w : ByteArray) : Int := if w = wId then 6 else if w = wFarid then 7 else if w = wCount then 9 else 0
def columnK (w : ByteArray) : Int := if w = wOwn then 3 else if w = wFar then 4 else if w = wVia then 5 else 0
/-- the expression of a word that has no expressions in it; none: it is none; or a name is wrong -/
def leafS (l : List Form) (w : ByteArray) (kids : List Int) : Option Expr ⊕ Wr :=
  if aloneK w ≠ 0 ∧ kids.length = 0 then .inl (some (exprK (aloneK w)))
  else if kids.length ≠ 1 then .inl none
  else if columnK w ≠ 0 then
    if nameOk l (nth kids 0) then .inl (some { exprK (columnK w) with name := (fm l (nth kids 0)).text }) else .inr (wrongS l (nth kids 0))
  else if w = wDeg ∧ saysS l (nth kids 0) wOut = true then .inl (some (exprK 8))
  else if w = wDeg ∧ saysS l (nth kids 0) wIn = true then .inl (some { exprK 8 with num := 1 })
  else .inl none
/-- one behind the other -/
def seqS {σ : Type} {α : Type} (g : Int → σ → (α × σ) ⊕ Wr) : List Int → σ → (List α × σ) ⊕ Wr
  | [], s => .inl ([], s)
  | k :: r, s => match g k s with
    | .inr e => .inr e
    | .inl (p, s1) => match seqS g r s1 with
      | .inr e => .inr e
      | .inl (ps, s2) => .inl (p :: ps, s2)
def addE (es : List Expr) (x : Expr) : (Int × List Expr) ⊕ Wr := .inl ((es.length : Int), es ++ [x])
def callOk (w : ByteArray) (kids : List Int) : Bool := (readOpS w).2 && decide ((kids.length : Int) = arityS (readOpS w).1)
def exprS (l : List Form) : Nat → Int → List Expr → (Int × List Expr) ⊕ Wr
  | 0, n, _ => .inr (wrongS l n)
  | f + 1, n, es =>
    if (fm l n).kind = 4 then addE es { exprK 1 with of_ := 1, num := (fm l n).num }
    else if (fm l n).kind = 3 then
      if (truthS (fm l n).text).2 = true then addE es (truthS (fm l n).text).1
      else if nameOk l n then addE es { exprK 2 with name := (fm l n).text } else .inr (wrongS l n)
    else if splitOk l n then
      match leafS l (headW l n) (tailK l n) with
      | .inr e => .inr e
      | .inl (some x) => addE es x
      | .inl none =>
        if callOk (headW l n) (tailK l n) then
          match seqS (exprS l f) (tailK l n) es with
          | .inr e => .inr e
          | .inl (ps, es1) => addE es1 { exprK 10 with op := (readOpS (headW l n)).1, kids := ps }
        else .inr (wrongS l n)
    else .inr (wrongS l n)
/-- the operation that a form says, that takes in many -/
def takingOk (l : List Form) (n : Int) : Bool := (fm l n).kind == 3 && (readOpS (fm l n).text).2 && (reducesS (readOpS (fm l n).text).1).2
def takingOp (l : List Form) (n : Int) : Int := (readOpS (fm l n).text).1
/-- an expression, and a condition if there is one -/
def partsS (l : List Form) (f : Nat) (kids : List Int) (es : List Expr) : ((Int × Int) × List Expr) ⊕ Wr :=
  match exprS l f (nth kids 0) es with
  | .inr e => .inr e
  | .inl (p, es1) =>
    if 1 < kids.length then
      match exprS l f (nth kids 1) es1 with
      | .inr e => .inr e
      | .inl (q, es2) => .inl ((p, q), es2)
    else .inl ((p, -1), es1)
/-- an act's kind by its word and how many are behind it; 0: it is none -/
def actK (w : ByteArray) (c : Nat) : Int := if w = wPut ∧ (c = 2 ∨ c = 3) then 1 else if w = wPush ∧ (c = 4 ∨ c = 5) then 2 else if w = wPull ∧ c = 4 then 3 else 0
def actBody (l : List Form) (f : Nat) (kids : List Int) (k o : Int) (inn : Bool) (fr : Nat) (es : List Expr) : (PAct × List Expr) ⊕ Wr :=
  if nameOk l (nth kids 0) then
    match partsS l f (kids.drop fr) es with
    | .inr e => .inr e
    | .inl ((e, c), es1) => .inl ({ kind := k, name := (fm l (nth kids 0)).text, op := o, inn, e, cond := c }, es1)
  else .inr (wrongS l (nth kids 0))
def actS (l : List Form) (f : Nat) (n : Int) (es : List Expr) : (PAct × List Expr) ⊕ Wr :=
  if splitOk l n then
    if actK (headW l n) (tailK l n).length = 0 then .inr (wrongS l n)
    else if actK (headW l n) (tailK l n).length = 1 then actBody l f (tailK l n) 1 0 false 1 es
    else if takingOk l (nth (tailK l n) 1) then
      if saysS l (nth (tailK l n) 2) wIn || saysS l (nth (tailK l n) 2) wOut then
        actBody l f (tailK l n) (actK (headW l n) (tailK l n).length) (takingOp l (nth (tailK l n) 1)) (saysS l (nth (tailK l n) 2) wIn) 3 es
      else .inr (wrongS l n)
    else .inr (wrongS l n)
  else .inr (wrongS l n)
/-- expressions and statements -/
abbrev ESt := List Expr × List PStmt
def stmt0 : PStmt := { kind := 0, name := ⟨#[]⟩, op := 0, e := -1, cond := -1, acts := [], thn := [], els := [] }
def addS (s : ESt) (x : PStmt) : (Int × ESt) ⊕ Wr := .inl ((s.2.length : Int), (s.1, s.2 ++ [x]))
/-- which statement a word and how many are behind it say; 0: none -/
def stmtK (w : ByteArray) (c : Nat) : Int :=
  if w = wSet ∧ c = 2 then 1 else if w = wFold ∧ (c = 3 ∨ c = 4) then 2 else if w = wEach ∧ 1 ≤ c ∧ c ≤ 6 then 3 else if w = wIf ∧ c = 3 then 4
  else if w = wWhile ∧ 1 ≤ c then 5 else if w = wLoop ∧ 1 ≤ c then 6 else if w = wBfs ∧ 2 ≤ c then 7 else 0
/-- an expression, then statements, then a statement of them -/
def bodyS (l : List Form) (f : Nat) (g : Int → ESt → (Int × ESt) ⊕ Wr) (n : Int) (rest : List Int) (mk : Int → List Int → PStmt) (s : ESt) : (Int × ESt) ⊕ Wr :=
  match exprS l f n s.1 with
  | .inr e => .inr e
  | .inl (e, es1) => match seqS g rest (es1, s.2) with
    | .inr e => .inr e
    | .inl (ps, s1) => addS s1 (mk e ps)
def stmtS (l : List Form) : Nat → Int → ESt → (Int × ESt) ⊕ Wr
  | 0, n, _ => .inr (wrongS l n)
  | f + 1, n, s =>
    if splitOk l n then
      let w := headW l n
      let kids := tailK l n
      let k := stmtK w kids.length
      if k = 1 then
        if nameOk l (nth kids 0) then
          match exprS l f (nth kids 1) s.1 with
          | .inr e => .inr e
          | .inl (e, es1) => addS (es1, s.2) { stmt0 with kind := 1, name := (fm l (nth kids 0)).text, e := e }
        else .inr (wrongS l (nth kids 0))
      else if k = 2 then
        if takingOk l (nth kids 1) then
          if nameOk l (nth kids 0) then
            match partsS l f (kids.drop 2) s.1 with
            | .inr e => .inr e
            | .inl ((e, c), es1) => addS (es1, s.2) { stmt0 with kind := 2, name := (fm l (nth kids 0)).text, op := takingOp l (nth kids 1), e := e, cond := c }
          else .inr (wrongS l (nth kids 0))
        else .inr (wrongS l n)
      else if k = 3 then
        match seqS (actS l f) kids s.1 with
        | .inr e => .inr e
        | .inl (acs, es1) => addS (es1, s.2) { stmt0 with kind := 3, acts := acs }
      else if k = 4 then
        if (fm l (nth kids 1)).kind = 1 ∧ (fm l (nth kids 2)).kind = 1 then
          match exprS l f (nth kids 0) s.1 with
          | .inr e => .inr e
          | .inl (e, es1) => match seqS (stmtS l f) (fm l (nth kids 1)).kids (es1, s.2) with
            | .inr e => .inr e
            | .inl (ts, s1) => match seqS (stmtS l f) (fm l (nth kids 2)).kids s1 with
              | .inr e => .inr e
              | .inl (fs, s2) => addS s2 { stmt0 with kind := 4, e := e, thn := ts, els := fs }
        else .inr (wrongS l n)
      else if k = 5 ∨ k = 6 then
        bodyS l f (stmtS l f) (nth kids 0) (kids.drop 1) (fun e ps => { stmt0 with kind := k, e := e, thn := ps }) s
      else if k = 7 then
        if nameOk l (nth kids 0) then
          bodyS l f (stmtS l f) (nth kids 1) (kids.drop 2) (fun e ps => { stmt0 with kind := 7, name := (fm l (nth kids 0)).text, e := e, thn := ps }) s
        else .inr (wrongS l (nth kids 0))
      else .inr (wrongS l n)
    else .inr (wrongS l n)
/-- what a declaration's word declares: side, kind; (0, 0): it is none -/
def declK (w : ByteArray) : Int × Int :=
  if w = wInt then (1, 1) else if w = wBool then (1, 2) else if w = wNint then (2, 1) else if w = wNbool then (2, 2) else if w = wEint then (3, 1) else if w = wEbool then (3, 2) else (0, 0)
def lineS (l : List Form) (f : Nat) (n : Int) (p : Prg) : Prg ⊕ Wr :=
  if splitOk l n then
    if (declK (headW l n)).1 = 0 then
      match stmtS l f n (p.exprs, p.stmts) with
      | .inr e => .inr e
      | .inl (m, s) => .inl { p with exprs := s.1, stmts := s.2, main := p.main ++ [m] }
    else if (tailK l n).length = 1 ∧ p.main.length = 0 then
      if 24 ≤ p.decls.length then .inr ((fm l n).pos, 4)
      else if nameOk l (nth (tailK l n) 0) then .inl { p with decls := p.decls ++ [{ name := (fm l (nth (tailK l n) 0)).text, side := (declK (headW l n)).1, kind := (declK (headW l n)).2 }] }
      else .inr (wrongS l (nth (tailK l n) 0))
    else .inr (wrongS l n)
  else .inr (wrongS l n)
def linesS (l : List Form) (f : Nat) : List Int → Prg → Prg ⊕ Wr
  | [], p => .inl p
  | n :: r, p => match lineS l f n p with
    | .inr e => .inr e
    | .inl q => linesS l f r q
end Go.Proofs.Ytgaginegcjpddaa
/- The program's reader of forms: what only reads. -/
namespace Go.Proofs.Ytgaginegcjpddaa
open Go.RowKit
/-- what the reader gives up with -/
def progWrong (e : Wr) : List PanicEntry := [{ v := .iface 50 (.agg #[.int .i64 e.1, .int .i64 e.2]), recovered := false }]
/-- the reader's forms -/
structure RF (w : World) (rb : Nat) (D : Nat → Prop) (l : List Form) : Prop where
  forms : ∃ fv, w.cell? ⟨rb, 0, none⟩ = some fv ∧ Forms w D fv l
  texts : ∀ f ∈ l, f.text.size ≤ 9223372036854775807
theorem RF.below {w w' : World} {rb : Nat} {D : Nat → Prop} {l : List Form} (h : RF w rb D l) (hb : Below w.heap.size w w') : RF w' rb D l := by
  obtain ⟨fv, h1, h2⟩ := h.forms
  exact ⟨⟨fv, (hb.cell (p := ⟨rb, 0, none⟩) (World.block_lt_of_cell? w _ h1)).trans h1, h2.below hb⟩, h.texts⟩
/-- a form's cells, by the reader -/
theorem RF.at_ {w : World} {rb : Nat} {D : Nat → Prop} {l : List Form} (h : RF w rb D l) {n : Nat} (hn : n < l.length) :
    ∃ b off c KA kc, w.cell? ⟨rb, 0, none⟩ = some (.slice (some ⟨b, off, none⟩) l.length c) ∧ l.length ≤ c ∧ c ≤ 9223372036854775807 ∧ (nth l n).kids.length ≤ kc ∧ kc ≤ 9223372036854775807 ∧ (nth l n).text.size ≤ 9223372036854775807 ∧ Ints w D (.slice KA (nth l n).kids.length kc) (nth l n).kids ∧
      w.cell? ⟨b, off + n * 5, none⟩ = some (.int .u8 (nth l n).kind) ∧ w.cell? ⟨b, off + n * 5 + 1, none⟩ = some (.string (nth l n).text) ∧ w.cell? ⟨b, off + n * 5 + 2, none⟩ = some (.int .i64 (nth l n).num) ∧ w.cell? ⟨b, off + n * 5 + 3, none⟩ = some (.slice KA (nth l n).kids.length kc) ∧ w.cell? ⟨b, off + n * 5 + 4, none⟩ = some (.int .i64 (nth l n).pos) := by
  obtain ⟨fv, h1, h2⟩ := h.forms
  obtain ⟨fb, fo, fc, rfl, hl, hc, hfb, kv, hkv, hfc⟩ := h2.at_ (n := n) hn
  obtain ⟨KA, kc, rfl, hkl, hkc⟩ := hkv.slice
  have c0 := hfc 0 _ rfl; have c1 := hfc 1 _ rfl; have c2 := hfc 2 _ rfl; have c3 := hfc 3 _ rfl; have c4 := hfc 4 _ rfl
  exact ⟨fb, fo, fc, KA, kc, h1, hl, hc, hkl, hkc, h.texts _ (nth_mem hn), hkv, c0, c1, c2, c3, c4⟩
/-- what is behind the first one -/
theorem Ints.tail {w : World} {D : Nat → Prop} {b off m c : Nat} {l : List Int} (h : Ints w D (.slice (some ⟨b, off, none⟩) (m + 1) c) l) (hm : l.length = m + 1) (hc : c ≠ 1) : Ints w D (.slice (some ⟨b, off + 1, none⟩) m (c - 1)) (l.drop 1) := by
  obtain ⟨A, c', h1, h2, h3, h4⟩ := h.out
  simp only [Value.slice.injEq] at h1
  obtain ⟨rfl, _, rfl⟩ := h1
  obtain ⟨b', off', hA, hD, hall⟩ := h4 (by omega)
  cases hA
  refine ⟨some ⟨b, off + 1, none⟩, c - 1, by rw [List.length_drop, hm]; simp, by rw [List.length_drop]; omega, by omega, fun h0 => ⟨b, off + 1, rfl, hD, fun i hi => ?_⟩⟩
  rw [List.length_drop] at hi
  obtain ⟨cs, hr, hl, hcs⟩ := hall (1 + i) (by omega)
  refine ⟨cs, by rw [nth_drop]; exact hr, hl, fun j u hj => ?_⟩
  have := hcs j u hj
  rwa [show off + (1 + i) * 1 + j = off + 1 + i * 1 + j by omega] at this
theorem Ints.tail1 {w : World} {D : Nat → Prop} {A : Option Addr} {l : List Int} (hm : l.length = 1) : Ints w D (.slice A 0 0) (l.drop 1) := by
  have : l.drop 1 = [] := List.drop_eq_nil_of_le (by omega)
  rw [this]
  exact ⟨A, 0, rfl, by simp, by omega, fun h => by simp at h⟩
theorem fm_nat (l : List Form) (n : Nat) : fm l (n : Int) = nth l n := by simp [fm]
set_option maxHeartbeats 800000 in
set_option maxRecDepth 100000 in
theorem refuse_any (l : List Form) (rb : Nat) (D : Nat → Prop) (w : World) (h : RF w rb D l) (n : Nat) (hn : n < l.length) :
    Calls Try.prog 67 #[.pointer (some ⟨rb, 0, none⟩), .int .i64 (n : Int)] w fun e w' => e = .panicked (progWrong (wrongS l (n : Int))) ∧ w' = w := by
  obtain ⟨b, off, c, KA, kc, h0, hl, hc, _, _, _, _, c0, c1, c2, c3, c4⟩ := h.at_ hn
  have hni : (n : Int) < (l.length : Int) := by omega
  have HW : Hid (wrongS l (n : Int) = ((nth l n).pos, 8)) := by unfold Hid wrongS; rw [fm_nat]
  clear c0 c1 c2 c3
  go_enter Try.func67, Try.ntmps67
  go_wp2
  rw [HW.out]
  exact ⟨rfl, rfl, rfl⟩
theorem need_true (rb : Nat) (n : Int) (w : World) : Calls Try.prog 40 #[.pointer (some ⟨rb, 0, none⟩), .bool true, .int .i64 n] w fun e w' => e = .returned (.tuple #[]) ∧ w' = w := by
  go_enter Try.func40, Try.ntmps40
  go_wp2
  go_end0
  exact ⟨rfl, rfl⟩
theorem need_false (l : List Form) (rb : Nat) (D : Nat → Prop) (w : World) (h : RF w rb D l) (n : Nat) (hn : n < l.length) :
    Calls Try.prog 40 #[.pointer (some ⟨rb, 0, none⟩), .bool false, .int .i64 (n : Int)] w fun e w' => e = .panicked (progWrong (wrongS l (n : Int))) ∧ w' = w := by
  go_enter Try.func40, Try.ntmps40
  go_wp2_with (go_at_call 67; refine (refuse_any l rb D _ h n hn).mono ?_; rintro e w' ⟨rfl, rfl⟩)
  exact ⟨rfl, rfl, rfl⟩
set_option maxHeartbeats 800000 in
set_option maxRecDepth 100000 in
theorem says_any (l : List Form) (rb : Nat) (D : Nat → Prop) (w : World) (h : RF w rb D l) (n : Nat) (hn : n < l.length) (s : ByteArray) :
    Calls Try.prog 86 #[.pointer (some ⟨rb, 0, none⟩), .int .i64 (n : Int), .string s] w fun e w' => e = .returned (.bool (saysS l (n : Int) s)) ∧ w' = w := by
  obtain ⟨b, off, c, KA, kc, h0, hl, hc, _, _, _, _, c0, c1, c2, c3, c4⟩ := h.at_ hn
  have hni : (n : Int) < (l.length : Int) := by omega
  have HW : Hid (saysS l (n : Int) s = ((nth l n).kind == 3 && decide ((nth l n).text = s))) := by unfold Hid saysS; rw [fm_nat]
  obtain ⟨T, hT⟩ : ∃ T, nth l n = T := ⟨_, rfl⟩
  rw [hT] at c0 c1 HW
  have hse := str_eq T.text s
  clear c2 c3 c4 hT
  by_cases hk : (T.kind == 3) = true
  · by_cases he : T.text = s
    · have hb : (T.text.toList == s.toList) = true := by rw [hse]; simpa using he
      have HE := hid he
      have HK := hid hk
      clear hse he
      go_enter Try.func86, Try.ntmps86
      go_wp2
      go_ret
      exact ⟨ret_bool (by rw [HW.out, HK.out]; simp [HE.out]), rfl⟩
    · have hb : (T.text.toList == s.toList) = false := by rw [hse]; simpa using he
      have HE := hid he
      have HK := hid hk
      clear hse he
      go_enter Try.func86, Try.ntmps86
      go_wp2
      go_ret
      exact ⟨ret_bool (by rw [HW.out, HK.out]; simp [HE.out]), rfl⟩
  · have hk' : (T.kind == 3) = false := by simpa using hk
    clear hse hk
    have HK := hid hk'
    go_enter Try.func86, Try.ntmps86
    go_wp2
    go_ret
    exact ⟨ret_bool (by rw [HW.out, HK.out]; rfl), rfl⟩
set_option maxHeartbeats 800000 in
set_option maxRecDepth 100000 in
theorem name_yes (l : List Form) (rb : Nat) (D : Nat → Prop) (w : World) (h : RF w rb D l) (n : Nat) (hn : n < l.length) (hok : nameOk l (n : Int) = true) :
    Calls Try.prog 41 #[.pointer (some ⟨rb, 0, none⟩), .int .i64 (n : Int)] w fun e w' => e = .returned (.string (fm l (n : Int)).text) ∧ Below w.heap.size w w' := by
  obtain ⟨b, off, c, KA, kc, h0, hl, hc, _, _, htx, _, c0, c1, c2, c3, c4⟩ := h.at_ hn
  have hni : (n : Int) < (l.length : Int) := by omega
  unfold nameOk at hok
  rw [fm_nat] at hok ⊢
  rw [Bool.and_eq_true] at hok
  obtain ⟨hk, hnm⟩ := hok
  obtain ⟨T, hT⟩ : ∃ T, nth l n = T := ⟨_, rfl⟩
  rw [hT] at c0 c1 c2 c3 c4 hk hnm htx ⊢
  have HN := hid hnm; have HX := hid htx
  clear hT hnm htx
  go_enter Try.func41, Try.ntmps41
  go_wp2_with (first | (go_at_call 68; refine (progNamed_any _ _ HX.out).mono ?_; rintro e w' ⟨rfl, hb⟩; rw [HN.out]; obtain ⟨hcb, hfb⟩ := bcell hb; have hBb := hid hb; clear hb) | (go_at_call 40; refine (need_true _ _ _).mono ?_; rintro e w' ⟨rfl, rfl⟩))
  go_ret
  exact ⟨rfl, ((Below.refl _ _).alloc (Nat.le_refl _) _).trans (hBb.out.mono (by simp))⟩
set_option maxHeartbeats 800000 in
set_option maxRecDepth 100000 in
theorem name_no (l : List Form) (rb : Nat) (D : Nat → Prop) (w : World) (h : RF w rb D l) (n : Nat) (hn : n < l.length) (hok : nameOk l (n : Int) = false) :
    Calls Try.prog 41 #[.pointer (some ⟨rb, 0, none⟩), .int .i64 (n : Int)] w fun e w' => e = .panicked (progWrong (wrongS l (n : Int))) ∧ Below w.heap.size w w' := by
  obtain ⟨b, off, c, KA, kc, h0, hl, hc, _, _, htx, _, c0, c1, c2, c3, c4⟩ := h.at_ hn
  have hni : (n : Int) < (l.length : Int) := by omega
  unfold nameOk at hok
  rw [fm_nat] at hok
  obtain ⟨T, hT⟩ : ∃ T, nth l n = T := ⟨_, rfl⟩
  rw [hT] at c0 c1 c2 c3 c4 hok htx
  have HX := hid htx
  have H := hid h
  clear hT htx h
  by_cases hk : (T.kind == 3) = true
  · rw [hk, Bool.true_and] at hok
    have HN := hid hok
    clear hok
    go_enter Try.func41, Try.ntmps41
    go_wp2_with (first | (go_at_call 68; refine (progNamed_any _ _ HX.out).mono ?_; rintro e w' ⟨rfl, hb⟩; rw [HN.out]; have hBb := hid hb; clear hb) | (go_at_call 40; refine (need_false l rb D _ ?hrf n hn).mono ?_; rotate_left; rintro e w' ⟨rfl, rfl⟩))
    · exact ⟨rfl, rfl, ((Below.refl _ _).alloc (Nat.le_refl _) _).trans (hBb.out.mono (by simp))⟩
    · exact H.out.below (((Below.refl _ _).alloc (Nat.le_refl _) _).trans (hBb.out.mono (by simp)))
  · have hk' : (T.kind == 3) = false := by simpa using hk
    clear hk hok
    go_enter Try.func41, Try.ntmps41
    go_wp2_with (go_at_call 40; refine (need_false l rb D _ (H.out.below ((Below.refl _ _).alloc (Nat.le_refl _) _)) n hn).mono ?_; rintro e w' ⟨rfl, rfl⟩)
    exact ⟨rfl, rfl, (Below.refl _ _).alloc (Nat.le_refl _) _⟩
end Go.Proofs.Ytgaginegcjpddaa
/- The program's reader of forms: a bracket's first word and what is behind it. -/
namespace Go.Proofs.Ytgaginegcjpddaa
open Go.RowKit
/-- kids stand behind their bracket, in the list -/
def WF (l : List Form) : Prop := ∀ n, n < l.length → ∀ k ∈ (nth l n).kids, (n : Int) < k ∧ k < l.length
theorem WF.kid {l : List Form} (h : WF l) {n i : Nat} (hn : n < l.length) (hi : i < (nth l n).kids.length) : ∃ k : Nat, nth (nth l n).kids i = (k : Int) ∧ n < k ∧ k < l.length := by
  have := h n hn _ (nth_mem hi)
  exact ⟨(nth (nth l n).kids i).toNat, by omega, by omega, by omega⟩
def tailV (kb ko m kc : Nat) : Value := if kc = 1 then .slice (some ⟨kb, ko, none⟩) 0 0 else .slice (some ⟨kb, ko + 1, none⟩) m (kc - 1)
theorem slice_tail (W : World) (kb ko m kc : Nat) (h : m + 1 ≤ kc) : (Instr.slice 25 (.slice (some ⟨kb, ko, none⟩) (m + 1) kc) (some (.int .i64 1)) none none).run Try.prog W = .ok (tailV kb ko m kc) W := by
  have hs : (sizeOf 3).run Try.prog W = .ok 1 W := by kernel_rfl
  have h1 : (1 : Int) ≤ (m : Int) + 1 := by omega
  by_cases hc : kc = 1
  · subst hc
    obtain rfl : m = 0 := by omega
    simp [tailV, Instr.slice, run_underlying Try.underlying25, Instr.sliceBounds, Instr.sliceBound, asIntOf, Result.andThen, hs]
  · simp [tailV, Instr.slice, run_underlying Try.underlying25, Instr.sliceBounds, Instr.sliceBound, asIntOf, Result.andThen, hs, hc, add_off, h1]
set_option maxHeartbeats 1600000 in
set_option maxRecDepth 100000 in
theorem split_yes (l : List Form) (hwf : WF l) (rb : Nat) (D : Nat → Prop) (w : World) (h : RF w rb D l) (n : Nat) (hn : n < l.length) (hok : splitOk l (n : Int) = true) :
    Calls Try.prog 37 #[.pointer (some ⟨rb, 0, none⟩), .int .i64 (n : Int)] w fun e w' => ∃ tv, e = .returned (.tuple #[.string (headW l (n : Int)), tv]) ∧ Ints w' D tv (tailK l (n : Int)) ∧ Below w.heap.size w w' := by
  obtain ⟨b, off, c, KA, kc, h0, hl, hc, hkl, hkc, htx, hki, c0, c1, c2, c3, c4⟩ := h.at_ hn
  have hni : (n : Int) < (l.length : Int) := by omega
  unfold splitOk at hok
  rw [fm_nat, Bool.and_eq_true, Bool.and_eq_true] at hok
  obtain ⟨⟨hk, hl0⟩, hk0⟩ := hok
  have hl0 := of_decide_eq_true hl0
  obtain ⟨k0, hk0e, hnk, hkl0⟩ := hwf.kid hn hl0
  rw [hk0e, fm_nat] at hk0
  obtain ⟨b', off', c', KA', kc', h0', _, _, _, _, htx', _, d0, d1, d2, d3, d4⟩ := h.at_ hkl0
  rw [h0] at h0'
  simp only [Option.some.injEq, Value.slice.injEq] at h0'
  obtain ⟨h01, _, rfl⟩ := h0'
  cases h01
  obtain ⟨kb, ko, kc2, he, _, _, hDb, hkb, hkc0⟩ := hki.at_ 0 hl0
  simp only [Value.slice.injEq] at he
  obtain ⟨rfl, h00, rfl⟩ := he
  rw [hk0e, Nat.add_zero] at hkc0
  have HH : Hid (headW l (n : Int) = (nth l k0).text ∧ tailK l (n : Int) = (nth l n).kids.drop 1) := by
    unfold Hid headW tailK; rw [fm_nat, hk0e, fm_nat]; exact ⟨rfl, rfl⟩
  obtain ⟨m, hm⟩ : ∃ m, (nth l n).kids.length = m + 1 := ⟨(nth l n).kids.length - 1, by omega⟩
  have hT : ∀ w', (∀ bb, bb < w.heap.size → w'.heap[bb]? = w.heap[bb]?) → Ints w' D (tailV kb ko m kc) (tailK l (n : Int)) := by
    intro w' hw'
    rw [HH.out.2]
    unfold tailV
    split
    · exact Ints.tail1 (by omega)
    · have := hki.imp (w' := w') (D' := D) fun bb hbb hlt => ⟨hbb, hw' bb hlt⟩
      rw [hm] at this
      exact this.tail hm (by assumption)
  have HT := hid hT
  have hk0i : (k0 : Int) < (l.length : Int) := by omega
  have hrb : rb < w.heap.size := World.block_lt_of_cell? w _ h0
  have hbb : b < w.heap.size := World.block_lt_of_cell? w _ c0
  rw [hm] at c3 hkl
  have hpos : (0 : Int) < ((m + 1 : Nat) : Int) := by omega
  have hkx : (Nat.cast (nth l n).kids.length : Int) = (m + 1 : Nat) := by rw [hm]
  clear hki htx htx' h00 hT hk0e hkx hm hl0
  obtain ⟨T, hTe⟩ : ∃ T, nth l n = T := ⟨_, rfl⟩
  obtain ⟨T0, hT0⟩ : ∃ T0, nth l k0 = T0 := ⟨_, rfl⟩
  rw [hTe] at c0 c1 c2 c4 hk
  rw [hT0] at d0 d1 d2 d3 d4 hk0 HH
  clear hTe hT0
  have hsl := fun W => slice_tail W kb ko m kc hkl
  go_enter Try.func37, Try.ntmps37
  go_wp2
  (refine wp_still_tail 25 (by kernel_rfl) (by kernel_rfl) ?_; simp only [List.take_succ_cons, List.take_zero, List.drop_succ_cons, List.drop_zero]; (repeat (first | (refine wpStill_skip (by rfl) ?_; simp only [Act.put, List.setIfInBounds_toArray, List.set_cons_succ, List.set_cons_zero]) | still_step | (refine wpStill_step (fun K hK => ?_); simp [go_sem, ↓IntWalk.iteOmega, *]; refine hK _ ?_; clear hK K))); refine wpStill_nil ?_)
  go_wp2_with (go_at_call 40; refine (need_true _ _ _).mono ?_; rintro e w' ⟨rfl, rfl⟩)
  go_quiet (fail)
  go_wp2
  go_ret2
  rw [HH.out.1]
  refine ⟨_, rfl, HT.out _ (fun bb hlt => Below.heap_alloc w _ bb hlt), ?_⟩
  exact below_drewN (below_drewN ((Below.refl _ _).alloc (Nat.le_refl _) _) 1) nq
set_option maxHeartbeats 1600000 in
set_option maxRecDepth 100000 in
theorem split_no (l : List Form) (hwf : WF l) (rb : Nat) (D : Nat → Prop) (w : World) (h : RF w rb D l) (n : Nat) (hn : n < l.length) (hok : splitOk l (n : Int) = false) :
    Calls Try.prog 37 #[.pointer (some ⟨rb, 0, none⟩), .int .i64 (n : Int)] w fun e w' => e = .panicked (progWrong (wrongS l (n : Int))) ∧ Below w.heap.size w w' := by
  obtain ⟨b, off, c, KA, kc, h0, hl, hc, hkl, hkc, htx, hki, c0, c1, c2, c3, c4⟩ := h.at_ hn
  have hni : (n : Int) < (l.length : Int) := by omega
  unfold splitOk at hok
  rw [fm_nat] at hok
  have hrb : rb < w.heap.size := World.block_lt_of_cell? w _ h0
  have hbb : b < w.heap.size := World.block_lt_of_cell? w _ c0
  have H := hid h
  by_cases hk : ((nth l n).kind == 1) = true
  · by_cases hl0 : 0 < (nth l n).kids.length
    · obtain ⟨k0, hk0e, hnk, hkl0⟩ := hwf.kid hn hl0
      rw [hk, decide_eq_true hl0, hk0e, fm_nat, Bool.true_and, Bool.true_and] at hok
      obtain ⟨b', off', c', KA', kc', h0', _, _, _, _, htx', _, d0, d1, d2, d3, d4⟩ := h.at_ hkl0
      rw [h0] at h0'
      simp only [Option.some.injEq, Value.slice.injEq] at h0'
      obtain ⟨h01, _, rfl⟩ := h0'
      cases h01
      obtain ⟨kb, ko, kc2, he, _, _, hDb, hkb, hkc0⟩ := hki.at_ 0 hl0
      simp only [Value.slice.injEq] at he
      obtain ⟨rfl, h00, rfl⟩ := he
      rw [hk0e, Nat.add_zero] at hkc0
      obtain ⟨m, hm⟩ : ∃ m, (nth l n).kids.length = m + 1 := ⟨(nth l n).kids.length - 1, by omega⟩
      have hk0i : (k0 : Int) < (l.length : Int) := by omega
      rw [hm] at c3 hkl
      have hpos : (0 : Int) < ((m + 1 : Nat) : Int) := by omega
      clear hki htx htx' h00 hk0e hm hl0 h
      obtain ⟨T, hTe⟩ : ∃ T, nth l n = T := ⟨_, rfl⟩
      obtain ⟨T0, hT0⟩ : ∃ T0, nth l k0 = T0 := ⟨_, rfl⟩
      rw [hTe] at c0 c1 c2 c4 hk
      rw [hT0] at d0 d1 d2 d3 d4 hok
      clear hTe hT0
      go_enter Try.func37, Try.ntmps37
      go_wp2
      (refine wp_still_gtail 25 (by kernel_rfl) (by kernel_rfl) ?_; intro opsG HopsG; simp only [List.take_succ_cons, List.take_zero, List.drop_succ_cons, List.drop_zero]; (repeat (first | (refine wpStill_skip (by rw [HopsG.out]; rfl) ?_; simp only [Act.put, List.setIfInBounds_toArray, List.set_cons_succ, List.set_cons_zero]) | (refine wpStill_want (by rw [HopsG.out]; rfl) (fun K hK => ?_); go_simp; refine hK _ ?_; clear hK K))); refine wpStill_nil ?_; obtain rfl := HopsG.out; clear HopsG)
      go_wp2_with (go_at_call 40; refine (need_false l rb D _ (by exact H.out.below (below_drewN ((Below.refl _ _).alloc (Nat.le_refl _) _) 1)) n hn).mono ?_; rintro e w' ⟨rfl, rfl⟩)
      exact ⟨rfl, rfl, below_drewN ((Below.refl _ _).alloc (Nat.le_refl _) _) 1⟩
    · have hm : (nth l n).kids.length = 0 := by omega
      rw [hm] at c3 hkl
      clear hki htx hm hl0 h hok
      obtain ⟨T, hTe⟩ : ∃ T, nth l n = T := ⟨_, rfl⟩
      rw [hTe] at c0 c1 c2 c4 hk
      clear hTe
      go_enter Try.func37, Try.ntmps37
      go_wp2
      (refine wp_still_gtail 25 (by kernel_rfl) (by kernel_rfl) ?_; intro opsG HopsG; simp only [List.take_succ_cons, List.take_zero, List.drop_succ_cons, List.drop_zero]; (repeat (first | (refine wpStill_skip (by rw [HopsG.out]; rfl) ?_; simp only [Act.put, List.setIfInBounds_toArray, List.set_cons_succ, List.set_cons_zero]) | (refine wpStill_want (by rw [HopsG.out]; rfl) (fun K hK => ?_); go_simp; refine hK _ ?_; clear hK K))); refine wpStill_nil ?_; obtain rfl := HopsG.out; clear HopsG)
      go_wp2_with (go_at_call 40; refine (need_false l rb D _ (by exact H.out.below (below_drewN ((Below.refl _ _).alloc (Nat.le_refl _) _) 1)) n hn).mono ?_; rintro e w' ⟨rfl, rfl⟩)
      exact ⟨rfl, rfl, below_drewN ((Below.refl _ _).alloc (Nat.le_refl _) _) 1⟩
  · have hk' : ((nth l n).kind == 1) = false := by simpa using hk
    clear hk hki htx hok h
    obtain ⟨T, hTe⟩ : ∃ T, nth l n = T := ⟨_, rfl⟩
    rw [hTe] at c0 c1 c2 c3 c4 hk'
    clear hTe
    go_enter Try.func37, Try.ntmps37
    go_wp2
    (refine wp_still_gtail 25 (by kernel_rfl) (by kernel_rfl) ?_; intro opsG HopsG; simp only [List.take_succ_cons, List.take_zero, List.drop_succ_cons, List.drop_zero]; (repeat (first | (refine wpStill_skip (by rw [HopsG.out]; rfl) ?_; simp only [Act.put, List.setIfInBounds_toArray, List.set_cons_succ, List.set_cons_zero]) | (refine wpStill_want (by rw [HopsG.out]; rfl) (fun K hK => ?_); go_simp; refine hK _ ?_; clear hK K))); refine wpStill_nil ?_; obtain rfl := HopsG.out; clear HopsG)
    go_wp2_with (go_at_call 40; refine (need_false l rb D _ (by exact H.out.below (below_drewN ((Below.refl _ _).alloc (Nat.le_refl _) _) 1)) n hn).mono ?_; rintro e w' ⟨rfl, rfl⟩)
    exact ⟨rfl, rfl, below_drewN ((Below.refl _ _).alloc (Nat.le_refl _) _) 1⟩
end Go.Proofs.Ytgaginegcjpddaa
/- Maps from words to small numbers, that a call makes and looks into. No program in sight. -/
namespace Go.Proofs.Ytgaginegcjpddaa
open Go.RowKit Go.WideMaps Go.Maps
/-- what has been put in, the latest first -/
def smapR : List (ByteArray × Int) → DataW Unit
  | [] => .map []
  | p :: r => (smapR r).put (.string p.1.data.toList) (.lit (.int .u8 p.2))
def lookR : List (ByteArray × Int) → ByteArray → Option Int
  | [], _ => none
  | p :: r, s => if p.1 = s then some p.2 else lookR r s
theorem smapR_is : ∀ es, IsMap (smapR es)
  | [] => ⟨[], rfl⟩
  | p :: r => (smapR_is r).put _ _
theorem str_ne {a b : ByteArray} (h : a ≠ b) : (Lit.string b.data.toList) ≠ .string a.data.toList := by
  intro e
  apply h
  simp only [Lit.string.injEq] at e
  cases a with | mk x => cases b with | mk y =>
  simp only at e
  have := Array.toList_inj.1 e
  rw [this]
theorem smapR_at (s : ByteArray) : ∀ es, (smapR es).atKey (.string s.data.toList) (.lit (.int .u8 0)) = .lit (.int .u8 ((lookR es s).getD 0))
  | [] => rfl
  | p :: r => by
    unfold smapR lookR
    by_cases h : p.1 = s
    · rw [if_pos h, h, atKey_put_same (smapR_is r) (by trivial)]; rfl
    · rw [if_neg h, atKey_put_other (str_ne h)]; exact smapR_at s r
theorem smapR_has (s : ByteArray) : ∀ es, has (smapR es) (.string s.data.toList) = (lookR es s).isSome
  | [] => rfl
  | p :: r => by
    unfold smapR lookR
    by_cases h : p.1 = s
    · rw [if_pos h, h, has_put_same (smapR_is r) (by trivial)]; rfl
    · rw [if_neg h, has_put_other (str_ne h)]; exact smapR_has s r
structure SMapTy (P : Program) (t k e : TypeId) : Prop where
  ty : P.underlying t = some (.map k e)
  key : P.underlying k = some .string
  elem : P.underlying e = some (.int .u8)
def SMap (w : World) (P : Program) (k e b : Nat) (es : List (ByteArray × Int)) : Prop := w.ownsMap P k (plainElem P e) b es.length (smapR es)
theorem SMap.new (w : World) (P : Program) (k e : Nat) : SMap (w.alloc (.map #[] 0)) P k e w.heap.size [] := World.ownsMap_made w P k _
theorem SMap.kept {w w' : World} {P : Program} {k e b : Nat} {es : List (ByteArray × Int)} (h : SMap w P k e b es) (hb : w'.heap[b]? = w.heap[b]?) : SMap w' P k e b es := by
  obtain ⟨xs, c, h1, h2, h3, h4⟩ := h
  exact ⟨xs, c, hb.trans h1, h2, h3, h4⟩
theorem SMap.lt {w : World} {P : Program} {k e b : Nat} {es : List (ByteArray × Int)} (h : SMap w P k e b es) : b < w.heap.size := by
  obtain ⟨xs, c, h1, _⟩ := h
  exact blk_lt h1
theorem wpList_smap_put {P : Program} {w : World} {ops : Array Oper} {rest : List Oper} {o : Oper} {a : Act} {Q : Exit → Act → World → Prop} {t k e : TypeId} (T : SMapTy P t k e)
    (hg : o.guard = none) (m x v : Operand) (hop : o.op = .mapUpdate t m x v ∨ o.op = .insert t m x v) (b : Nat) (es : List (ByteArray × Int)) (hm : a.eval m = .map (some b)) (hown : SMap w P k e b es) (hn : es.length < maxLen) (s : ByteArray) (i : Int) (hx : a.eval x = .string s) (hv : a.eval v = .int .u8 i)
    (hs : s.size ≤ maxLen) (hi : (Lit.int .u8 i).wf = true)
    (hK : ∀ w', SMap w' P k e b ((s, i) :: es) → w.grownBy w' (some b) → wpList P ops Q rest (a.put o.dst undef) w') : wpList P ops Q (o :: rest) a w := by
  refine wpList_plain hg fun K' hK' => ?_
  obtain ⟨w', hrun, r1, r2⟩ := hown.update (string_keyed T.key) T.ty hn (keyOf_string_mk T.key hs) (plainElem_int (H := Unit) T.elem hi)
  unfold Oper.wp
  rcases hop with hop | hop
  · simp [execOp, hop, hm, hx, hv, hrun, Result.andThen]
    exact hK' _ _ (hK w' r1 r2)
  · simp [execOp, hop, hm, hx, hv, hrun, Result.andThen]
    exact hK' _ _ (hK w' r1 r2)
theorem wpList_smap_get {P : Program} {w : World} {ops : Array Oper} {rest : List Oper} {o : Oper} {a : Act} {Q : Exit → Act → World → Prop} {t k e : TypeId} (T : SMapTy P t k e)
    (hg : o.guard = none) (m x : Operand) (hop : o.op = .lookup t m x true) (hz : (zeroValue e).run P w = .ok (.int .u8 0) w) (b : Nat) (es : List (ByteArray × Int)) (hm : a.eval m = .map (some b)) (hown : SMap w P k e b es) (s : ByteArray) (hx : a.eval x = .string s)
    (hs : s.size ≤ maxLen)
    (hK : wpList P ops Q rest (a.put o.dst (.tuple #[.int .u8 ((lookR es s).getD 0), .bool (lookR es s).isSome])) w) : wpList P ops Q (o :: rest) a w := by
  refine wpList_lookup_own_ok_int w hg m x t hop k e .u8 (string_keyed T.key) T.ty T.elem hz b es.length (smapR es) hm hown (.string s) (.string s.data.toList) hx (keyOf_string_mk T.key hs) fun c hc _ => ?_
  rw [smapR_at] at hc
  have hc' : (lookR es s).getD 0 = c := by simpa using hc
  rw [smapR_has, ← hc']
  exact hK
theorem smap_new (w : World) (P : Program) (k e b : Nat) (hb : b = w.heap.size) : SMap (w.alloc (.map #[] 0)) P k e b [] := by subst hb; exact SMap.new w P k e
end Go.Proofs.Ytgaginegcjpddaa
