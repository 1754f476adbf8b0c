/- What the program's tree.need and parser.add come to. -/
import Derived.Test.YtgaginegcjpddaaQt2
import Derived.StillTailTactics
import Derived.Deep.CutBlock
import Derived.Recover
import Derived.RangeFuncNested
import Derived.RangeFuncBound
import Derived.RangeFuncCalls
import Derived.RangeFuncLeaves
import Derived.Shelf.Abstract
import Derived.Shelf.RegionOpen
import Derived.OwnWalkIn
import Derived.TacticsInMore
import Derived.LoopNIn
import Derived.LoopIn
import Derived.StillTail
set_option linter.unusedVariables false
set_option linter.unusedSimpArgs false
namespace Go.Proofs.Ytgaginegcjpddaa
open Go.RowKit
/-- what tree.need gives up with -/
def treeWrong (pos why : Int) : List PanicEntry := [{ v := .iface 127 (.agg #[.int .i64 pos, .int .i64 why]), recovered := false }]
theorem need_any (b : Bool) (pos why : Int) (w : World) : Calls Try.prog 52 #[.bool b, .int .i64 pos, .int .i64 why] w fun e w' => (if b then e = .returned (.tuple #[]) else e = .panicked (treeWrong pos why)) ∧ w' = w := by
  go_enter Try.func52, Try.ntmps52
  cases b
  · go_wp2
    exact ⟨rfl, rfl, rfl⟩
  · go_wp2
    go_end0
    exact ⟨rfl, rfl⟩
theorem need_yes (pos why : Int) (w : World) : Calls Try.prog 52 #[.bool true, .int .i64 pos, .int .i64 why] w fun e w' => e = .returned (.tuple #[]) ∧ w' = w := (need_any true pos why w).mono fun e w' h => by simpa using h
theorem need_no (pos why : Int) (w : World) : Calls Try.prog 52 #[.bool false, .int .i64 pos, .int .i64 why] w fun e w' => e = .panicked (treeWrong pos why) ∧ w' = w := (need_any false pos why w).mono fun e w' h => by simpa using h
structure PSt where
  l : List Form
  top : List Int
  opn : List Int
def last0 (l : List Int) : Int := nth l (l.length - 1)
def add1 (s : PSt) (f : Form) : PSt :=
  if s.opn.length = 0 then { l := s.l ++ [f], top := s.top ++ [(s.l.length : Int)], opn := s.opn }
  else { l := (s.l ++ [f]).set (last0 s.opn).toNat { nth (s.l ++ [f]) (last0 s.opn).toNat with kids := (nth (s.l ++ [f]) (last0 s.opn).toNat).kids ++ [(s.l.length : Int)] }, top := s.top, opn := s.opn }
def addP (s : PSt) (f : Form) : PSt :=
  if f.kind = 1 then { add1 s f with opn := s.opn ++ [(s.l.length : Int)] } else add1 s f
/-- the parser in memory -/
structure PX (w : World) (lo : Nat) (ex : Nat → Prop) (pb : Nat) (S : Nat → Value) (s : PSt) : Prop where
  blk : w.heap[pb]? = some (.cells #[S 0, S 1, S 2] 131 (0, 0))
  ft : FT w lo ex S s.l s.top s.opn
  ex : ex pb
  lo : lo ≤ pb
theorem PX.alloc {w : World} {lo : Nat} {ex : Nat → Prop} {pb : Nat} {S : Nat → Value} {s : PSt} (h : PX w lo ex pb S s) (o : Obj) : PX (w.alloc o) lo (fun b => ex b ∨ b = w.heap.size) pb S s :=
  ⟨old_blk h.blk o, h.ft.alloc o, .inl h.ex, h.lo⟩
theorem PX.below {w w' : World} {lo : Nat} {ex : Nat → Prop} {pb : Nat} {S : Nat → Value} {s : PSt} (h : PX w lo ex pb S s) (hb : Below w.heap.size w w') : PX w' lo ex pb S s :=
  ⟨keep_blk hb h.blk, h.ft.below hb, h.ex, h.lo⟩
theorem PX.less {w : World} {lo : Nat} {ex ex' : Nat → Prop} {pb : Nat} {S : Nat → Value} {s : PSt} (h : PX w lo ex pb S s) (he : ∀ b, ex' b → ex b) (hp : ex' pb) : PX w lo ex' pb S s :=
  ⟨h.blk, h.ft.less he, hp, h.lo⟩
theorem PX.no {w : World} {lo : Nat} {ex : Nat → Prop} {pb : Nat} {S : Nat → Value} {s : PSt} (h : PX w lo ex pb S s) {b : Nat} (hb : ex b) (i : Nat) : (S i).ownBlock ≠ some b := fun e => (h.ft.low i b e).2 hb
/-- what an append at one of the slots leaves alone -/
theorem PX.lows {w w1 : World} {lo : Nat} {ex : Nat → Prop} {pb : Nat} {S : Nat → Value} {s : PSt} (h : PX w lo ex pb S s) {α : Type} {k e size : Nat} {R : α → List Value → Prop} {l0 m : List α} {g cap : Nat} (hG : Grew w w1 (S k) e size R l0 m g cap) {p : Addr} (hp : lo ≤ p.block) (v : Value) : Below lo w (w1.setCell p v) :=
  ⟨hG.grown.os, hG.grown.tape, hG.grown.output, by simpa using hG.grown.size, fun i hi => (Below.heap_setCell _ _ _ _ (by omega)).trans (hG.grown.block i (by have := h.ft.lows.1; omega) (fun e => by have := (h.ft.low k i e.symm).1; omega))⟩
theorem PX.keeps {w w1 : World} {lo : Nat} {ex : Nat → Prop} {pb : Nat} {S : Nat → Value} {s : PSt} (h : PX w lo ex pb S s) {α : Type} {k e size : Nat} {R : α → List Value → Prop} {l0 m : List α} {g cap : Nat} (hG : Grew w w1 (S k) e size R l0 m g cap) {b : Nat} {o : Obj} (hb : w.heap[b]? = some o) (hx : ex b) {p : Addr} (hp : b ≠ p.block) (v : Value) : (w1.setCell p v).heap[b]? = some o :=
  set_blk (hG.keep hb (h.no hx k)) p v hp
theorem PX.form {w w1 : World} {lo : Nat} {ex : Nat → Prop} {pb : Nat} {S : Nat → Value} {s : PSt} (h : PX w lo ex pb S s) {f : Form} (hf : f.kids = []) {g cap : Nat} (hG : Grew w w1 (S 0) 93 5 (FormC S) s.l.zipIdx (s.l.zipIdx ++ [(f, s.l.length)]) g cap) :
    PX (w1.setCell ⟨pb, 0, none⟩ (.slice (some ⟨g, 0, none⟩) (s.l.length + 1) cap)) lo ex pb (up S 0 (.slice (some ⟨g, 0, none⟩) (s.l.length + 1) cap)) { s with l := s.l ++ [f] } :=
  ⟨by have := blk_set (j := 0) (hG.keep h.blk (h.no h.ex 0)) (.slice (some ⟨g, 0, none⟩) (s.l.length + 1) cap); simpa [up] using this, (h.ft.form hf hG).setEx h.ex 0 _, h.ex, h.lo⟩
theorem PX.top {w w1 : World} {lo : Nat} {ex : Nat → Prop} {pb : Nat} {S : Nat → Value} {s : PSt} (h : PX w lo ex pb S s) {x : Int} {g cap : Nat} (hG : Grew w w1 (S 1) 3 1 IntR s.top (s.top ++ [x]) g cap) :
    PX (w1.setCell ⟨pb, 1, none⟩ (.slice (some ⟨g, 0, none⟩) (s.top.length + 1) cap)) lo ex pb (up S 1 (.slice (some ⟨g, 0, none⟩) (s.top.length + 1) cap)) { s with top := s.top ++ [x] } :=
  ⟨by have := blk_set (j := 1) (hG.keep h.blk (h.no h.ex 1)) (.slice (some ⟨g, 0, none⟩) (s.top.length + 1) cap); simpa [up] using this, by
    have := (h.ft.push 0 (by omega) hG).setEx h.ex 1 (.slice (some ⟨g, 0, none⟩) (s.top.length + 1) cap)
    simpa using this, h.ex, h.lo⟩
theorem PX.opn {w w1 : World} {lo : Nat} {ex : Nat → Prop} {pb : Nat} {S : Nat → Value} {s : PSt} (h : PX w lo ex pb S s) {x : Int} {g cap : Nat} (hG : Grew w w1 (S 2) 3 1 IntR s.opn (s.opn ++ [x]) g cap) :
    PX (w1.setCell ⟨pb, 2, none⟩ (.slice (some ⟨g, 0, none⟩) (s.opn.length + 1) cap)) lo ex pb (up S 2 (.slice (some ⟨g, 0, none⟩) (s.opn.length + 1) cap)) { s with opn := s.opn ++ [x] } :=
  ⟨by have := blk_set (j := 2) (hG.keep h.blk (h.no h.ex 2)) (.slice (some ⟨g, 0, none⟩) (s.opn.length + 1) cap); simpa [up] using this, by
    have := (h.ft.push 1 (by omega) hG).setEx h.ex 2 (.slice (some ⟨g, 0, none⟩) (s.opn.length + 1) cap)
    simpa using this, h.ex, h.lo⟩
theorem PX.kid {w w1 : World} {lo : Nat} {ex : Nat → Prop} {pb : Nat} {S : Nat → Value} {s : PSt} (h : PX w lo ex pb S s) {j : Nat} (hj : j < s.l.length) {x : Int} {b n c : Nat} (h0 : S 0 = .slice (some ⟨b, 0, none⟩) n c) {g cap : Nat} (hG : Grew w w1 (S (j + 3)) 3 1 IntR (nth s.l j).kids ((nth s.l j).kids ++ [x]) g cap) :
    PX (w1.setCell ⟨b, j * 5 + 3, none⟩ (.slice (some ⟨g, 0, none⟩) ((nth s.l j).kids.length + 1) cap)) lo ex pb (up S (j + 3) (.slice (some ⟨g, 0, none⟩) ((nth s.l j).kids.length + 1) cap)) { s with l := s.l.set j { nth s.l j with kids := (nth s.l j).kids ++ [x] } } := by
  have hG' : Grew w w1 (S (j + 2 + 1)) 3 1 IntR (ints s.l s.top s.opn (j + 2)) ((nth s.l j).kids ++ [x]) g cap := hG
  have hpb : b ≠ pb := fun e => h.no h.ex 0 (by rw [h0, e]; rfl)
  have hlen : ((nth s.l j).kids ++ [x]).length = (nth s.l j).kids.length + 1 := by simp
  refine ⟨?_, ?_, h.ex, h.lo⟩
  · have := set_blk (hG.keep h.blk (h.no h.ex (j + 3))) ⟨b, j * 5 + 3, none⟩ (.slice (some ⟨g, 0, none⟩) ((nth s.l j).kids.length + 1) cap) (Ne.symm hpb)
    simpa [up] using this
  · refine (h.ft.grewI hG').kid hj (m := (nth s.l j).kids ++ [x]) ?_ (grew_fresh h.ft hG) h0
    have := hG.own
    rw [hlen] at this
    exact this
/-- the cells of the form that stands at a place -/
theorem PX.formAt {w : World} {lo : Nat} {ex : Nat → Prop} {pb : Nat} {S : Nat → Value} {s : PSt} (h : PX w lo ex pb S s) {j : Nat} (hj : j < s.l.length) : ∃ b c, S 0 = .slice (some ⟨b, 0, none⟩) s.l.length c ∧ s.l.length ≤ c ∧ c ≤ 9223372036854775807 ∧ b < w.heap.size ∧
    (∀ i v, ((nth s.l j).cells (S (j + 3)))[i]? = some v → w.cell? ⟨b, j * 5 + i, none⟩ = some v) ∧ ∀ i, w.frozen? ⟨b, i, none⟩ = false := by
  obtain ⟨xs, ho, hc⟩ := h.ft.forms.out
  rcases ho.2 with ⟨_, h2⟩ | ⟨g, cap, cur, h1, _, hg, h2, h3, _⟩
  · rw [List.length_zipIdx] at h2; omega
  · refine ⟨g, cap, by simpa using h1, by simpa using h2, by simpa [maxLen] using h3, blk_lt hg, fun i v hv => ?_, fun i => blk_free hg i⟩
    obtain ⟨cs, hr, hl, hcs⟩ := hc.at_ (fun _ _ h => h.len) j (by simpa using hj)
    rw [nth_zipIdx hj] at hr
    have hr' : cs = (nth s.l j).cells (S (j + 3)) := hr
    subst hr'
    have := ho.cells (g := g) (by rw [h1]; rfl) (j * 5 + i) v (hcs i v hv)
    rwa [add_plain'] at this
structure PWf (s : PSt) : Prop where
  opn : ∀ k ∈ s.opn, 0 ≤ k ∧ k < s.l.length
  l400 : s.l.length ≤ 400
  o12 : s.opn.length ≤ 12
  t400 : s.top.length ≤ s.l.length
  kids : ∀ f ∈ s.l, f.kids.length ≤ s.l.length
theorem pt_parser0 : PushTy Try.prog 131 0 0 29 93 5 64 := ⟨ty_Form, by intros; simp [go_sem], by intro a v w h; simp [go_sem, h], by intro a p n c w u h1 h2; simp [go_sem, h1, h2]⟩
theorem pt_parser1 : PushTy Try.prog 131 1 1 25 3 1 8 := ⟨ty_int, by intros; simp [go_sem], by intro a v w h; simp [go_sem, h], by intro a p n c w u h1 h2; simp [go_sem, h1, h2]⟩
theorem pt_parser2 : PushTy Try.prog 131 2 2 25 3 1 8 := ⟨ty_int, by intros; simp [go_sem], by intro a v w h; simp [go_sem, h], by intro a p n c w u h1 h2; simp [go_sem, h1, h2]⟩
theorem pt_form3 : PushTy Try.prog 93 3 3 25 3 1 8 := ⟨ty_int, by intros; simp [go_sem], by intro a v w h; simp [go_sem, h], by intro a p n c w u h1 h2; simp [go_sem, h1, h2]⟩
set_option maxHeartbeats 1600000 in
set_option maxRecDepth 100000 in
theorem addP_any (s : PSt) (f : Form) (w : World) (lo pb : Nat) (ex : Nat → Prop) (S : Nat → Value) (h : PX w lo ex pb S s) (hwf : PWf s) (hl : s.l.length < 400) (hk : f.kids = []) :
    Calls Try.prog 74 #[.pointer (some ⟨pb, 0, none⟩), .agg (f.cells nilv).toArray] w fun e w' => e = .returned (.tuple #[]) ∧ (∃ S', PX w' lo ex pb S' (addP s f)) ∧ Below lo w w' := by
  have q0 := blk_cell h.blk; have qf := blk_free h.blk
  have hpl := blk_lt h.blk
  have hlo := h.lo; have hlw := h.ft.lows.1
  obtain ⟨A0, c0, e0, _⟩ := h.ft.forms.slice
  obtain ⟨A1, c1, e1, _⟩ := (h.ft.rows 0).slice
  obtain ⟨A2, c2, e2, _⟩ := (h.ft.rows 1).slice
  rw [e0, e1, e2] at q0
  clear e0 e1 e2
  simp only [ints, List.length_zipIdx] at q0
  unfold nilv
  go_enter Try.func74, Try.ntmps74
  go_upto_region 2 with fail
  have h1 := h.alloc (Obj.cells (f.cells (Value.slice none 0 0)).toArray 93)
  have hn1 := new_blk w (Obj.cells (f.cells (Value.slice none 0 0)).toArray 93)
  have hB1 : Below lo w (w.alloc (Obj.cells (f.cells (Value.slice none 0 0)).toArray 93)) := (Below.refl _ _).alloc hlw _
  refine wp_push pt_parser0 (by kernel_rfl) 0 11 _ (by kernel_rfl) (by rfl) (by rfl) (by rfl) (by omega) (R := FormC S) pb 0 (S 0) (.agg (f.cells nilv).toArray) (f.cells nilv) s.l.zipIdx (f, s.l.length) rfl (blk_cell h1.blk 0) (blk_free h1.blk 0) (h1.no h1.ex 0) h1.ft.forms ?el ?bs
    (by simp [FormC, h.ft.out s.l.length (Nat.le_refl _)]) rfl (by simp [Form.cells, nilv, Value.oneCell']) (by simp; omega) (by simp; omega) ?q
  case el =>
    intro a w' o5 ho hFr hgr
    have hb := (hgr.block w.heap.size (by simp) (fun e => h1.no (.inr rfl) 0 e.symm)).trans hn1
    have hc := blk_cell hb
    have ht : a.tmps.getD 3 undef = _ := hFr.get 3 (by rfl)
    simp only [Array.getD_eq_getD_getElem?] at ht
    simp [execOp, ho, go_sem, Act.eval, ht, hc, Form.cells, nilv]
  case bs => intro w'; simp [go_sem, Form.cells, nilv]
  case q =>
    intro B g cap w1 hG
    have h2 := h1.form hk hG
    have hn2 := h1.keeps hG hn1 (.inr rfl) (p := ⟨pb, 0, none⟩) (show w.heap.size ≠ pb by omega) (.slice (some ⟨g, 0, none⟩) (s.l.length + 1) cap)
    have hB2 := hB1.trans (h1.lows hG (p := ⟨pb, 0, none⟩) hlo (.slice (some ⟨g, 0, none⟩) (s.l.length + 1) cap))
    simp only [pushAct, Nat.add_zero, Nat.zero_add, Nat.reduceAdd, List.length_zipIdx]
    generalize w1.setCell ⟨pb, 0, none⟩ (.slice (some ⟨g, 0, none⟩) (s.l.length + 1) cap) = w2 at h2 hn2 hB2 ⊢
    obtain ⟨S2, hS2⟩ : ∃ S2, up S 0 (.slice (some ⟨g, 0, none⟩) (s.l.length + 1) cap) = S2 := ⟨_, rfl⟩
    rw [hS2] at h2
    clear hG hS2 hn1 q0 qf h1 hB1
    have q2 := blk_cell h2.blk; have qf2 := blk_free h2.blk
    obtain ⟨A0', c0', e0, _⟩ := h2.ft.forms.slice
    obtain ⟨A1', c1', e1, _⟩ := (h2.ft.rows 0).slice
    obtain ⟨A2', c2', e2, _⟩ := (h2.ft.rows 1).slice
    have E0 := hid e0; have E2 := hid e2
    rw [e0, e1, e2] at q2
    clear e0 e1 e2
    simp only [ints, List.length_append, List.length_singleton, List.length_zipIdx] at q2
    go_upto_if 26 with fail
    go_cut [] (fun wx => ∃ S3, PX wx lo (fun b => ex b ∨ b = w.heap.size) pb S3 (add1 s f) ∧ Below lo w wx ∧ wx.heap[w.heap.size]? = some (.cells (f.cells nilv).toArray 93 (0, 0)))
    case first =>
      have hnlt := blk_lt hn2
      by_cases ho : s.opn.length = 0
      · go_upto_region 4 with fail
        refine wp_push pt_parser1 (by kernel_rfl) 0 27 _ (by kernel_rfl) (by rfl) (by rfl) (by rfl) (by omega) (R := IntR) pb 0 (S2 1) (.int .i64 (s.l.length : Int)) [.int .i64 (s.l.length : Int)] s.top (s.l.length : Int) rfl (blk_cell h2.blk 1) (blk_free h2.blk 1) (h2.no h2.ex 1) (h2.ft.rows 0) ?el ?bs rfl rfl (by simp [Value.oneCell']) (by have := hwf.t400; omega) (by have := hwf.t400; omega) ?q
        case el =>
          intro a w' o5 ho5 hFr hgr
          have ht : a.tmps.getD 4 undef = _ := hFr.get 4 (by rfl)
          simp only [Array.getD_eq_getD_getElem?] at ht
          simp [execOp, ho5, go_sem, Act.eval, ht]
        case bs => intro w'; simp [go_sem]
        case q =>
          intro B g cap w3 hG
          simp only [pushAct, Nat.reduceAdd, Nat.zero_add, Nat.add_zero]
          go_wp2_with fail
          go_meet
          exact ⟨_, by rw [add1, if_pos ho]; exact h2.top hG, hB2.trans (h2.lows hG (p := ⟨pb, 1, none⟩) hlo _), h2.keeps hG hn2 (.inr rfl) (p := ⟨pb, 1, none⟩) (show w.heap.size ≠ pb by omega) _⟩
      · have hop : s.opn.length - 1 < s.opn.length := by omega
        have hlast := hwf.opn _ (nth_mem hop)
        obtain ⟨j, hj⟩ : ∃ j : Nat, last0 s.opn = j := ⟨(last0 s.opn).toNat, by unfold last0; omega⟩
        have hjl : j < (s.l ++ [f]).length := by unfold last0 at hj; simp; omega
        obtain ⟨b, c, es, hc1, hc2, hblt, hcells, hfrz⟩ := h2.formAt hjl
        have h0 := E0.out
        rw [es] at h0
        simp only [Value.slice.injEq] at h0
        obtain ⟨rfl, _, rfl⟩ := h0
        have hO := (h2.ft.rows 1).row (D := fun _ => True) (fun _ _ h => h.len) (fun _ _ => trivial)
        obtain ⟨bo, oo, co, eo, ho1, ho2, _, hbo, hcell⟩ := Ints.at_ hO (s.opn.length - 1) (by simpa [ints] using hop)
        have h3 := E2.out
        rw [eo] at h3
        simp only [Value.slice.injEq] at h3
        obtain ⟨rfl, _, rfl⟩ := h3
        have hcell' : w2.cell? ⟨bo, oo + (s.opn.length - 1), none⟩ = some (.int .i64 (j : Int)) := by rw [hcell]; simp only [ints]; rw [← hj]; rfl
        have hlen1 : ((s.opn.length : Int) - 1).toNat = s.opn.length - 1 := by omega
        have hw1 : IntKind.i64.wrap ((s.opn.length : Int) - 1) = (s.opn.length : Int) - 1 := i64w (by omega) (by have := hwf.o12; omega)
        have hob : ((s.opn.length : Int) == 0) = false := by rw [beq_eq_false_iff_ne]; omega
        have ho12 := hwf.o12
        simp only [List.length_append, List.length_singleton] at hjl
        clear hcell hlast hO
        go_upto_region 5 with fail
        go_quiet (fail)
        go_upto_region 6 with fail
        have h2d := h2.below (below_drewN (Below.refl w2.heap.size w2) nq)
        have hB2d := below_drewN hB2 nq
        have hn2d : (w2.drewN nq).heap[w.heap.size]? = _ := hn2
        have hkl : (nth (s.l ++ [f]) j).kids.length ≤ 400 := by
          rcases Nat.lt_or_ge j s.l.length with hjs | hjs
          · rw [nth_append_left hjs]; have := hwf.kids _ (nth_mem hjs); omega
          · rw [show j = s.l.length by omega, nth_append_last, hk]; simp
        refine wp_push pt_form3 (by kernel_rfl) 5 54 _ (by kernel_rfl) (by rfl) (by rfl) (by rfl) (by omega) (R := IntR) b (j * 5) (S2 (j + 3)) (.int .i64 (s.l.length : Int)) [.int .i64 (s.l.length : Int)] (nth (s.l ++ [f]) j).kids (s.l.length : Int) rfl (hcells 3 _ rfl) (hfrz _) ?ne (h2d.ft.rows (j + 2)) ?el ?bs rfl rfl (by simp [Value.oneCell']) (by omega) (by omega) ?q
        case ne => exact fun e => by have := h2d.ft.apart (j + 3) 0 b e (by rw [es]; rfl); omega
        case el =>
          intro a w' o5 ho5 hFr hgr
          have ht : a.tmps.getD 4 undef = _ := hFr.get 4 (by rfl)
          simp only [Array.getD_eq_getD_getElem?] at ht
          simp [execOp, ho5, go_sem, Act.eval, ht]
        case bs => intro w'; simp [go_sem]
        case q =>
          intro B g cap w3 hG
          simp only [pushAct, Nat.reduceAdd, Nat.zero_add, Nat.add_zero]
          go_wp2_with fail
          go_meet
          exact ⟨_, by rw [add1, if_neg ho, hj, Int.toNat_natCast]; exact h2d.kid (by simp; omega) es hG, hB2d.trans (h2d.lows hG (p := ⟨b, j * 5 + 3, none⟩) (by have := (h2d.ft.low 0 b (by rw [es]; rfl)).1; exact this) _), h2d.keeps hG hn2d (.inr rfl) (p := ⟨b, j * 5 + 3, none⟩) (fun e => h2d.no (.inr rfl) 0 (by rw [es]; show some b = _; rw [← show w.heap.size = b from e])) _⟩
    case rest =>
      obtain ⟨S3, h3, hB3, hn3⟩ := hcut
      have q3 := blk_cell h3.blk
      have q4 := blk_cell hn3
      simp only [Form.cells] at q4
      have qf3 := blk_free h3.blk
      have hnlt := blk_lt hn3
      have hpl3 := blk_lt h3.blk
      obtain ⟨A2'', c2'', e2, _⟩ := (h3.ft.rows 1).slice
      have ho12 := hwf.o12
      have hopn : (add1 s f).opn = s.opn := by unfold add1; split <;> rfl
      have hadd : { add1 s f with opn := (add1 s f).opn ++ [(s.l.length : Int)] } = { add1 s f with opn := s.opn ++ [(s.l.length : Int)] } := by rw [hopn]
      have HA := hid hadd
      have HO := hid hopn
      clear hadd hopn
      by_cases hf1 : f.kind = 1
      · have hf1' : (f.kind == 1) = true := by simpa using hf1
        go_upto_region 8 with fail
        refine wp_push pt_parser2 (by kernel_rfl) 0 67 _ (by kernel_rfl) (by rfl) (by rfl) (by rfl) (by omega) (R := IntR) pb 0 (S3 2) (.int .i64 (s.l.length : Int)) [.int .i64 (s.l.length : Int)] (add1 s f).opn (s.l.length : Int) rfl (blk_cell h3.blk 2) (blk_free h3.blk 2) (h3.no h3.ex 2) (h3.ft.rows 1) ?el ?bs rfl rfl (by simp [Value.oneCell']) (by rw [HO.out]; omega) (by rw [HO.out]; omega) ?q
        case el =>
          intro a w' o5 ho5 hFr hgr
          have ht : a.tmps.getD 4 undef = _ := hFr.get 4 (by rfl)
          simp only [Array.getD_eq_getD_getElem?] at ht
          simp [execOp, ho5, go_sem, Act.eval, ht]
        case bs => intro w'; simp [go_sem]
        case q =>
          intro B g cap w3 hG
          simp only [pushAct, Nat.reduceAdd, Nat.zero_add, Nat.add_zero]
          go_wp2_with fail
          go_end0
          have h4 := (h3.opn hG).less (ex' := ex) (fun b hb => .inl hb) h.ex
          rw [HA.out] at h4
          exact ⟨rfl, ⟨_, by rw [addP, if_pos hf1]; exact h4⟩, hB3.trans (h3.lows hG (p := ⟨pb, 2, none⟩) hlo _)⟩
      · have hf1' : (f.kind == 1) = false := by simpa using hf1
        go_wp2_with fail
        go_end0
        exact ⟨rfl, ⟨_, by rw [addP, if_neg hf1]; exact h3.less (fun b hb => .inl hb) h.ex⟩, hB3⟩
end Go.Proofs.Ytgaginegcjpddaa
/- What the program's parser.take comes to. -/
namespace Go.Proofs.Ytgaginegcjpddaa
open Go.RowKit
theorem PX.pop {w : World} {lo : Nat} {ex : Nat → Prop} {pb : Nat} {S : Nat → Value} {s : PSt} (h : PX w lo ex pb S s) {b c : Nat} (h2 : S 2 = .slice (some ⟨b, 0, none⟩) s.opn.length c) (hpos : 0 < s.opn.length) :
    PX (w.setCell ⟨pb, 2, none⟩ (.slice (some ⟨b, 0, none⟩) (s.opn.length - 1) c)) lo ex pb (up S 2 (.slice (some ⟨b, 0, none⟩) (s.opn.length - 1) c)) { s with opn := s.opn.dropLast } := by
  have hr := h.ft.rows 1
  have hr' : Own w 3 1 IntR (.slice (some ⟨b, 0, none⟩) s.opn.length c) s.opn := by rw [← h2]; exact hr
  have hc := Own.cut (m := s.opn.length - 1) (fun _ _ h => h.len) hr' (by omega)
  rw [← List.dropLast_eq_take] at hc
  refine ⟨by have := blk_set (j := 2) h.blk (.slice (some ⟨b, 0, none⟩) (s.opn.length - 1) c); simpa [up] using this, ?_, h.ex, h.lo⟩
  have := (h.ft.slot 1 (by omega) hc (fun b' hb' => .inl (by rw [h2]; exact hb'))).setEx h.ex 2 (.slice (some ⟨b, 0, none⟩) (s.opn.length - 1) c)
  simpa using this
theorem PX.heap {w w' : World} {lo : Nat} {ex : Nat → Prop} {pb : Nat} {S : Nat → Value} {s : PSt} (h : PX w lo ex pb S s) (he : w'.heap = w.heap) : PX w' lo ex pb S s := ⟨by rw [he]; exact h.blk, h.ft.heap he, h.ex, h.lo⟩
def formOf (t : Token) : Form := { kind := t.kind, text := if t.kind = 3 then t.text else ⟨#[]⟩, num := if t.kind = 4 then t.num else 0, kids := [], pos := t.pos }
def takeP (s : PSt) (t : Token) : PSt ⊕ (Int × Int) :=
  if t.kind = 2 then if 0 < s.opn.length then .inl { s with opn := s.opn.dropLast } else .inr (t.pos, 8)
  else if t.kind = 1 ∧ 12 ≤ s.opn.length then .inr (t.pos, 4)
  else if t.kind = 1 ∨ t.kind = 3 ∨ t.kind = 4 then (if s.l.length < 400 then .inl (addP s (formOf t)) else .inr (t.pos, 4))
  else .inl s
/-- how the parser ends a step -/
def TakeEnd (lo : Nat) (ex : Nat → Prop) (pb : Nat) (r : PSt ⊕ (Int × Int)) (e : Ending) (w' : World) : Prop :=
  match r with
  | .inl s' => e = .returned (.tuple #[]) ∧ ∃ S', PX w' lo ex pb S' s'
  | .inr p => e = .panicked (treeWrong p.1 p.2)
set_option maxHeartbeats 800000 in
set_option maxRecDepth 100000 in
theorem takeP_any (s : PSt) (t : Token) (w : World) (lo pb : Nat) (ex : Nat → Prop) (S : Nat → Value) (h : PX w lo ex pb S s) (hwf : PWf s) :
    Calls Try.prog 51 #[.pointer (some ⟨pb, 0, none⟩), t.val] w fun e w' => TakeEnd lo ex pb (takeP s t) e w' ∧ Below lo w w' := by
  have q0 := blk_cell h.blk; have qf := blk_free h.blk
  have hpl := blk_lt h.blk
  have hlo := h.lo; have hlw := h.ft.lows.1
  obtain ⟨A0, c0, e0, _⟩ := h.ft.forms.slice
  obtain ⟨A1, c1, e1, _⟩ := (h.ft.rows 0).slice
  obtain ⟨A2, c2, e2, hc2, hc2'⟩ := (h.ft.rows 1).slice
  rw [e0, e1, e2] at q0
  have E2 := hid e2
  clear e0 e1 e2
  simp only [ints, List.length_zipIdx] at q0 hc2
  have ho12 := hwf.o12
  have hl400 := hwf.l400
  unfold Token.val
  go_enter Try.func51, Try.ntmps51
  go_upto_region 2 with fail
  have g1 := (h.alloc (Obj.cells #[.int .u8 t.kind, .string t.text, .int .i64 t.num, .int .i64 t.pos] 124 (0, 0))).alloc (Obj.cells #[.int .u8 t.kind, .string ⟨#[]⟩, .int .i64 0, .slice none 0 0, .int .i64 t.pos] 93 (0, 0))
  have g2 := old_blk (new_blk w (Obj.cells #[.int .u8 t.kind, .string t.text, .int .i64 t.num, .int .i64 t.pos] 124 (0, 0))) (Obj.cells #[.int .u8 t.kind, .string ⟨#[]⟩, .int .i64 0, .slice none 0 0, .int .i64 t.pos] 93 (0, 0))
  have g3 := new_blk (w.alloc (Obj.cells #[.int .u8 t.kind, .string t.text, .int .i64 t.num, .int .i64 t.pos] 124 (0, 0))) (Obj.cells #[.int .u8 t.kind, .string ⟨#[]⟩, .int .i64 0, .slice none 0 0, .int .i64 t.pos] 93 (0, 0))
  have g4 : Below lo w ((w.alloc (Obj.cells #[.int .u8 t.kind, .string t.text, .int .i64 t.num, .int .i64 t.pos] 124 (0, 0))).alloc (Obj.cells #[.int .u8 t.kind, .string ⟨#[]⟩, .int .i64 0, .slice none 0 0, .int .i64 t.pos] 93 (0, 0))) := ((Below.refl lo w).alloc hlw _).alloc (by rw [World.size_alloc]; omega) _
  rw [World.size_alloc] at g1 g3
  generalize (w.alloc (Obj.cells #[.int .u8 t.kind, .string t.text, .int .i64 t.num, .int .i64 t.pos] 124 (0, 0))).alloc (Obj.cells #[.int .u8 t.kind, .string ⟨#[]⟩, .int .i64 0, .slice none 0 0, .int .i64 t.pos] 93 (0, 0)) = w1 at g1 g2 g3 g4 ⊢
  obtain ⟨tb, htb⟩ : ∃ tb, w.heap.size = tb := ⟨_, rfl⟩
  rw [htb] at g1 g2 g3 ⊢
  have q0 := blk_cell g1.blk; have qf := blk_free g1.blk
  have q2 := blk_cell g2; have q3 := blk_cell g3; have qf3 := blk_free g3
  have hs1 := blk_lt g1.blk; have hs2 := blk_lt g2; have hs3 := blk_lt g3
  obtain ⟨A0, c0, e0, _⟩ := g1.ft.forms.slice
  obtain ⟨A1, c1, e1, _⟩ := (g1.ft.rows 0).slice
  obtain ⟨A2, c2, e2, hc2, hc2'⟩ := (g1.ft.rows 1).slice
  rw [e0, e1, e2] at q0
  have E2 := hid e2
  clear e0 e1 e2
  simp only [ints, List.length_zipIdx] at q0 hc2
  go_upto_block 0 with fail
  go_cut [] (fun wx => (t.kind = 1 ∨ t.kind = 3 ∨ t.kind = 4) ∧ ¬ t.kind = 2 ∧ ¬ (t.kind = 1 ∧ 12 ≤ s.opn.length) ∧ PX wx lo (fun b => (ex b ∨ b = tb) ∨ b = tb + 1) pb S s ∧ wx.heap[tb]? = some (.cells #[.int .u8 t.kind, .string t.text, .int .i64 t.num, .int .i64 t.pos] 124 (0, 0)) ∧ wx.heap[tb + 1]? = some (.cells ((formOf t).cells nilv).toArray 93 (0, 0)) ∧ Below lo w wx)
  case first =>
    by_cases h2 : t.kind = 2
    · have h2b : (t.kind == 2) = true := by simpa using h2
      have H2 := hid h2; clear h2
      go_upto_region 4 with fail
      (refine wp_still_tail 8 (by kernel_rfl) (by kernel_rfl) ?_; simp only [List.take_succ_cons, List.take_zero, List.drop_succ_cons, List.drop_zero]; (repeat (first | (refine wpStill_skip (by rfl) ?_; simp only [Act.put, List.setIfInBounds_toArray, List.set_cons_succ, List.set_cons_zero]) | still_step | (refine wpStill_step (fun K hK => ?_); simp [go_sem, ↓IntWalk.iteOmega, *]; refine hK _ ?_; clear hK K))); refine wpStill_nil ?_)
      by_cases hpos : 0 < s.opn.length
      · go_wp2_with (go_at_call 52; refine (need_yes _ _ _).mono ?_; rintro e w' ⟨rfl, rfl⟩)
        obtain ⟨bo, cap2, es, hk1, hk2, _⟩ := (g1.ft.rows 1).shape.resolve_left (fun e => by rw [show ints s.l s.top s.opn 1 = s.opn from rfl] at e; rw [e.2] at hpos; simp at hpos)
        have e2 := E2.out
        rw [es] at e2
        simp only [Value.slice.injEq] at e2
        obtain ⟨rfl, _, rfl⟩ := e2
        have P1 := (g1.pop es hpos).less (ex' := ex) (fun b hb => .inl (.inl hb)) h.ex
        have PP := hid P1
        clear P1
        obtain ⟨m, hm⟩ : ∃ m, s.opn.length = m + 1 := ⟨s.opn.length - 1, by omega⟩
        have hw1 : IntKind.i64.wrap (m : Int) = (m : Int) := i64w (by omega) (by omega)
        have hw3 : m ≤ cap2 := by omega
        have hm' : s.opn.length - 1 = m := by omega
        (refine wp_still_tail 12 (by kernel_rfl) (by kernel_rfl) ?_; simp only [List.take_succ_cons, List.take_zero, List.drop_succ_cons, List.drop_zero]; (repeat (first | (refine wpStill_skip (by rfl) ?_; simp only [Act.put, List.setIfInBounds_toArray, List.set_cons_succ, List.set_cons_zero]) | still_step | (refine wpStill_step (fun K hK => ?_); simp [go_sem, ↓IntWalk.iteOmega, *]; refine hK _ ?_; clear hK K))); refine wpStill_nil ?_)
        go_wp2
        refine bodyPost_ret (results_none rfl _ _ _) rfl ?_
        refine ⟨?_, (below_drewN g4 2).setCell hlo _⟩
        rw [takeP, if_pos H2.out, if_pos hpos]
        refine ⟨rfl, _, PP.out.heap ?_⟩
        rw [hm']; rfl
      · go_wp2_with (go_at_call 52; refine (need_no _ _ _).mono ?_; rintro e w' ⟨rfl, rfl⟩)
        refine ⟨rfl, ?_, below_drewN g4 1⟩
        rw [takeP, if_pos H2.out, if_neg hpos]
        rfl
    · have h2b : (t.kind == 2) = false := by simpa using h2
      have hnob : ∀ b, b = tb ∨ b = tb + 1 → ∀ i, (S i).ownBlock ≠ some b := fun b hb i => g1.no (by rcases hb with hb | hb; exact .inl (.inr hb); exact .inr hb) i
      by_cases h1 : t.kind = 1
      · have h1b : (t.kind == 1) = true := by simpa using h1
        have H1 := hid h1; clear h1
        go_upto_region 7 with fail
        (refine wp_still_tail 8 (by kernel_rfl) (by kernel_rfl) ?_; simp only [List.take_succ_cons, List.take_zero, List.drop_succ_cons, List.drop_zero]; (repeat (first | (refine wpStill_skip (by rfl) ?_; simp only [Act.put, List.setIfInBounds_toArray, List.set_cons_succ, List.set_cons_zero]) | still_step | (refine wpStill_step (fun K hK => ?_); simp [go_sem, ↓IntWalk.iteOmega, *]; refine hK _ ?_; clear hK K))); refine wpStill_nil ?_)
        by_cases hpos : s.opn.length < 12
        · have hpi : (s.opn.length : Int) < 12 := by omega
          go_wp2_with (go_at_call 52; refine (need_yes _ _ _).mono ?_; rintro e w' ⟨rfl, rfl⟩)
          go_meet
          exact ⟨.inl H1.out, h2, by omega, g1.heap rfl, g2, by show w1.heap[tb + 1]? = _; simpa [formOf, Form.cells, nilv, H1.out] using g3, below_drewN g4 1⟩
        · have hpi : ¬ (s.opn.length : Int) < 12 := by omega
          go_wp2_with (go_at_call 52; refine (need_no _ _ _).mono ?_; rintro e w' ⟨rfl, rfl⟩)
          refine ⟨rfl, ?_, below_drewN g4 1⟩
          rw [takeP, if_neg h2, if_pos ⟨H1.out, by omega⟩]
          rfl
      · have h1b : (t.kind == 1) = false := by simpa using h1
        by_cases h3 : t.kind = 3
        · have h3b : (t.kind == 3) = true := by simpa using h3
          have H3 := hid h3; clear h3
          go_wp2_with fail
          go_meet
          refine ⟨.inr (.inl H3.out), h2, fun e => h1 e.1, ⟨set_blk g1.blk _ _ (show pb ≠ tb + 1 by omega), g1.ft.set _ _ (hnob _ (.inr rfl)), g1.ex, g1.lo⟩, set_blk g2 _ _ (show tb ≠ tb + 1 by omega), ?_, g4.setCell (show lo ≤ tb + 1 by omega) _⟩
          rw [blk_set g3]
          simp [formOf, Form.cells, nilv, H3.out]
        · have h3b : (t.kind == 3) = false := by simpa using h3
          by_cases h4 : t.kind = 4
          · have h4b : (t.kind == 4) = true := by simpa using h4
            have H4 := hid h4; clear h4
            go_wp2_with fail
            go_meet
            refine ⟨.inr (.inr H4.out), h2, fun e => h1 e.1, ⟨set_blk g1.blk _ _ (show pb ≠ tb + 1 by omega), g1.ft.set _ _ (hnob _ (.inr rfl)), g1.ex, g1.lo⟩, set_blk g2 _ _ (show tb ≠ tb + 1 by omega), ?_, g4.setCell (show lo ≤ tb + 1 by omega) _⟩
            rw [blk_set g3]
            simp [formOf, Form.cells, nilv, H4.out]
          · have h4b : (t.kind == 4) = false := by simpa using h4
            go_wp2_with fail
            refine bodyPost_ret (results_none rfl _ _ _) rfl ?_
            refine ⟨?_, g4⟩
            rw [takeP, if_neg h2, if_neg (fun e => h1 e.1), if_neg (fun e => by rcases e with e | e | e; exact h1 e; exact h3 e; exact h4 e)]
            exact ⟨rfl, _, g1.less (fun b hb => .inl (.inl hb)) h.ex⟩
  case rest =>
    obtain ⟨k1, k2, k3, k4, k5, k6, k7⟩ := hcut
    have x0 := blk_cell k4.blk; have x2 := blk_cell k5; have x3 := blk_cell k6
    simp only [Form.cells] at x3
    have y1 := blk_lt k4.blk; have y2 := blk_lt k5; have y3 := blk_lt k6
    obtain ⟨B0, d0, e0, _⟩ := k4.ft.forms.slice
    rw [e0] at x0
    clear e0
    simp only [List.length_zipIdx] at x0
    clear q0 q2 q3 qf qf3
    go_upto_region 12 with fail
    (refine wp_still_tail 8 (by kernel_rfl) (by kernel_rfl) ?_; simp only [List.take_succ_cons, List.take_zero, List.drop_succ_cons, List.drop_zero]; (repeat (first | (refine wpStill_skip (by rfl) ?_; simp only [Act.put, List.setIfInBounds_toArray, List.set_cons_succ, List.set_cons_zero]) | still_step | (refine wpStill_step (fun K hK => ?_); simp [go_sem, ↓IntWalk.iteOmega, *]; refine hK _ ?_; clear hK K))); refine wpStill_nil ?_)
    by_cases hpos : s.l.length < 400
    · have hpi : (s.l.length : Int) < 400 := by omega
      go_upto_region 13 with (go_at_call 52; refine (need_yes _ _ _).mono ?_; rintro e w' ⟨rfl, rfl⟩)
      go_wp2_with (go_at_call 74; refine (addP_any s (formOf t) _ lo pb _ S (k4.heap (w' := wc.drewN 1) rfl) hwf hpos rfl).mono ?_; rintro e w' ⟨rfl, ⟨S', hS'⟩, hb⟩)
      go_end0
      refine ⟨?_, (below_drewN k7 1).trans hb⟩
      rw [takeP, if_neg k2, if_neg k3, if_pos k1, if_pos hpos]
      exact ⟨rfl, _, hS'.less (fun b hb => .inl (.inl hb)) h.ex⟩
    · have hpi : ¬ (s.l.length : Int) < 400 := by omega
      go_wp2_with (go_at_call 52; refine (need_no _ _ _).mono ?_; rintro e w' ⟨rfl, rfl⟩)
      refine ⟨rfl, ?_, below_drewN k7 1⟩
      rw [takeP, if_neg k2, if_neg k3, if_pos k1, if_neg hpos]
      rfl
end Go.Proofs.Ytgaginegcjpddaa
/- What the program's tree.Parse comes to. -/
namespace Go.Proofs.Ytgaginegcjpddaa
open Go.RowKit
theorem assert_same {P : Program} {T xT : TypeId} {u : TypeDesc} (hu : P.underlying T = some u) (hn : (match u with | .interface _ => false | _ => true) = true) (v : Value) (w : World) : (Instr.typeAssert (.iface T v) xT T true).run P w = .ok (.tuple #[v, .bool true]) w := by
  unfold Instr.typeAssert
  cases u <;> simp_all [run_underlying hu, Result.andThen]
set_option maxHeartbeats 800000 in
set_option maxRecDepth 100000 in
theorem catchParse (b0 b1 b2 b3 : Nat) (v0 v1 v2 v3 : Value) (pos why : Int) (w : World) (lo : Nat)
    (h0 : w.heap[b0]? = some (.cells #[v0] 29 (0, 0))) (h1 : w.heap[b1]? = some (.cells #[v1] 25 (0, 0))) (h2 : w.heap[b2]? = some (.cells #[v2] 3 (0, 0))) (h3 : w.heap[b3]? = some (.cells #[v3] 30 (0, 0)))
    (hn : b0 ≠ b1 ∧ b0 ≠ b2 ∧ b0 ≠ b3 ∧ b1 ≠ b2 ∧ b1 ≠ b3 ∧ b2 ≠ b3) (hlo : lo ≤ b0 ∧ lo ≤ b1 ∧ lo ≤ b2 ∧ lo ≤ b3) :
    CallsD Try.prog 50 #[.pointer (some ⟨b0, 0, none⟩), .pointer (some ⟨b1, 0, none⟩), .pointer (some ⟨b2, 0, none⟩), .pointer (some ⟨b3, 0, none⟩)] (.panicking (treeWrong pos why)) w fun e u' w' =>
      e = .returned (.tuple #[]) ∧ u' = .panicking [{ v := .iface 127 (.agg #[.int .i64 pos, .int .i64 why]), recovered := true }] ∧ Below lo w w' ∧
      w'.heap[b0]? = some (.cells #[nilv] 29 (0, 0)) ∧ w'.heap[b1]? = some (.cells #[nilv] 25 (0, 0)) ∧ w'.heap[b2]? = some (.cells #[.int .i64 pos] 3 (0, 0)) ∧ w'.heap[b3]? = some (.cells #[.int .i64 why] 30 (0, 0)) := by
  have q0 := blk_cell h0; have q1 := blk_cell h1; have q2 := blk_cell h2; have q3 := blk_cell h3
  have f0 := blk_free h0; have f1 := blk_free h1; have f2 := blk_free h2; have f3 := blk_free h3
  have l0 := blk_lt h0; have l1 := blk_lt h1; have l2 := blk_lt h2; have l3 := blk_lt h3
  have H0 := hid h0; have H1 := hid h1; have H2 := hid h2; have H3 := hid h3
  clear h0 h1 h2 h3
  obtain ⟨n1, n2, n3, n4, n5, n6⟩ := hn
  refine callsD_of_wpS Try.func50 rfl fun c₀ cs hu => ?_
  unfold treeWrong at hu
  simp only [Try.ntmps50, List.size_toArray, List.length_cons, List.length_nil, Nat.reduceAdd, Nat.reduceSub, Array.replicate_succ, Array.replicate_zero, List.push_toArray, List.append_toArray, List.nil_append, List.cons_append]
  apply wpS_seq
  apply wpS_region
  simp [wpOpsS, go_sem, recoverD, hu, Exit.thenS]
  refine wpS_of_wp ?_
  clear hu
  have hta := fun (xT : TypeId) (v : Value) (w : World) => assert_same (P := Try.prog) (T := 127) (xT := xT) Try.underlying127 rfl v w
  go_upto_region 5 with fail
  have g0 := old_blk H0.out (Obj.cells #[.int .i64 pos, .int .i64 why] 127 (0, 0))
  have g1 := old_blk H1.out (Obj.cells #[.int .i64 pos, .int .i64 why] 127 (0, 0))
  have g2 := old_blk H2.out (Obj.cells #[.int .i64 pos, .int .i64 why] 127 (0, 0))
  have g3 := old_blk H3.out (Obj.cells #[.int .i64 pos, .int .i64 why] 127 (0, 0))
  have g4 := new_blk w (Obj.cells #[.int .i64 pos, .int .i64 why] 127 (0, 0))
  have gB : Below lo w (w.alloc (Obj.cells #[.int .i64 pos, .int .i64 why] 127 (0, 0))) := (Below.refl lo w).alloc (by omega) _
  generalize w.alloc (Obj.cells #[.int .i64 pos, .int .i64 why] 127 (0, 0)) = w1 at g0 g1 g2 g3 g4 gB ⊢
  obtain ⟨tb, htb⟩ : ∃ tb, w.heap.size = tb := ⟨_, rfl⟩
  rw [htb] at g4 l0 l1 l2 l3 ⊢
  clear q0 q1 q2 q3 f0 f1 f2 f3
  have q0 := blk_cell g0; have q1 := blk_cell g1; have q2 := blk_cell g2; have q3 := blk_cell g3; have q4 := blk_cell g4
  have f0 := blk_free g0; have f1 := blk_free g1; have f2 := blk_free g2; have f3 := blk_free g3
  have m0 : tb ≠ b0 := by omega
  have m1 : tb ≠ b1 := by omega
  have m2 : tb ≠ b2 := by omega
  have m3 : tb ≠ b3 := by omega
  have G0 := hid g0; have G1 := hid g1; have G2 := hid g2; have G3 := hid g3
  clear g0 g1 g2 g3 g4 hta
  go_region
  refine ⟨rfl, _, rfl, _, results_none rfl _ _ _, rfl, rfl, ?_, ?_, ?_, ?_, ?_⟩
  · exact ((((below_drewN gB 1).setCell hlo.1 _).setCell hlo.2.1 _).setCell hlo.2.2.1 _).setCell hlo.2.2.2 _
  · exact set_blk (set_blk (set_blk (blk_set G0.out _) _ _ n1) _ _ n2) _ _ n3
  · exact set_blk (set_blk (blk_set (set_blk G1.out _ _ (Ne.symm n1)) _) _ _ n4) _ _ n5
  · exact set_blk (blk_set (set_blk (set_blk G2.out _ _ (Ne.symm n2)) _ _ (Ne.symm n4)) _) _ _ n6
  · exact blk_set (set_blk (set_blk (set_blk G3.out _ _ (Ne.symm n3)) _ _ (Ne.symm n5)) _ _ (Ne.symm n6)) _
theorem idleParse (b0 b1 b2 b3 : Nat) (w : World) :
    CallsD Try.prog 50 #[.pointer (some ⟨b0, 0, none⟩), .pointer (some ⟨b1, 0, none⟩), .pointer (some ⟨b2, 0, none⟩), .pointer (some ⟨b3, 0, none⟩)] .returning w fun e u' w' => e = .returned (.tuple #[]) ∧ u' = .returning ∧ w' = w := by
  refine callsD_of_wpS Try.func50 rfl fun c₀ cs hu => ?_
  simp only [Try.ntmps50, List.size_toArray, List.length_cons, List.length_nil, Nat.reduceAdd, Nat.reduceSub, Array.replicate_succ, Array.replicate_zero, List.push_toArray, List.append_toArray, List.nil_append, List.cons_append]
  apply wpS_seq
  apply wpS_region
  simp [wpOpsS, go_sem, recoverD, hu, Exit.thenS]
  refine wpS_of_wp ?_
  have hcs : c₀ :: cs = { c₀ with mode := .returning } :: cs := by cases c₀; simp_all
  clear hu
  go_wp2
  refine ⟨rfl, _, hcs, _, results_none rfl _ _ _, rfl, rfl, rfl⟩
end Go.Proofs.Ytgaginegcjpddaa
/- What the program's tree.Parse comes to. -/
namespace Go.Proofs.Ytgaginegcjpddaa
open Go.RowKit
def parseLoop : PSt → List Token → PSt ⊕ (Int × Int)
  | s, [] => .inl s
  | s, t :: r => match takeP s t with
    | .inl s' => parseLoop s' r
    | .inr p => .inr p
def parseS (l : List Token) : List Form × List Int × Int × Int :=
  match parseLoop ⟨[], [], []⟩ l with
  | .inr p => ([], [], p.1, p.2)
  | .inl s => if s.opn.length = 0 then (s.l, s.top, 0, 0) else ([], [], (nth s.l (last0 s.opn).toNat).pos, 8)
theorem last0_in {s : PSt} (h : PWf s) (h0 : 0 < s.opn.length) : 0 ≤ last0 s.opn ∧ last0 s.opn < s.l.length := h.opn _ (nth_mem (by omega))
theorem add1_l {s : PSt} (f : Form) : (add1 s f).l.length = s.l.length + 1 := by unfold add1; split <;> simp
theorem add1_opn {s : PSt} (f : Form) : (add1 s f).opn = s.opn := by unfold add1; split <;> rfl
theorem PWf.add1 {s : PSt} (h : PWf s) {f : Form} (hf : f.kids = []) (hl : s.l.length < 400) : PWf (add1 s f) := by
  refine ⟨fun k hk => ?_, by rw [add1_l]; omega, by rw [add1_opn]; exact h.o12, ?_, ?_⟩
  · rw [add1_opn] at hk; have := h.opn k hk; rw [add1_l]; omega
  · rw [add1_l]; unfold Go.Proofs.Ytgaginegcjpddaa.add1; split
    · have := h.t400; simp; omega
    · have := h.t400; simp; omega
  · intro g hg
    rw [add1_l]
    have key : ∀ x ∈ s.l ++ [f], x.kids.length ≤ s.l.length := by
      intro x hx
      rcases List.mem_append.1 hx with hx | hx
      · exact h.kids x hx
      · simp at hx; subst hx; rw [hf]; simp
    unfold Go.Proofs.Ytgaginegcjpddaa.add1 at hg
    split at hg
    · have := key g hg; omega
    · rename_i h0
      rcases List.mem_or_eq_of_mem_set hg with hg | hg
      · have := key g hg; omega
      · subst hg
        have hj := last0_in h (by omega)
        have := key _ (nth_mem (l := s.l ++ [f]) (i := (last0 s.opn).toNat) (by simp; omega))
        simp; omega
theorem PWf.addP {s : PSt} (h : PWf s) {f : Form} (hf : f.kids = []) (hl : s.l.length < 400) (ho : f.kind = 1 → s.opn.length < 12) : PWf (addP s f) := by
  have h1 := h.add1 hf hl
  unfold Go.Proofs.Ytgaginegcjpddaa.addP
  split
  · rename_i hk
    refine ⟨fun k hk => ?_, h1.l400, by have := ho hk; simp; omega, h1.t400, h1.kids⟩
    simp only [List.mem_append, List.mem_singleton] at hk
    rw [add1_l]
    rcases hk with hk | hk
    · have := h.opn k hk; omega
    · subst hk; omega
  · exact h1
theorem PWf.takeP {s s' : PSt} {t : Token} (h : PWf s) (ht : takeP s t = .inl s') : PWf s' := by
  unfold Go.Proofs.Ytgaginegcjpddaa.takeP at ht
  split at ht
  · split at ht
    · simp only [Sum.inl.injEq] at ht
      subst ht
      exact ⟨fun k hk => h.opn k (List.dropLast_subset _ hk), h.l400, by have := h.o12; simp; omega, h.t400, h.kids⟩
    · cases ht
  · split at ht
    · cases ht
    · rename_i h12
      split at ht
      · split at ht
        · simp only [Sum.inl.injEq] at ht
          subst ht
          exact h.addP rfl (by assumption) (fun e => by
            rcases Nat.lt_or_ge s.opn.length 12 with h | h
            · exact h
            · exact absurd ⟨e, h⟩ h12)
        · cases ht
      · simp only [Sum.inl.injEq] at ht
        subst ht; exact h
/-- forms that are read -/
def FormV (w : World) (D : Nat → Prop) (f : Form) (cs : List Value) : Prop := ∃ kv, cs = f.cells kv ∧ Ints w D kv f.kids
theorem FormV.len {w : World} {D : Nat → Prop} {f : Form} {cs : List Value} (h : FormV w D f cs) : cs.length = 5 := by obtain ⟨_, rfl, _⟩ := h; rfl
def Forms (w : World) (D : Nat → Prop) (v : Value) (l : List Form) : Prop := Row w D (FormV w D) 5 v l
theorem FT.forms_ {w : World} {lo : Nat} {ex : Nat → Prop} {S : Nat → Value} {l : List Form} {top opn : List Int} (h : FT w lo ex S l top opn) {D : Nat → Prop} (hD : ∀ b, lo ≤ b → D b) : Forms w D (S 0) l := by
  have hr := h.forms.row (D := D) (fun _ _ h => h.len) (fun g hg => hD g (h.low 0 g hg).1)
  obtain ⟨A, c, h1, h2, h3, h4⟩ := hr.out
  rw [List.length_zipIdx] at h1 h2 h4
  refine ⟨A, c, h1, h2, h3, fun h0 => ?_⟩
  obtain ⟨b, off, hA, hDb, hall⟩ := h4 h0
  refine ⟨b, off, hA, hDb, fun i hi => ?_⟩
  obtain ⟨cs, hR, hl, hc⟩ := hall i hi
  rw [nth_zipIdx hi] at hR
  refine ⟨cs, ⟨S (i + 3), hR, (h.rows (i + 2)).row (fun _ _ h => h.len) (fun g hg => hD g (h.low _ g hg).1)⟩, hl, hc⟩
end Go.Proofs.Ytgaginegcjpddaa
/- What the program's tree.alone comes to. -/
namespace Go.Proofs.Ytgaginegcjpddaa
open Go.RowKit
def aloneS (f : Form) : Bool :=
  if f.kind == 1 then f.text.toList.isEmpty && f.num == 0
  else if f.kind == 3 then f.num == 0 && (f.kids.length : Int) == 0 && wordKind f.text == 3
  else if f.kind == 4 then f.text.toList.isEmpty && (f.kids.length : Int) == 0
  else false
set_option maxHeartbeats 800000 in
set_option maxRecDepth 100000 in
theorem alone_any (f : Form) (A : Option Addr) (c : Nat) (w : World) (hl : f.kids.length ≤ 9223372036854775807) (hs : f.text.size ≤ 9223372036854775807) : Calls Try.prog 34 #[.agg (f.cells (.slice A f.kids.length c)).toArray] w fun e w' =>
    e = .returned (.bool (aloneS f)) ∧ Below w.heap.size w w' := by
  have HS := hid hs
  clear hs
  unfold Form.cells
  have hB : ∀ o, Below w.heap.size w (w.alloc o) := fun o => (Below.refl _ _).alloc (Nat.le_refl _) o
  by_cases h1 : (f.kind == 1) = true
  · go_enter Try.func34, Try.ntmps34
    go_wp2
    all_goals (go_ret; refine ⟨ret_bool ?_, hB _⟩; simp_all [aloneS])
  · by_cases h3 : (f.kind == 3) = true
    · by_cases hn : (f.num == 0) = true
      · by_cases hk : ((f.kids.length : Int) == 0) = true
        · go_enter Try.func34, Try.ntmps34
          go_wp2_with (go_at_call 60; refine (wordKind_any _ _ HS.out).mono ?_; rintro e w' ⟨rfl, hb⟩)
          go_ret
          exact ⟨ret_bool (by simp_all [aloneS]), (hB _).trans (hb.mono (by simp))⟩
        · go_enter Try.func34, Try.ntmps34
          go_wp2
          all_goals (go_ret; refine ⟨ret_bool ?_, hB _⟩; simp_all [aloneS])
      · go_enter Try.func34, Try.ntmps34
        go_wp2
        all_goals (go_ret; refine ⟨ret_bool ?_, hB _⟩; simp_all [aloneS])
    · by_cases h4 : (f.kind == 4) = true
      · go_enter Try.func34, Try.ntmps34
        go_wp2
        all_goals (go_ret; refine ⟨ret_bool ?_, hB _⟩; simp_all [aloneS])
      · go_enter Try.func34, Try.ntmps34
        go_wp2
        all_goals (go_ret; refine ⟨ret_bool ?_, hB _⟩; simp_all [aloneS])
/-! ### walk -/
/-- through places, each with all below it; f: fuel, more than there are forms left -/
def walkS (l : List Form) : Nat → List Int → Int → Int × Bool
  | 0, _, next => (next, false)
  | _ + 1, [], next => (next, true)
  | f + 1, n :: r, next =>
    if n ≠ next ∨ (l.length : Int) ≤ n then (next, false)
    else match walkS l f (nth l n.toNat).kids (n + 1) with
      | (nx, true) => walkS l f r nx
      | (nx, false) => (nx, false)
theorem walkS_ge (l : List Form) : ∀ (f : Nat) (ps : List Int) (next : Int), next ≤ (walkS l f ps next).1
  | 0, _, next => by simp [walkS]
  | f + 1, [], next => by simp [walkS]
  | f + 1, n :: r, next => by
    simp only [walkS]
    split
    · simp
    · rename_i h
      have h1 := walkS_ge l f (nth l n.toNat).kids (n + 1)
      split
      · rename_i nx he
        rw [he] at h1
        have := walkS_ge l f r nx
        simp only at h1
        omega
      · rename_i nx he
        rw [he] at h1
        simp only at h1 ⊢
        omega
end Go.Proofs.Ytgaginegcjpddaa
/- What the program's tree.Parse comes to: the walk. -/
namespace Go.Proofs.Ytgaginegcjpddaa
open Go.RowKit
/-- the parser as Parse's loop goes on -/
def ParseInv (l : List Token) (lo pb : Nat) (w : World) (k : Nat) (wr : World) : Prop :=
  ∃ S s, PX wr lo (fun b => b = pb) pb S s ∧ PWf s ∧ Hid (parseLoop ⟨[], [], []⟩ l = parseLoop s (l.drop k)) ∧ k ≤ l.length ∧ Below lo w wr
theorem FT.init (w : World) (lo : Nat) (ex : Nat → Prop) (h : lo ≤ w.heap.size ∧ ∀ b, ex b → b < w.heap.size) : FT w lo ex (fun _ => nilv) [] [] [] :=
  ⟨Own.nil _ _ _ _, fun k => by
    have : ints [] [] [] k = [] := by match k with | 0 => rfl | 1 => rfl | k + 2 => rfl
    rw [this]; exact Own.nil _ _ _ _, fun _ _ => rfl, fun i j b e => (by cases e), fun i b e => (by cases e), h⟩
theorem FT.drew {w : World} {lo : Nat} {ex : Nat → Prop} {S : Nat → Value} {l : List Form} {top opn : List Int} (h : FT w lo ex S l top opn) : FT w.drew lo ex S l top opn := h.heap rfl
def cnt (v : Value) : Nat := match v with | .int _ k => k.toNat | _ => 0
set_option maxHeartbeats 1600000 in
set_option maxRecDepth 100000 in
theorem treeParse_any (l : List Token) (v : Value) (w : World) (D : Nat → Prop) (h : Tokens w D v l) : Calls Try.prog 22 #[v] w fun e w' =>
    ∃ fv tv, e = .returned (.tuple #[fv, tv, .int .i64 (parseS l).2.2.1, .int .i64 (parseS l).2.2.2]) ∧ Below w.heap.size w w' ∧ Forms w' (fun k => w.heap.size ≤ k) fv (parseS l).1 ∧ Ints w' (fun k => w.heap.size ≤ k) tv (parseS l).2.1 := by
  obtain ⟨A, c, rfl, hle, hcap, hall⟩ := h.out
  have hmf : ∀ (fn : Fn) (first cap : Array Value) (w : World), (Instr.makeFunc fn first cap).run Try.prog w = .ok (.func fn first cap) w := fun _ _ _ _ => rfl
  go_enter_defers Try.func22, Try.ntmps22
  go_upto_region 3 with fail
  obtain ⟨w1, hw1⟩ : ∃ w1, w.alloc (Obj.cells #[Value.slice none 0 0] 29 (0, 0)) = w1 := ⟨_, rfl⟩
  obtain ⟨w2, hw2⟩ : ∃ w2, w1.alloc (Obj.cells #[Value.slice none 0 0] 25 (0, 0)) = w2 := ⟨_, rfl⟩
  obtain ⟨w3, hw3⟩ : ∃ w3, w2.alloc (Obj.cells #[Value.int .i64 0] 3 (0, 0)) = w3 := ⟨_, rfl⟩
  obtain ⟨w4, hw4⟩ : ∃ w4, w3.alloc (Obj.cells #[Value.int .i64 0] 30 (0, 0)) = w4 := ⟨_, rfl⟩
  obtain ⟨w5, hw5⟩ : ∃ w5, w4.alloc (Obj.cells #[Value.slice none 0 0, Value.slice none 0 0, Value.slice none 0 0] 131 (0, 0)) = w5 := ⟨_, rfl⟩
  rw [hw1, hw2, hw3, hw4, hw5]
  obtain ⟨n, hn⟩ : ∃ n, w.heap.size = n := ⟨_, rfl⟩
  have z1 : w1.heap.size = n + 1 := by rw [← hw1]; simp [hn]
  have z2 : w2.heap.size = n + 2 := by rw [← hw2]; simp [z1]
  have z3 : w3.heap.size = n + 3 := by rw [← hw3]; simp [z2]
  have z4 : w4.heap.size = n + 4 := by rw [← hw4]; simp [z3]
  have z5 : w5.heap.size = n + 5 := by rw [← hw5]; simp [z4]
  have g0 : w5.heap[n]? = some (.cells #[Value.slice none 0 0] 29 (0, 0)) := by rw [← hw5, ← hw4, ← hw3, ← hw2]; exact old_blk (old_blk (old_blk (old_blk (by rw [← hw1, ← hn]; exact new_blk _ _) _) _) _) _
  have g1 : w5.heap[n + 1]? = some (.cells #[Value.slice none 0 0] 25 (0, 0)) := by rw [← hw5, ← hw4, ← hw3]; exact old_blk (old_blk (old_blk (by rw [← hw2, ← z1]; exact new_blk _ _) _) _) _
  have g2 : w5.heap[n + 2]? = some (.cells #[Value.int .i64 0] 3 (0, 0)) := by rw [← hw5, ← hw4]; exact old_blk (old_blk (by rw [← hw3, ← z2]; exact new_blk _ _) _) _
  have g3 : w5.heap[n + 3]? = some (.cells #[Value.int .i64 0] 30 (0, 0)) := by rw [← hw5]; exact old_blk (by rw [← hw4, ← z3]; exact new_blk _ _) _
  have g4 : w5.heap[n + 4]? = some (.cells #[Value.slice none 0 0, Value.slice none 0 0, Value.slice none 0 0] 131 (0, 0)) := by rw [← hw5, ← z4]; exact new_blk _ _
  have gB : Below n w w5 := by rw [← hw5, ← hw4, ← hw3, ← hw2, ← hw1]; exact ((((((Below.refl n w).alloc (by omega) _).alloc (by rw [hw1]; omega) _).alloc (by rw [hw1, hw2]; omega) _).alloc (by rw [hw1, hw2, hw3]; omega) _).alloc (by rw [hw1, hw2, hw3, hw4]; omega) _)
  have hX : PX w5 (n + 4) (fun b => b = n + 4) (n + 4) (fun _ => nilv) ⟨[], [], []⟩ := ⟨g4, FT.init _ _ _ ⟨by omega, fun b e => by omega⟩, rfl, Nat.le_refl _⟩
  rw [hn]
  clear hw1 hw2 hw3 hw4 hw5 z1 z2 z3 z4 hmf g4
  have G0 := hid g0; have G1 := hid g1; have G2 := hid g2; have G3 := hid g3
  clear g0 g1 g2 g3
  have HW := hid hn
  go_wp2_with fail
  go_loopw [15] (fun s15 wr => ∃ k : Nat, s15 = .int .i64 (k : Int) ∧ ParseInv l (n + 4) (n + 4) w5 k wr) (fun s15 wr => l.length - cnt s15)
  case atStart => exact ⟨0, rfl, _, _, hX, ⟨by simp, by simp, by simp, by simp, by simp⟩, hid rfl, Nat.zero_le _, Below.refl _ _⟩
  case round =>
    obtain ⟨k, rfl, S, s, hP, hwf, hR, hk, hB⟩ := hrel
    have hk2 := blk_lt hP.blk
    by_cases hlt : k < l.length
    · obtain ⟨b, off, hA, hDb, hcs⟩ := hall (by omega)
      obtain ⟨cs, hr, _, hc⟩ := hcs k hlt
      have hr' : cs = [.int .u8 (nth l k).kind, .string (nth l k).text, .int .i64 (nth l k).num, .int .i64 (nth l k).pos] := hr
      subst hr'; subst hA
      have hb : b < n := by rw [← HW.out]; exact World.block_lt_of_cell? w _ (hc 0 _ rfl)
      have hcell : ∀ j u, ([Value.int .u8 (nth l k).kind, .string (nth l k).text, .int .i64 (nth l k).num, .int .i64 (nth l k).pos])[j]? = some u → wr.cell? ⟨b, off + k * 4 + j, none⟩ = some u := fun j u hj =>
        ((hB.cell (p := ⟨b, off + k * 4 + j, none⟩) (show b < n + 4 by omega)).trans (gB.cell (p := ⟨b, off + k * 4 + j, none⟩) hb)).trans (hc j u hj)
      have c0 := hcell 0 _ rfl; have c1 := hcell 1 _ rfl; have c2 := hcell 2 _ rfl; have c3 := hcell 3 _ rfl
      rw [Nat.add_zero] at c0
      clear hc hcs hcell hall
      obtain ⟨T, hT⟩ : ∃ T, nth l k = T := ⟨_, rfl⟩
      rw [hT] at c0 c1 c2 c3
      have hstep : Hid (parseLoop ⟨[], [], []⟩ l = match takeP s T with | .inl s' => parseLoop s' (l.drop (k + 1)) | .inr p => .inr p) := by
        have := hR.out
        rw [drop_nth hlt, hT, parseLoop] at this
        exact this
      clear hT hr hR
      go_upto_region 6 with fail
      have hP' := hP.below ((Below.refl wr.heap.size wr).alloc (Nat.le_refl _) (Obj.cells #[.int .u8 T.kind, .string T.text, .int .i64 T.num, .int .i64 T.pos] 124 (0, 0)))
      have hB' := hB.trans ((Below.refl (n + 4) wr).alloc (by omega) (Obj.cells #[.int .u8 T.kind, .string T.text, .int .i64 T.num, .int .i64 T.pos] 124 (0, 0)))
      rcases htk : takeP s T with s' | ⟨p1, p2⟩
      · have HTK := hid htk
        clear htk
        go_wp2_with (go_at_call 51; refine (takeP_any s T _ (n + 4) (n + 4) _ S hP' hwf).mono ?_; rintro e w' ⟨he, hb⟩; rw [HTK.out] at he; obtain ⟨rfl, S', hS'⟩ := he)
        go_roundw
        case rel => exact ⟨k + 1, by simp, S', s', hS', hwf.takeP HTK.out, hid (by rw [hstep.out, HTK.out]), by omega, hB'.trans hb⟩
        case measure => simp only [cnt]; omega
      · have HTK := hid htk
        clear htk
        go_wp2_with (go_at_call 51; refine (takeP_any s T _ (n + 4) (n + 4) _ S hP' hwf).mono ?_; rintro e w' ⟨he, hb⟩; rw [HTK.out] at he; have he' : e = .panicked (treeWrong p1 p2) := he; subst he')
        have hBx : Below (n + 4) w5 w' := hB'.trans hb
        have hk : ∀ i o, i < n + 4 → w5.heap[i]? = some o → w'.heap[i]? = some o := fun i o hi ho => (hBx.block i hi).trans ho
        refine leaves_cons (f := 50) (args := #[.pointer (some ⟨n, 0, none⟩), .pointer (some ⟨n + 1, 0, none⟩), .pointer (some ⟨n + 1 + 1, 0, none⟩), .pointer (some ⟨n + 1 + 1 + 1, 0, none⟩)]) (by simp) (by simp [go_sem]) ?_
        refine (catchParse n (n + 1) (n + 1 + 1) (n + 1 + 1 + 1) _ _ _ _ p1 p2 w' n (hk _ _ (by omega) G0.out) (hk _ _ (by omega) G1.out) (hk _ _ (by omega) G2.out) (hk _ _ (by omega) G3.out) (by omega) (by omega)).mono ?_
        rintro e u' w'' ⟨rfl, rfl, hBc, k0, k1, k2, k3⟩
        have hps : parseS l = ([], [], p1, p2) := by unfold parseS; rw [hstep.out, HTK.out]
        simp [Leaves, settle, results, Try.results22, go_sem, blk_cell k0, blk_cell k1, blk_cell k2, blk_cell k3]
        rw [hps]
        exact ⟨nilv, nilv, ⟨rfl, rfl, rfl, rfl⟩, by rw [HW.out]; exact gB.trans ((hBx.mono (by omega)).trans hBc), Row.nil _ _ _ _, Row.nil _ _ _ _⟩
    · have hend : Hid (parseLoop ⟨[], [], []⟩ l = .inl s) := by
        have := hR.out
        rw [List.drop_eq_nil_of_le (by omega), parseLoop] at this
        exact this
      clear hR hall
      have q0 := blk_cell hP.blk; have qf := blk_free hP.blk
      have ho12 := hwf.o12
      obtain ⟨B0, d0, e0, _⟩ := hP.ft.forms.slice
      obtain ⟨B1, d1, e1, _⟩ := (hP.ft.rows 0).slice
      obtain ⟨B2, d2, e2, _⟩ := (hP.ft.rows 1).slice
      have E0 := hid e0; have E1 := hid e1; have E2 := hid e2
      rw [e0, e1, e2] at q0
      clear e0 e1 e2
      simp only [ints, List.length_zipIdx] at q0
      by_cases ho : s.opn.length = 0
      · have r0 := blk_cell G0.out
        have hk : ∀ i o, i < n + 4 → w5.heap[i]? = some o → wr.heap[i]? = some o := fun i o hi ho => (hB.block i hi).trans ho
        have k0 := hk n _ (by omega) G0.out; have k1 := hk (n + 1) _ (by omega) G1.out; have k2 := hk (n + 1 + 1) _ (by omega) G2.out; have k3 := hk (n + 1 + 1 + 1) _ (by omega) G3.out
        have x0 := blk_cell k0; have x1 := blk_cell k1; have x2 := blk_cell k2; have x3 := blk_cell k3
        have y0 := blk_free k0; have y1 := blk_free k1; have y2 := blk_free k2; have y3 := blk_free k3
        have K0 := hid k0; have K1 := hid k1; have K2 := hid k2; have K3 := hid k3
        clear k0 k1 k2 k3 r0
        go_upto_region 11 with fail
        have hlow : ∀ x : Nat, x < n + 4 → ∀ i, (S i).ownBlock ≠ some x := fun x hx i e => by have := (hP.ft.low i x e).1; omega
        have hFF := hid ((((hP.ft.set ⟨n, 0, none⟩ (.slice B0 s.l.length d0) (hlow n (by omega))).set ⟨n + 1, 0, none⟩ (.slice B1 s.top.length d1) (hlow (n + 1) (by omega))).set ⟨n + 1 + 1, 0, none⟩ (.int .i64 0) (hlow (n + 1 + 1) (by omega))).set ⟨n + 1 + 1 + 1, 0, none⟩ (.int .i64 0) (hlow (n + 1 + 1 + 1) (by omega)))
        have hBB := hid (((((hB.mono (show n ≤ n + 4 by omega)).setCell (p := ⟨n, 0, none⟩) (Nat.le_refl _) (.slice B0 s.l.length d0)).setCell (p := ⟨n + 1, 0, none⟩) (show n ≤ n + 1 by omega) (.slice B1 s.top.length d1)).setCell (p := ⟨n + 1 + 1, 0, none⟩) (show n ≤ n + 1 + 1 by omega) (.int .i64 0)).setCell (p := ⟨n + 1 + 1 + 1, 0, none⟩) (show n ≤ n + 1 + 1 + 1 by omega) (.int .i64 0))
        have hps : parseS l = (s.l, s.top, 0, 0) := by unfold parseS; rw [hend.out]; simp only [if_pos ho]
        have HPS := hid hps
        clear hps hP hX hB
        go_region
        go_wp2
        refine leaves_cons (f := 50) (args := #[.pointer (some ⟨n, 0, none⟩), .pointer (some ⟨n + 1, 0, none⟩), .pointer (some ⟨n + 1 + 1, 0, none⟩), .pointer (some ⟨n + 1 + 1 + 1, 0, none⟩)]) (by simp) (by simp [go_sem]) ?_
        refine (idleParse n (n + 1) (n + 1 + 1) (n + 1 + 1 + 1) _).mono ?_
        rintro e u' w'' ⟨rfl, rfl, rfl⟩
        simp [Leaves, settle, results, Try.results22, go_sem, x0, x1, x2, x3]
        rw [HPS.out]
        refine ⟨_, _, ⟨rfl, rfl, rfl, rfl⟩, ?_, ?_, ?_⟩
        · rw [HW.out]; exact gB.trans (below_drewN hBB.out 1)
        · have hf := hFF.out.drew.forms_ (D := fun k => w.heap.size ≤ k) (fun b hb => by rw [HW.out]; omega)
          rw [E0.out, List.length_zipIdx] at hf
          exact hf
        · have hr : Ints _ (fun k => w.heap.size ≤ k) (S 1) s.top := (hFF.out.drew.rows 0).row (fun _ _ h => h.len) (fun g hg => by rw [HW.out]; have := (hFF.out.low 1 g hg).1; omega)
          rw [E1.out] at hr
          exact hr
      · go_upto_region 10 with fail
        have hop : s.opn.length - 1 < s.opn.length := by omega
        have hlast := hwf.opn _ (nth_mem hop)
        obtain ⟨j, hj⟩ : ∃ j : Nat, last0 s.opn = j := ⟨(last0 s.opn).toNat, by unfold last0; omega⟩
        have hjl : j < s.l.length := by unfold last0 at hj; omega
        obtain ⟨b, c', es, hc1, hc2, hblt, hcells, hfrz⟩ := hP.formAt hjl
        have h0 := E0.out
        rw [es] at h0
        simp only [Value.slice.injEq] at h0
        obtain ⟨rfl, hzz, rfl⟩ := h0
        clear hzz
        have hO := (hP.ft.rows 1).row (D := fun _ => True) (fun _ _ h => h.len) (fun _ _ => trivial)
        obtain ⟨bo, oo, co, eo, ho1, ho2, _, hbo, hcell⟩ := Ints.at_ hO (s.opn.length - 1) (by simpa [ints] using hop)
        have h3 := E2.out
        rw [eo] at h3
        simp only [Value.slice.injEq] at h3
        obtain ⟨rfl, _, rfl⟩ := h3
        have hcell' : wr.cell? ⟨bo, oo + (s.opn.length - 1), none⟩ = some (.int .i64 (j : Int)) := by rw [hcell]; simp only [ints]; rw [← hj]; rfl
        have hpos : wr.cell? ⟨b, j * 5 + 4, none⟩ = some (.int .i64 (nth s.l j).pos) := hcells 4 _ rfl
        obtain ⟨m, hm⟩ : ∃ m, s.opn.length = m + 1 := ⟨s.opn.length - 1, by omega⟩
        have hm1 : s.opn.length - 1 = m := by omega
        rw [hm1] at hcell'
        have hw1 : IntKind.i64.wrap (m : Int) = (m : Int) := i64w (by omega) (by omega)
        clear hm1 hop
        clear hcell hlast hO hcells
        (refine wp_still_tail 15 (by kernel_rfl) (by kernel_rfl) ?_; simp only [List.take_succ_cons, List.take_zero, List.drop_succ_cons, List.drop_zero]; (repeat (first | (refine wpStill_skip (by rfl) ?_; simp only [Act.put, List.setIfInBounds_toArray, List.set_cons_succ, List.set_cons_zero]) | still_step | (refine wpStill_step (fun K hK => ?_); simp [go_sem, ↓IntWalk.iteOmega, *]; refine hK _ ?_; clear hK K))); refine wpStill_nil ?_)
        go_wp2_with (go_at_call 52; refine (need_no _ _ _).mono ?_; rintro e w' ⟨rfl, rfl⟩)
        have hBx : Below (n + 4) w5 (wr.drewN 1) := below_drewN hB 1
        have hk : ∀ i o, i < n + 4 → w5.heap[i]? = some o → (wr.drewN 1).heap[i]? = some o := fun i o hi ho => (hBx.block i hi).trans ho
        refine leaves_cons (f := 50) (args := #[.pointer (some ⟨n, 0, none⟩), .pointer (some ⟨n + 1, 0, none⟩), .pointer (some ⟨n + 1 + 1, 0, none⟩), .pointer (some ⟨n + 1 + 1 + 1, 0, none⟩)]) (by simp) (by simp [go_sem]) ?_
        refine (catchParse n (n + 1) (n + 1 + 1) (n + 1 + 1 + 1) _ _ _ _ (nth s.l j).pos 8 (wr.drewN 1) n (hk _ _ (by omega) G0.out) (hk _ _ (by omega) G1.out) (hk _ _ (by omega) G2.out) (hk _ _ (by omega) G3.out) (by omega) (by omega)).mono ?_
        rintro e u' w'' ⟨rfl, rfl, hBc, k0, k1, k2, k3⟩
        have hps : parseS l = ([], [], (nth s.l j).pos, 8) := by unfold parseS; rw [hend.out]; simp only [if_neg ho, hj, Int.toNat_natCast]
        simp [Leaves, settle, results, Try.results22, go_sem, blk_cell k0, blk_cell k1, blk_cell k2, blk_cell k3]
        rw [hps]
        exact ⟨nilv, nilv, ⟨rfl, rfl, rfl, rfl⟩, by rw [HW.out]; exact gB.trans ((hBx.mono (by omega)).trans hBc), Row.nil _ _ _ _, Row.nil _ _ _ _⟩
end Go.Proofs.Ytgaginegcjpddaa
/- What the program's tree.walk comes to. -/
namespace Go.Proofs.Ytgaginegcjpddaa
open Go.RowKit
theorem Forms.at_ {w : World} {D : Nat → Prop} {v : Value} {l : List Form} (h : Forms w D v l) {n : Nat} (hn : n < l.length) :
    ∃ b off c, v = .slice (some ⟨b, off, none⟩) l.length c ∧ l.length ≤ c ∧ c ≤ 9223372036854775807 ∧ b < w.heap.size ∧ ∃ kv, Ints w D kv (nth l n).kids ∧ ∀ j u, ((nth l n).cells kv)[j]? = some u → w.cell? ⟨b, off + n * 5 + j, none⟩ = some u := by
  obtain ⟨A, c, h1, h2, h3, h4⟩ := h.out
  obtain ⟨b, off, hA, hD, hall⟩ := h4 (by omega)
  obtain ⟨cs, hr, _, hc⟩ := hall n hn
  obtain ⟨kv, rfl, hk⟩ := hr
  subst hA
  exact ⟨b, off, c, h1, h2, h3, World.block_lt_of_cell? w _ (hc 0 _ rfl), kv, hk, hc⟩
theorem walkS_le (l : List Form) : ∀ (f : Nat) (ps : List Int) (next : Int), (walkS l f ps next).1 ≤ next ∨ (walkS l f ps next).1 ≤ l.length
  | 0, _, next => by simp [walkS]
  | f + 1, [], next => by simp [walkS]
  | f + 1, n :: r, next => by
    simp only [walkS]
    split
    · simp
    · rename_i h
      have h1 := walkS_le l f (nth l n.toNat).kids (n + 1)
      split
      · rename_i nx he
        rw [he] at h1
        have := walkS_le l f r nx
        simp only at h1
        omega
      · rename_i nx he
        rw [he] at h1
        simp only at h1 ⊢
        omega
set_option maxHeartbeats 800000 in
set_option maxRecDepth 100000 in
theorem walk_any (l : List Form) (v : Value) (w : World) (D : Nat → Prop) (h : Forms w D v l) (hl : l.length ≤ 100000) : ∀ (f : Nat) (places : List Int) (pv : Value) (next : Int), Ints w D pv places → 0 ≤ next → next ≤ 100000 → (l.length : Int) - next < f → 0 < f →
    Calls Try.prog 35 #[v, pv, .int .i64 next] w fun e w' => e = .returned (.tuple #[.int .i64 (walkS l f places next).1, .bool (walkS l f places next).2]) ∧ w' = w := by
  intro f
  induction f using Nat.strongRecOn with
  | _ f ih =>
  intro places pv next hp hn0 hn1 hf hf0
  obtain ⟨A, c, rfl, hle, hcap⟩ := h.slice
  obtain ⟨B, d, rfl, hle2, hcap2⟩ := hp.slice
  go_enter Try.func35, Try.ntmps35
  go_wp2
  have IH := hid ih
  clear ih
  go_loopw [2, 6, 7, 13] (fun s2 s6 s7 s13 wr => wr = w ∧ ∃ (k g : Nat) (nx : Int), s13 = .int .i64 (k : Int) ∧ s2 = .int .i64 nx ∧ 0 ≤ nx ∧ nx ≤ 100000 ∧ (l.length : Int) - nx < g ∧ 0 < g ∧ g ≤ f ∧ k ≤ places.length ∧ Hid (walkS l f places next = walkS l g (places.drop k) nx)) (fun s2 s6 s7 s13 wr => places.length - cnt s13)
  case atStart => exact ⟨rfl, 0, f, next, rfl, rfl, hn0, hn1, hf, hf0, Nat.le_refl _, Nat.zero_le _, hid rfl⟩
  case round =>
    obtain ⟨rfl, k, g, nx, rfl, rfl, hx0, hx1, hg, hg0, hgf, hk, hR⟩ := hrel
    by_cases hlt : k < places.length
    · obtain ⟨b, off, c2, he, _, _, _, hb, hcell⟩ := hp.at_ k hlt
      simp only [Value.slice.injEq] at he
      obtain ⟨rfl, h00, rfl⟩ := he
      clear h00
      obtain ⟨n, hn⟩ : ∃ n, nth places k = n := ⟨_, rfl⟩
      rw [hn] at hcell
      obtain ⟨g, rfl⟩ : ∃ g', g = g' + 1 := ⟨g - 1, by omega⟩
      have hstep : Hid (walkS l f places next = if n ≠ nx ∨ (l.length : Int) ≤ n then (nx, false) else match walkS l g (nth l n.toNat).kids (n + 1) with | (nx', true) => walkS l g (places.drop (k + 1)) nx' | (nx', false) => (nx', false)) := by
        have := hR.out
        rw [drop_nth hlt, hn, walkS] at this
        exact this
      clear hn hR
      by_cases hnn : n = nx
      · subst hnn
        by_cases hnl : (l.length : Int) ≤ n
        · go_wp2
          go_ret2
          rw [hstep.out, if_pos (.inr hnl)]
          exact ⟨rfl, rfl⟩
        · obtain ⟨m, hm⟩ : ∃ m : Nat, n = m := ⟨n.toNat, by omega⟩
          subst hm
          have hml : m < l.length := by omega
          have hnl' : ¬ ((l.length : Int) ≤ (m : Int)) := hnl
          obtain ⟨fb, fo, fc, he, _, _, _, kv, hkv, hfc⟩ := h.at_ hml
          simp only [Value.slice.injEq] at he
          obtain ⟨rfl, h00, rfl⟩ := he
          clear h00
          have hc3 : wr.cell? ⟨fb, fo + m * 5 + 3, none⟩ = some kv := hfc 3 _ rfl
          have hw1 : IntKind.i64.wrap ((m : Int) + 1) = (m : Int) + 1 := i64w (by omega) (by omega)
          clear hfc
          have HC := hid (IH.out g (by omega) (nth l m).kids kv ((m : Int) + 1) hkv (by omega) (by omega) (by omega) (by omega))
          have hge := walkS_ge l g (nth l m).kids ((m : Int) + 1)
          have hle3 := walkS_le l g (nth l m).kids ((m : Int) + 1)
          have hst := hstep.out
          rw [if_neg (by omega), Int.toNat_natCast] at hst
          cases hres : walkS l g (nth l m).kids ((m : Int) + 1) with
          | mk nx' b =>
            rw [hres] at hge hle3 hst
            simp only at hge hle3
            have HRES := hid hres
            have HST := hid hst
            clear hres hst hstep
            cases b
            · go_wp2_with (go_at_call 35; refine HC.out.mono ?_; rw [HRES.out]; rintro e w' ⟨rfl, rfl⟩)
              go_ret2
              rw [HST.out]
              exact ⟨rfl, rfl⟩
            · go_wp2_with (go_at_call 35; refine HC.out.mono ?_; rw [HRES.out]; rintro e w' ⟨rfl, rfl⟩)
              go_roundw
              case rel => exact ⟨trivial, k + 1, g, nx', by simp, rfl, by omega, by omega, by omega, by omega, by omega, by omega, HST⟩
              case measure => simp only [cnt]; omega
      · have hb1 : (n == nx) = false := by simpa using hnn
        go_wp2
        go_ret2
        rw [hstep.out, if_pos (.inl hnn)]
        exact ⟨rfl, rfl⟩
    · have hke : k = places.length := by omega
      go_wp2
      go_ret2
      obtain ⟨g, rfl⟩ : ∃ g', g = g' + 1 := ⟨g - 1, by omega⟩
      rw [hR.out, List.drop_eq_nil_of_le (by omega), walkS]
      exact ⟨rfl, rfl⟩
end Go.Proofs.Ytgaginegcjpddaa
/- What the program's tree.kids comes to: a closure over two boxes. -/
namespace Go.Proofs.Ytgaginegcjpddaa
open Go.RowKit
theorem kids_any (A : Option Addr) (n c : Nat) (k : Int) (w : World) : Calls Try.prog 61 #[.slice A n c, .int .i64 k] w fun e w' =>
    e = .returned (.func (.func 80) #[] #[.pointer (some ⟨w.heap.size, 0, none⟩), .pointer (some ⟨w.heap.size + 1, 0, none⟩)]) ∧ w' = (w.alloc (.cells #[.slice A n c] 29 (0, 0))).alloc (.cells #[.int .i64 k] 3 (0, 0)) := by
  have hmf : ∀ (fn : Fn) (first cap : Array Value) (w : World), (Instr.makeFunc fn first cap).run Try.prog w = .ok (.func fn first cap) w := fun _ _ _ _ => rfl
  go_enter Try.func61, Try.ntmps61
  go_wp2
  go_ret
  exact ⟨rfl, rfl⟩
end Go.Proofs.Ytgaginegcjpddaa
/- What the closure of tree.kids comes to, as an iterator. -/
namespace Go.Proofs.Ytgaginegcjpddaa
open Go.RowKit Go.Shelf
attribute [local go_sem] Oper.semAt_some
/-! ### A region that draws its order, in a round of a loop over a function -/
def nOnly (Q : Exit → Go.Act → World → Prop) : Exit → Go.Act → World → Prop
  | .normal, a, w => Q .normal a w
  | _, _, _ => False
def noDefer (l : List Oper) : Bool := l.all fun o => match o.op with | .defer _ => false | _ => true
theorem wpAnyIn_of {l n : Nat} {P : Program} {md : Region.Mode} {ops : Array Oper} (hnd : noDefer ops.toList = true) (Q : Exit → Go.Act → World → Prop) : ∀ (g : Nat) (listed : Array Bool) (a : Go.Act) (w : World),
    wpAny P md ops (nOnly Q) g listed a w → wpAnyIn (Fence.wide.inRound l) n P md ops Q g listed a w := by
  intro g
  induction g with
  | zero => intro listed a w h; exact h
  | succ g ih =>
    intro listed a w h
    refine ⟨h.1, fun i hi => ?_⟩
    have h2 := h.2 i hi
    unfold wpOp at h2
    unfold wpOpIn
    cases ho : ops[i]? with
    | none => rw [ho] at h2; exact ih _ _ _ h2
    | some o =>
      rw [ho] at h2
      have hd : ∀ c, o.op ≠ .defer c := by
        intro c hc
        have hm : o ∈ ops.toList := by
          have := Array.mem_of_getElem? ho
          exact Array.mem_toList_iff.2 this
        have := List.all_eq_true.1 hnd o hm
        rw [hc] at this
        simp at this
      by_cases hw : Region.wanted o (yielded ops a.tmps) = true
      · simp only [hw, if_true] at h2 ⊢
        rcases h2 with h2 | ⟨_, a0, w0, hq⟩
        · refine ⟨fun _ _ => trivial, ?_⟩
          rw [Oper.semAt_eq _ _ _ hd]
          unfold Oper.wp at h2
          cases hr : (execOp a.eval o).run P w with
          | ok x w' =>
            rw [hr] at h2
            cases x with
            | value v => exact ih _ _ _ h2
            | skip => exact ih _ _ _ h2
            | defer d => exact ih _ _ _ h2
            | enter f args =>
              refine ⟨fun e => by simp [Fence.wide] at e, CallsIn.inRound l (callsIn_wide.2 (Calls.mono h2 fun e w'' hq => ?_))⟩
              cases e with
              | returned v => exact ih _ _ _ hq
              | panicked c => exact hq.elim
              | outgrown => obtain ⟨_, _, hq⟩ := hq; exact hq.elim
            | row r args =>
              refine ⟨fun e => by simp [Fence.wide] at e, fun c cs _ => ?_⟩
              obtain ⟨v, w'', hv, hs⟩ := h2 c cs
              exact ⟨v, w'', ih _ _ _ hv, stepsIn_wide.2 hs⟩
            | _ => exact (show False from h2).elim
          | halt x w' =>
            rw [hr] at h2
            cases x with
            | panic v => exact (show False from h2).elim
            | _ => exact (show False from h2).elim
        · exact hq.elim
      · have hw' : Region.wanted o (yielded ops a.tmps) = false := by simpa using hw
        simp only [hw', Bool.false_eq_true, if_false] at h2 ⊢
        exact ⟨fun _ _ => trivial, ih _ _ _ h2⟩
open Region in
theorem wpIn_still_tail {l₀ n₀ : Nat} {P : Program} {id : Nat} {Q : Exit → Go.Act → World → Prop} {a : Go.Act} {w : World} {l : List Oper} (n : Nat) (hm : P.follows .mixedOrders = true) (hB : Region.lexTailB .any l.toArray n = true) (hnd : noDefer l = true)
    (h : wpStill P l.toArray w.drew (fun a' => wpList P l.toArray (nOnly Q) (l.drop n) a' w.drew) (l.take n) a) : (Code.region id l.toArray true).wpIn (Fence.wide.inRound l₀) n₀ P Q a w := by
  simp only [Region.lexTailB, Bool.and_eq_true, decide_eq_true_eq] at hB
  obtain ⟨⟨⟨⟨hsel, hn⟩, hs⟩, hc⟩, hlex⟩ := hB
  have hn' : n < l.length := by simpa using hn
  have htl : (l.take n).length = n := by simp; omega
  have hdl : (l.drop n).length = l.toArray.size - n := by simp
  have inv0 : HeadInv .any l.toArray n (Array.replicate l.toArray.size false) :=
    ⟨by simp, fun j oj _ hl => (by rw [getD_replicate_false] at hl; cases hl), fun t _ ht => getD_in (by simpa using ht) (getD_replicate_false _ _)⟩
  have H := wpAnyL_lex (md := .any) (g := l.toArray.size - n) hsel hs hc hn (l.take n) 0 _ a (fun j hj => by
    have hj' : j < n := by rw [htl] at hj; exact hj
    simp [hj']) (by simpa using htl) inv0 (by rw [htl]; exact hlex) h
  refine wpIn_region_any hm (wpAnyIn_of hnd _ _ _ _ _ ?_)
  have := wpAny_of_head (Q' := nOnly Q) (g := l.toArray.size - n) (fun listed a' hL => by
    have := wpAny_of_seq (md := .any) (Q' := nOnly Q) (l.drop n) n listed a' { w with drawn := w.drawn + 1 } (fun j => by simp [List.getElem?_drop]) (by rw [hdl]; exact hL.1) hL.2
    rwa [hdl] at this) _ _ _ H
  rw [htl, show n + (l.toArray.size - n) = l.toArray.size by omega] at this
  exact this
/-- the blocks of Z are as they were -/
def KeepZ (Z : Nat → Prop) (W W' : World) : Prop := ∀ b, Z b → W'.heap[b]? = W.heap[b]?
theorem keepZ_t {Z : Nat → Prop} {A B C : World} (h : KeepZ Z A B) (k : KeepZ Z B C) : KeepZ Z A C := fun b hb => (k b hb).trans (h b hb)
theorem keepZ_b {Z : Nat → Prop} {w : World} (hZ : ∀ b, Z b → b < w.heap.size) (W : World) (l : Nat) (o o' : Obj) (hl : w.heap.size ≤ l) (h : W.heap[l]? = some o) (_ : o.isCells = false) (_ : o.isWalk = false) : KeepZ Z W (W.putObj l o') :=
  fun b hb => World.putObj_heap_other (by have := hZ b hb; omega)
theorem KeepZ.cell {Z : Nat → Prop} {A B : World} (h : KeepZ Z A B) {b j : Nat} (hb : Z b) : B.cell? ⟨b, j, none⟩ = A.cell? ⟨b, j, none⟩ := World.cell?_of_block (a := ⟨b, j, none⟩) (h b hb)
theorem KeepZ.ints {Z : Nat → Prop} {A B : World} (h : KeepZ Z A B) {v : Value} {l : List Int} (hi : Ints A Z v l) : Ints B Z v l := hi.imp fun b hb _ => ⟨hb, h b hb⟩
/-- the kids that stand behind a form -/
def behind (m p : Int) (ks : List Int) : List Int := ks.filter fun k => decide (p < k) && decide (k < m)
theorem behind_take {m p : Int} {ks : List Int} {k : Nat} (h : k < ks.length) : behind m p (ks.take (k + 1)) = behind m p (ks.take k) ++ if p < nth ks k ∧ nth ks k < m then [nth ks k] else [] := by
  unfold behind
  rw [take_succ_nth h, List.filter_append]
  congr 1
  by_cases h1 : p < nth ks k <;> by_cases h2 : nth ks k < m <;> simp [List.filter_cons, h1, h2]
theorem behind_len (m p : Int) (ks : List Int) : (behind m p ks).length ≤ ks.length := List.length_filter_le _ _
set_option maxRecDepth 100000 in
set_option maxHeartbeats 2000000 in
theorem kids1_in (F : Fence) (n : Nat) (hF : F.fn 80) (hro : F.round = none) (hn : 1 ≤ n) (l Bl Ba : Nat) (Z : Nat → Prop) (m c pn fb fo : Nat) (kv : Value) (ks : List Int) (J Jx : List Int → World → Prop)
    (hY : ∀ pre x W, (pn : Int) < x → x < (m : Int) → J pre W → pre.length < ks.length → YieldAt F (n - 1) Try.prog l #[.int .i64 x] W fun e W' =>
      (e = .returned (.bool true) ∧ J (pre ++ [x]) W' ∧ KeepZ Z W W') ∨ (e = .returned (.bool false) ∧ Jx (pre ++ [x]) W'))
    (W : World) (hm : m ≤ 9223372036854775807) (hp : pn < m) (hBl : W.cell? ⟨Bl, 0, none⟩ = some (.slice (some ⟨fb, fo, none⟩) m c)) (hBa : W.cell? ⟨Ba, 0, none⟩ = some (.int .i64 (pn : Int))) (hf : W.cell? ⟨fb, fo + pn * 5 + 3, none⟩ = some kv)
    (zl : Z Bl) (za : Z Ba) (zf : Z fb) (hk : Ints W Z kv ks) (h0 : J [] W) :
    CallsIn F n Try.prog 80 #[.func (.yield l) #[] #[], .pointer (some ⟨Bl, 0, none⟩), .pointer (some ⟨Ba, 0, none⟩)] W fun e W' => (∃ v, e = .returned v) ∧
      (J (behind m pn ks) W' ∨ (∃ pre, Jx pre W')) := by
  obtain ⟨A, kc, rfl, hle, hcap⟩ := hk.slice
  have HY := hid hY
  clear hY
  refine callsIn_of_wp Try.func80 rfl hF ?_ hro
  simp only [Try.ntmps80, List.size_toArray, List.length_cons, List.length_nil, Nat.reduceAdd, Nat.reduceSub, Array.replicate_succ, Array.replicate_zero, List.push_toArray, List.append_toArray, List.nil_append, List.cons_append]
  gi_wp2
  gi_loopw [12] (fun i wr => ∃ k : Nat, k ≤ ks.length ∧ i = .int .i64 k ∧ J (behind m pn (ks.take k)) wr ∧ Hid (KeepZ Z W wr))
    (fun i _ => ks.length - (intOf i).toNat)
  case atStart => exact ⟨0, Nat.zero_le _, rfl, h0, hid fun _ _ => rfl⟩
  case round =>
    obtain ⟨k, hk1, rfl, hJs, hnx⟩ := hrel
    by_cases hlt : k < ks.length
    · obtain ⟨b, off, kc2, he, _, _, hzb, hbW, hcell⟩ := hk.at_ k hlt
      simp only [Value.slice.injEq] at he
      obtain ⟨rfl, h00, rfl⟩ := he
      clear h00
      have c1 := (hnx.out.cell (j := 0) za).trans hBa
      have c2 := (hnx.out.cell (j := 0) zl).trans hBl
      have c3 := (hnx.out.cell (j := off + k) hzb).trans hcell
      have hT := hid (behind_take (m := m) (p := pn) hlt)
      obtain ⟨x, hx⟩ : ∃ x, nth ks k = x := ⟨_, rfl⟩
      rw [hx] at c3 hT
      clear hx
      have hlen : (behind m pn (ks.take k)).length < ks.length := by have := behind_len m pn (ks.take k); have := List.length_take_le k ks; omega
      clear hcell hBl hBa hf
      by_cases h1 : (pn : Int) < x
      · by_cases h2 : x < (m : Int)
        · obtain ⟨fn, tmps, assign, body, hy, hR⟩ := HY.out _ x wr h1 h2 hJs hlen
          have hT2 := hT.out
          rw [if_pos ⟨h1, h2⟩] at hT2
          have hT3 := hid hT2
          clear hT hT2
          gi_wp2
          refine hR.mono ?_
          rintro e W3 (⟨rfl, hJ3, hk3⟩ | ⟨rfl, hJx3⟩)
          · gi_wp2
            go_roundw
            case rel => exact ⟨k + 1, by omega, by simp, by rw [hT3.out]; exact hJ3, hid (keepZ_t hnx.out hk3)⟩
            case measure => simp [intOf]; omega
          · gi_wp2
            refine bodyPost_ret (results_none rfl _ _ _) rfl ?_
            exact ⟨⟨_, rfl⟩, .inr ⟨_, hJx3⟩⟩
        · have hT2 := hT.out
          rw [if_neg (fun e => h2 e.2), List.append_nil] at hT2
          have hT3 := hid hT2
          clear hT hT2
          gi_wp2
          refine ⟨fun _ h => (by cases h), ?_⟩
          gi_wp2
          go_roundw
          case rel => exact ⟨k + 1, by omega, by simp, by rw [hT3.out]; exact hJs, hnx⟩
          case measure => simp [intOf]; omega
      · have hT2 := hT.out
        rw [if_neg (fun e => h1 e.1), List.append_nil] at hT2
        have hT3 := hid hT2
        clear hT hT2
        gi_wp2
        refine ⟨fun _ h => (by cases h), ?_⟩
        gi_wp2
        go_roundw
        case rel => exact ⟨k + 1, by omega, by simp, by rw [hT3.out]; exact hJs, hnx⟩
        case measure => simp [intOf]; omega
    · obtain rfl : k = ks.length := by omega
      rw [List.take_length] at hJs
      gi_wp2
      go_end0
      exact ⟨⟨_, rfl⟩, .inl hJs⟩
abbrev Beh (m p : Int) := { x : Int // p < x ∧ x < m }
theorem kids_stops (F : Fence) (n : Nat) (hF : F.fn 80) (hro : F.round = none) (hn : 1 ≤ n) (Bl Ba : Nat) (Z : Nat → Prop) (m c pn fb fo : Nat) (kv : Value) (ks : List Int)
    (w : World) (hZ : ∀ b, Z b → b < w.heap.size) (hm : m ≤ 9223372036854775807) (hp : pn < m) (hBl : w.cell? ⟨Bl, 0, none⟩ = some (.slice (some ⟨fb, fo, none⟩) m c)) (hBa : w.cell? ⟨Ba, 0, none⟩ = some (.int .i64 (pn : Int))) (hf : w.cell? ⟨fb, fo + pn * 5 + 3, none⟩ = some kv)
    (zl : Z Bl) (za : Z Ba) (zf : Z fb) (hk : Ints w Z kv ks) :
    SeqStopsK F n Try.prog 80 #[.pointer (some ⟨Bl, 0, none⟩), .pointer (some ⟨Ba, 0, none⟩)] (fun x : Beh m pn => #[Value.int .i64 x.1]) (KeepZ Z) (fun ys => ys.map (·.1) = behind m pn ks) (fun _ => True) ks.length w := fun l J Jx W hW _ _ hY h0 => by
  have hK : KeepZ Z w W := fun b hb => hW.block b (hZ b hb)
  refine (kids1_in F n hF hro hn l Bl Ba Z m c pn fb fo kv ks (fun L W => ∃ L' : List (Beh m pn), L'.map (·.1) = L ∧ J L' W) (fun _ W => ∃ L', Jx L' W) (fun pre x W h1 h2 hJ hlen => ?_) W hm hp ((hK.cell zl).trans hBl) ((hK.cell za).trans hBa) ((hK.cell zf).trans hf) zl za zf (hK.ints hk) ⟨[], rfl, h0⟩).mono ?_
  · obtain ⟨L', rfl, hJ'⟩ := hJ
    obtain ⟨fn, tmps, assign, body, hy, hR⟩ := hY L' ⟨x, h1, h2⟩ W hJ' (by simpa using hlen)
    refine ⟨fn, tmps, assign, body, hy, hR.mono ?_⟩
    rintro e W' (⟨rfl, hJ3, hk3⟩ | ⟨rfl, hJx3⟩)
    · exact .inl ⟨rfl, ⟨_, by simp, hJ3⟩, hk3⟩
    · exact .inr ⟨rfl, _, hJx3⟩
  · rintro e W' ⟨he, ⟨L', h, hJ⟩ | ⟨_, L', hJ⟩⟩
    · exact ⟨he, .inl ⟨_, h, hJ⟩⟩
    · exact ⟨he, .inr ⟨_, trivial, hJ⟩⟩
end Go.Proofs.Ytgaginegcjpddaa
