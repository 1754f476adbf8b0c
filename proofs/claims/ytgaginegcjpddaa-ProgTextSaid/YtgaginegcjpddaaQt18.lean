/- The program of a text: what writing it, and reading that again, comes to. -/
import Derived.Test.YtgaginegcjpddaaQt17
import Derived.KernelRfl
import Derived.Test.YtgaginegcjpddaaRows
import Derived.WalkKit
import Derived.ProofKit
import Derived.OpenShut
import Derived.ChangeOld
import Derived.ChangeMaps5
import Derived.Below
import Derived.SizedLaws
import Derived.Deep.Slices
set_option linter.unusedVariables false
set_option linter.unusedSimpArgs false
namespace Go.Proofs.Ytgaginegcjpddaa
open Go.RowKit
theorem tokenOf_in (s : ByteArray) (k : Int) : InW (tokenOf s k).num := by
  unfold tokenOf
  simp only
  split
  · exact inW_zero
  · cases h : parseW s with
    | none => exact inW_zero
    | some w => exact parseW_in h
theorem lexGo_in (s : ByteArray) : ∀ (f k : Nat) (acc : List Token), (∀ t ∈ acc, InW t.num) → acc.length ≤ 600 → (∀ t ∈ (lexGo f s k acc).1, InW t.num) ∧ (lexGo f s k acc).1.length ≤ 600
  | 0, k, acc, h, h6 => by simp [lexGo]
  | f + 1, k, acc, h, h6 => by
    unfold lexGo
    split
    · exact ⟨h, h6⟩
    · split
      · exact lexGo_in s f _ acc h h6
      · split
        · exact lexGo_in s f _ acc h h6
        · simp only
          split
          · simp
          · split
            · simp
            · refine lexGo_in s f _ _ (fun t ht => ?_) (by simp; omega)
              rcases List.mem_append.1 ht with ht | ht
              · exact h t ht
              · simp only [List.mem_singleton] at ht
                subst ht
                exact tokenOf_in _ _
theorem tokensS_in (s : ByteArray) : (∀ t ∈ (tokensS s).1, InW t.num) ∧ (tokensS s).1.length ≤ 600 := by
  unfold tokensS
  split
  · simp
  · exact lexGo_in s _ _ _ (by simp) (by simp)
/-- how many brackets -/
def opens (l : List Form) : Nat := l.countP fun f => f.kind == 1
theorem add1_facts (s : PSt) (f : Form) (hf : InW f.num) (h : ∀ g ∈ s.l, InW g.num) : (∀ g ∈ (add1 s f).l, InW g.num) ∧ (add1 s f).l.length = s.l.length + 1 ∧ opens (add1 s f).l = opens s.l + if f.kind = 1 then 1 else 0 := by
  have h1 : ∀ g ∈ s.l ++ [f], InW g.num := fun g hg => by
    rcases List.mem_append.1 hg with hg | hg
    · exact h g hg
    · simp only [List.mem_singleton] at hg; subst hg; exact hf
  have hc : opens (s.l ++ [f]) = opens s.l + if f.kind = 1 then 1 else 0 := by
    unfold opens
    rw [List.countP_append]
    by_cases hk : f.kind = 1 <;> simp [hk]
  refine ⟨?_, add1_l f, ?_⟩
  · unfold add1
    split
    · exact h1
    · intro g hg
      simp only at hg
      rcases List.mem_or_eq_of_mem_set hg with hg | hg
      · exact h1 g hg
      · subst hg
        show InW (nth (s.l ++ [f]) (last0 s.opn).toNat).num
        by_cases hlt : (last0 s.opn).toNat < (s.l ++ [f]).length
        · exact h1 _ (nth_mem hlt)
        · rw [nth_out (by omega)]; exact inW_zero
  · unfold add1
    split
    · exact hc
    · rw [← hc]
      simp only
      unfold opens
      by_cases hlt : (last0 s.opn).toNat < (s.l ++ [f]).length
      · rw [List.countP_set hlt]
        have e : nth (s.l ++ [f]) (last0 s.opn).toNat = (s.l ++ [f])[(last0 s.opn).toNat] := nth_eq hlt
        have hpos : (s.l ++ [f])[(last0 s.opn).toNat].kind = 1 → 0 < List.countP (fun f : Form => f.kind == 1) (s.l ++ [f]) := fun hk => List.countP_pos_iff.2 ⟨_, List.getElem_mem hlt, by simp [hk]⟩
        by_cases hk : (s.l ++ [f])[(last0 s.opn).toNat].kind = 1
        · have := hpos hk
          rw [if_pos (by simpa using hk), if_pos (by show ((nth (s.l ++ [f]) (last0 s.opn).toNat).kind == 1) = true; rw [e]; simpa using hk)]
          omega
        · rw [if_neg (by simpa using hk), if_neg (by show ¬ ((nth (s.l ++ [f]) (last0 s.opn).toNat).kind == 1) = true; rw [e]; simpa using hk)]
          omega
      · rw [List.set_eq_of_length_le (by omega)]
theorem takeP_facts {s s' : PSt} {t : Token} (ht : InW t.num) (h : ∀ g ∈ s.l, InW g.num) (he : takeP s t = .inl s') : (∀ g ∈ s'.l, InW g.num) ∧ s'.l.length + opens s'.l + s.opn.length ≤ s.l.length + opens s.l + 1 + s'.opn.length := by
  have hfo : InW (formOf t).num := by
    unfold formOf
    simp only
    split
    · exact ht
    · exact inW_zero
  obtain ⟨a1, a2, a3⟩ := add1_facts s (formOf t) hfo h
  unfold takeP at he
  split at he
  · split at he
    · cases he
      refine ⟨h, ?_⟩
      simp only [List.length_dropLast]
      omega
    · cases he
  · split at he
    · cases he
    · split at he
      · split at he
        · cases he
          unfold addP
          split
          · rename_i hk
            refine ⟨a1, ?_⟩
            rw [if_pos hk] at a3
            simp only [List.length_append, List.length_cons, List.length_nil]
            omega
          · rename_i hk
            rw [if_neg hk] at a3
            refine ⟨a1, ?_⟩
            rw [add1_opn]
            omega
        · cases he
      · cases he
        exact ⟨h, by omega⟩
theorem parseLoop_facts : ∀ (ts : List Token) (s s' : PSt), (∀ t ∈ ts, InW t.num) → (∀ g ∈ s.l, InW g.num) → parseLoop s ts = .inl s' → (∀ g ∈ s'.l, InW g.num) ∧ s'.l.length + opens s'.l + s.opn.length ≤ s.l.length + opens s.l + ts.length + s'.opn.length
  | [], s, s', _, h, he => by simp only [parseLoop] at he; cases he; exact ⟨h, by simp⟩
  | t :: r, s, s', ht, h, he => by
    simp only [parseLoop] at he
    split at he
    · rename_i s1 h1
      obtain ⟨a1, a2⟩ := takeP_facts (ht t (by simp)) h h1
      obtain ⟨b1, b2⟩ := parseLoop_facts r s1 s' (fun t h => ht t (by simp [h])) a1 he
      refine ⟨b1, ?_⟩
      simp only [List.length_cons]
      omega
    · cases he
theorem parseS_facts {ts : List Token} (ht : ∀ t ∈ ts, InW t.num) (he : (parseS ts).2.2.2 = 0) : (∀ g ∈ (parseS ts).1, InW g.num) ∧ (parseS ts).1.length + opens (parseS ts).1 ≤ ts.length := by
  unfold parseS at he ⊢
  split
  · exact ⟨by simp, by simp [opens]⟩
  · rename_i s h
    split
    · rename_i h0
      obtain ⟨a1, a2⟩ := parseLoop_facts ts _ s ht (by simp) h
      refine ⟨a1, ?_⟩
      simp only [List.length_nil, opens, List.countP_nil] at a2
      simp only [opens]
      omega
    · exact ⟨by simp, by simp [opens]⟩
/-- places up to one, brackets twice -/
def wgt (l : List Form) (k : Nat) : Nat := k + opens (l.take k)
theorem wgt_succ {l : List Form} {k : Nat} (hk : k < l.length) : wgt l (k + 1) = wgt l k + if (nth l k).kind = 1 then 2 else 1 := by
  unfold wgt opens
  rw [take_succ_nth hk, List.countP_append]
  by_cases h : (nth l k).kind = 1
  · simp [h]; omega
  · simp [h]; omega
theorem walk_items {l : List Form} (ha : ∀ f ∈ l, aloneS f = true) (hwf : WF l) : ∀ (g : Nat) (ps : List Int) (n nx : Nat), walkS l g ps (n : Int) = ((nx : Int), true) → (∀ p ∈ ps, InL l p) → ∀ f, (ps.flatMap (itemsS l f)).length + wgt l n ≤ wgt l nx
  | 0, ps, n, nx, h, _, f => by simp [walkS] at h
  | g + 1, [], n, nx, h, _, f => by
    have := walk_nil h
    obtain rfl : nx = n := by omega
    simp
  | g + 1, p :: r, n, nx, h, hin, f => by
    simp only [walkS] at h
    split at h
    · cases h
    · rename_i hn
      split at h
      · rename_i x1 he
        obtain ⟨k, rfl, hk⟩ := hin p (by simp)
        obtain rfl : k = n := by omega
        simp only [Int.toNat_natCast] at he
        have hg1 := walkS_ge l g (nth l k).kids ((k : Int) + 1)
        rw [he] at hg1
        simp only at hg1
        obtain ⟨nx1, rfl⟩ : ∃ m : Nat, x1 = (m : Int) := ⟨x1.toNat, by omega⟩
        have hks : ∀ j ∈ (nth l k).kids, InL l j := by have := (show InL l (k : Int) from ⟨k, rfl, hk⟩).kid hwf; rw [fm_nat] at this; exact this
        have he' : walkS l g (nth l k).kids ((k + 1 : Nat) : Int) = ((nx1 : Int), true) := by rw [← he]; congr 1
        have h1 := fun f' => walk_items ha hwf g (nth l k).kids (k + 1) nx1 he' hks f'
        have h2 := walk_items ha hwf g r nx1 nx h (fun j hj => hin j (by simp [hj])) f
        rw [List.flatMap_cons, List.length_append]
        have hws := wgt_succ hk
        have h10 := h1 0
        suffices hone : (itemsS l f (k : Int)).length + wgt l k ≤ wgt l nx1 by omega
        cases f with
        | zero => simp only [itemsS, List.length_nil]; split at hws <;> omega
        | succ f' =>
          have h1f := h1 f'
          unfold itemsS
          rw [fm_nat]
          by_cases h4 : (nth l k).kind = 4
          · rw [if_pos h4]
            rw [if_neg (by omega)] at hws
            simp only [List.length_cons, List.length_nil]
            omega
          · rw [if_neg h4]
            by_cases h3 : (nth l k).kind = 3
            · rw [if_pos h3]
              rw [if_neg (by omega)] at hws
              simp only [List.length_cons, List.length_nil]
              omega
            · rw [if_neg h3]
              have hk1 : (nth l k).kind = 1 := by
                by_cases h1 : (nth l k).kind = 1
                · exact h1
                · obtain ⟨_, hd⟩ := alone_leaf (ha _ (nth_mem hk)) h1
                  rcases hd with hd | hd
                  · exact absurd hd.1 h3
                  · exact absurd hd.1 h4
              rw [if_pos hk1] at hws
              simp only [List.length_cons, List.length_append, List.length_nil]
              omega
      · cases h
theorem printI_opens {l : List Form} {top : List Int} (hr : rightS l top = true) : (printI l top).length ≤ l.length + opens l := by
  have hf := right_facts hr
  have := walk_items hf.alone hf.wf _ top 0 l.length (right_walk hr) (fun p hp => (hf.topIn p hp).inL) (l.length + 1)
  unfold wgt at this
  simp only [List.take_length, List.take_zero, opens, List.countP_nil] at this
  unfold printI opens
  omega
theorem items_same {l l' : List Form} (h : SameF l l') : ∀ f n, itemsS l' f n = itemsS l f n
  | 0, n => rfl
  | f + 1, n => by
    unfold itemsS
    rw [h.kind, h.num, h.text, h.kids]
    have : itemsS l' f = itemsS l f := funext fun n => items_same h f n
    rw [this]
theorem printI_same {l l' : List Form} (h : SameF l l') (top : List Int) : printI l' top = printI l top := by
  unfold printI
  rw [h.len]
  have : itemsS l' (l.length + 1) = itemsS l (l.length + 1) := funext fun n => items_same h _ n
  rw [this]
theorem same_all {l l' : List Form} (h : SameF l l') {P : Form → Prop} (hP : ∀ a b, SameX a b → P b → P a) (hl : ∀ f ∈ l, P f) : ∀ f ∈ l', P f := by
  intro f hf
  obtain ⟨i, hi, rfl⟩ := List.getElem_of_mem hf
  obtain ⟨a, b, c, d⟩ := h.nth i
  have hi2 : i < l.length := by have := h.len; omega
  rw [← nth_eq hi]
  exact hP _ _ ⟨a, b, c, d⟩ (hl _ (nth_mem hi2))
/-- what the program of a text is -/
structure SrcF (p : Prg) : Prop where
  ok : WOk2 p
  wr : (writeS p).2.2 = 0
  back : (sourceS ⟨(textOf p).1.toArray⟩ = (p, 0, 0)) ∨ 3000 < (textOf p).1.length
theorem source_facts (s : ByteArray) : ((sourceS s).2.2 ≠ 0 ∧ (sourceS s).1 = Prg.none) ∨ ∃ p, sourceS s = (p, 0, 0) ∧ SrcF p := by
  by_cases h : (sourceS s).2.2 = 0
  · right
    unfold sourceS at h ⊢
    split at h
    · rename_i h1; exact absurd h h1
    · rename_i h1
      rw [if_neg h1]
      split at h
      · rename_i h2; exact absurd h h2
      · rename_i h2
        rw [if_neg h2]
        have h2' : (parseS (tokensS s).1).2.2.2 = 0 := by simpa using h2
        obtain ⟨t1, t2⟩ := tokensS_in s
        obtain ⟨p1, p2⟩ := parseS_facts t1 h2'
        generalize (parseS (tokensS s).1).1 = l at h p1 p2 ⊢
        generalize (parseS (tokensS s).1).2.1 = top at h ⊢
        obtain ⟨hr, p, hl, hrd⟩ := readS_ok h
        refine ⟨p, hrd, ?_⟩
        obtain ⟨w, hw, hsame, htop, hoE, hoS⟩ := read_written hr hl
        have hr2 : rightS w.1 top = true := by rw [hsame.right]; exact hr
        have hn2 : ∀ f ∈ w.1, InW f.num := same_all hsame (fun a b h hb => by rw [h.2.2.1]; exact hb) p1
        have hso := showOk hr2 hn2
        have hok : WOk2 p :=
          { ops := ⟨hoE, fun x hx => hoS x hx⟩
            texts := fun s hs f hf => by
              rw [hw] at hs; cases hs
              obtain ⟨i, hi, rfl⟩ := List.getElem_of_mem hf
              have := hso.text i hi
              rw [nth_eq hi] at this
              omega
            nums := fun s hs f hf => by rw [hw] at hs; cases hs; exact hn2 f hf }
        have hrd2 := hsame.read top
        rw [hrd] at hrd2
        have hwr : writeS p = (w.1, w.2, 0) := by
          unfold writeS
          rw [hw]
          simp only
          rw [htop, hrd2.1, hrd2.2]
          exact if_pos ⟨rfl, rfl⟩
        refine ⟨hok, by rw [hwr], ?_⟩
        have hT : textOf p = (printS w.1 w.2, 0) := by unfold textOf; rw [hwr]; rfl
        rw [hT, htop]
        simp only
        rcases source_print hso hr2 with ⟨_, h3 | h3⟩ | ⟨l', hs2, h3⟩
        · exact .inr h3
        · have q1 := printI_opens hr
          rw [printI_same hsame] at h3
          omega
        · left
          rw [h3]
          have q := hs2.read top
          rw [hrd2.1, hrd2.2] at q
          obtain ⟨_, p', hl', hrd'⟩ := readS_ok q.2
          rw [hrd'] at q ⊢
          simp only at q
          rw [q.1]
  · left
    refine ⟨h, ?_⟩
    unfold sourceS at h ⊢
    split
    · rfl
    · split
      · rfl
      · rename_i h1 h2
        rw [if_neg h1, if_neg h2] at h
        unfold readS at h ⊢
        split
        · split
          · rename_i p hp
            rw [if_pos (by assumption), hp] at h
            exact absurd rfl h
          · rfl
        · rfl
end Go.Proofs.Ytgaginegcjpddaa
/- What must be whatever is asked: two texts read, one written. -/
namespace Go.Proofs.Ytgaginegcjpddaa
open Go.RowKit
theorem ReadP.got {w w' : World} {p : Prg} {a y : Int} {e : Ending} (h : ReadP w (p, a, y) e w') : ∃ E0 e0 E1 e1 E2 e2 E3 e3, e = .returned (.tuple #[.agg #[.slice E0 p.decls.length e0, .slice E1 p.exprs.length e1, .slice E2 p.stmts.length e2, .slice E3 p.main.length e3], .int .i64 a, .int .i64 y]) ∧ Below w.heap.size w w' ∧
    PRd w' (fun b => b < w'.heap.size) (four (.slice E0 p.decls.length e0) (.slice E1 p.exprs.length e1) (.slice E2 p.stmts.length e2) (.slice E3 p.main.length e3)) p := by
  obtain ⟨D, rfl, hb, hd⟩ := h
  obtain ⟨E0, e0, g0, _⟩ := hd.decls.slice
  obtain ⟨E1, e1, g1, _⟩ := hd.exprs.slice
  obtain ⟨E2, e2, g2, _⟩ := hd.stmts.slice
  obtain ⟨E3, e3, g3, _⟩ := hd.main.slice
  refine ⟨E0, e0, E1, e1, E2, e2, E3, e3, by rw [g0, g1, g2, g3], hb, ?_⟩
  have h2 : PRd w' (fun b => b < w'.heap.size) D p := hd.imp fun b _ hb => ⟨hb, rfl⟩
  refine ⟨?_, ?_, ?_, ?_⟩
  · show Row _ _ _ _ (.slice E0 p.decls.length e0) _; rw [← g0]; exact h2.decls
  · show Row _ _ _ _ (.slice E1 p.exprs.length e1) _; rw [← g1]; exact h2.exprs
  · show Row _ _ _ _ (.slice E2 p.stmts.length e2) _; rw [← g2]; exact h2.stmts
  · show Ints _ _ (.slice E3 p.main.length e3) _; rw [← g3]; exact h2.main
theorem PRd.below {w w' : World} {D : Nat → Value} {p : Prg} (h : PRd w (fun b => b < w.heap.size) D p) (hb : Below w.heap.size w w') : PRd w' (fun b => b < w'.heap.size) D p :=
  h.imp fun b hl _ => ⟨Nat.lt_of_lt_of_le hl hb.size, hb.block b hl⟩
/-- a program in a block of its own -/
structure BoxP (w : World) (b : Nat) (v0 v1 v2 v3 : Value) (p : Prg) : Prop where
  blk : w.heap[b]? = some (.cells #[v0, v1, v2, v3] 27 (0, 0))
  prd : PRd w (fun k => k < w.heap.size) (four v0 v1 v2 v3) p
theorem BoxP.below {w w' : World} {b : Nat} {v0 v1 v2 v3 : Value} {p : Prg} (h : BoxP w b v0 v1 v2 v3 p) (hb : Below w.heap.size w w') : BoxP w' b v0 v1 v2 v3 p :=
  ⟨(hb.block b (blk_lt h.blk)).trans h.blk, h.prd.below hb⟩
theorem BoxP.make {w : World} {v0 v1 v2 v3 : Value} {p : Prg} (h : PRd w (fun k => k < w.heap.size) (four v0 v1 v2 v3) p) : BoxP (w.alloc (.cells #[v0, v1, v2, v3] 27 (0, 0))) w.heap.size v0 v1 v2 v3 p :=
  ⟨new_blk _ _, h.below ((Below.refl _ _).alloc (Nat.le_refl _) _)⟩
theorem BoxP.progR {w : World} {b : Nat} {v0 v1 v2 v3 : Value} {p : Prg} (h : BoxP w b v0 v1 v2 v3 p) : ProgR w (.agg #[v0, v1, v2, v3]) p.m := h.prd.progR
theorem BoxP.lt {w : World} {b : Nat} {v0 v1 v2 v3 : Value} {p : Prg} (h : BoxP w b v0 v1 v2 v3 p) : b < w.heap.size := blk_lt h.blk
theorem none_progR (w : World) : ProgR w (.agg #[.slice none 0 0, .slice none 0 0, .slice none 0 0, .slice none 0 0]) Prg.none.m := (PRd.none w (fun _ => True)).progR
theorem eqP_refl (p : ProgM) : EqP p p := by first | rfl | exact ⟨rfl, rfl, rfl, rfl⟩
def src1 : ByteArray := ⟨#[40, 105, 110, 116, 32, 97, 41, 32, 40, 115, 101, 116, 32, 97, 32, 40, 43, 32, 49, 32, 50, 41, 41]⟩
def src2 : ByteArray := ⟨#[40, 115, 101, 116, 32, 97, 32, 40, 111, 119, 110, 41, 41]⟩
def prg1 : Prg := ⟨[⟨⟨#[97]⟩, 1, 1⟩], [{ exprK 1 with of_ := 1, num := 1 }, { exprK 1 with of_ := 1, num := 2 }, { exprK 10 with op := 1, kids := [0, 1] }], [{ stmt0 with kind := 1, name := ⟨#[97]⟩, e := 2 }], [0]⟩
def txt1 : List UInt8 := [40, 105, 110, 116, 32, 97, 41, 10, 40, 115, 101, 116, 32, 97, 32, 40, 43, 32, 49, 32, 50, 41, 41, 10]
theorem live_s1 : sourceS src1 = (prg1, 0, 0) := by kernel_rfl
theorem live_s2 : sourceS src2 = (Prg.none, 7, 8) := by kernel_rfl
def frm1 : WSt := (writtenS prg1).getD ([], [])
theorem live_w : writtenS prg1 = some frm1 := by kernel_rfl
theorem live_r : (readS frm1.1 frm1.2).2.2 = 0 := by kernel_rfl
theorem live_m : prg1.m = (readS frm1.1 frm1.2).1.m := by kernel_rfl
theorem live_p : printS frm1.1 frm1.2 = txt1 := by kernel_rfl
theorem live_t : textOf prg1 = (txt1, 0) := by
  have h : writeS prg1 = (frm1.1, frm1.2, 0) := by
    unfold writeS
    rw [live_w]
    exact if_pos ⟨live_r, live_m⟩
  unfold textOf
  rw [h]
  show (printS frm1.1 frm1.2, (0 : Int)) = _
  rw [live_p]
theorem live_ok : WOk2 prg1 := wOk_of
  { decls := by intro d hd; simp only [prg1, List.mem_singleton] at hd; subst hd; exact szOk_small (by decide)
    exprs := by
      intro x hx
      simp only [prg1, List.mem_cons, List.not_mem_nil, or_false] at hx
      rcases hx with rfl | rfl | rfl <;> exact ⟨by decide, szOk_small (by decide), by unfold InW; decide⟩
    stmts := by
      intro x hx
      simp only [prg1, List.mem_singleton] at hx
      subst hx
      exact ⟨by decide, szOk_small (by decide), by intro a ha; cases ha⟩ }
theorem live_o : readOpS ⟨#[110, 97, 114, 114, 111, 119]⟩ = (19, true) := by kernel_rfl
theorem live_e : opWordS 13 = ⟨#[61]⟩ := by kernel_rfl
set_option maxHeartbeats 6400000 in
set_option maxRecDepth 100000 in
theorem pbLive_any (w : World) : Calls Try.prog 7 #[] w fun e w' => e = .returned (.bool true) ∧ Below w.heap.size w w' := by
  have hL1 : prg1.exprs.length = 3 := rfl
  have hL2 : prg1.stmts.length = 1 := rfl
  have HL := hid (And.intro hL1 hL2)
  have HS1 := hid live_s1; have HS2 := hid live_s2; have HT := hid live_t; have HOK := hid live_ok; have HO := hid live_o; have HE := hid live_e
  clear hL1 hL2
  go_enter Try.func7, Try.ntmps7
  go_upto_region 2 with (go_at_call 11; refine (source_any src1 w).mono ?_; rintro e w1 he; rw [HS1.out] at he; obtain ⟨E0, e0, E1, e1, E2, e2, E3, e3, rfl, hb1, hd1⟩ := ReadP.got he; have HB1 := hid hb1; have HD1 := hid hd1; clear he hb1 hd1)
  have hx2 := BoxP.make HD1.out
  have hB2 := HB1.out.alloc HB1.out.size (.cells #[.slice E0 prg1.decls.length e0, .slice E1 prg1.exprs.length e1, .slice E2 prg1.stmts.length e2, .slice E3 prg1.main.length e3] 27)
  generalize w1.alloc (.cells #[.slice E0 prg1.decls.length e0, .slice E1 prg1.exprs.length e1, .slice E2 prg1.stmts.length e2, .slice E3 prg1.main.length e3] 27) = w2 at hx2 hB2 ⊢
  generalize w1.heap.size = k at hx2 ⊢
  have HX2 := hid hx2; have HB2 := hid hB2
  have x2 := blk_cell HX2.out.blk
  clear hx2 hB2
  go_upto_region 3 with (go_at_call 10; refine (text_any prg1 _ w2 HX2.out.prd HOK.out).mono ?_; rintro e w3 ⟨rfl, hb3⟩; rw [HT.out]; have HX3 := hid (HX2.out.below hb3); have HB3 := hid (HB2.out.trans (hb3.mono HB2.out.size)); clear x2; have x3 := blk_cell HX3.out.blk; clear hb3)
  go_upto_region 4 with (go_at_call 11; refine (source_any src2 w3).mono ?_; rintro e w4 he; rw [HS2.out] at he; obtain ⟨G0, f0, G1, f1, G2, f2, G3, f3, rfl, hb4, hd4⟩ := ReadP.got he; have HX4 := hid (HX3.out.below hb4); have HB4 := hid (HB3.out.trans (hb4.mono HB3.out.size)); clear x3; have x4 := blk_cell HX4.out.blk; clear he hb4 hd4)
  have hba := (Below.refl w4.heap.size w4).alloc (Nat.le_refl _) (.cells #[.slice G0 Prg.none.decls.length f0, .slice G1 Prg.none.exprs.length f1, .slice G2 Prg.none.stmts.length f2, .slice G3 Prg.none.main.length f3] 27)
  have hx5 := HX4.out.below hba
  have hB5 := HB4.out.trans (hba.mono HB4.out.size)
  generalize w4.alloc (.cells #[.slice G0 Prg.none.decls.length f0, .slice G1 Prg.none.exprs.length f1, .slice G2 Prg.none.stmts.length f2, .slice G3 Prg.none.main.length f3] 27) = w5 at hx5 hB5 hba ⊢
  have HX5 := hid hx5; have HB5 := hid hB5
  clear x4 hba hx5 hB5
  have x5 := blk_cell HX5.out.blk
  go_upto_region 5 with (go_at_call 14; refine (readOp_any _ w5 (by decide)).mono ?_; rintro e w6 ⟨rfl, hb6⟩; rw [HO.out]; have HX6 := hid (HX5.out.below hb6); have HB6 := hid (HB5.out.trans (hb6.mono HB5.out.size)); clear x5; have x6 := blk_cell HX6.out.blk; clear hb6)
  rw [HL.out.1, HL.out.2] at x6
  go_wp2_with (go_at_call 15; refine (opWord_any 13 w6 (by decide)).mono ?_; rintro e w7 ⟨rfl, hb7⟩; rw [HE.out])
  go_ret
  exact ⟨rfl, HB6.out.trans (hb7.mono HB6.out.size)⟩
end Go.Proofs.Ytgaginegcjpddaa
/- The text of a text's program is read again to the same: the law's walk. -/
namespace Go.Proofs.Ytgaginegcjpddaa
open Go.RowKit
set_option maxHeartbeats 6400000 in
set_option maxRecDepth 100000 in
theorem lawText (s : ByteArray) (w : World) : Calls Try.prog 4 #[.string s] w fun e w' => e = .returned (.bool true) ∧ Below w.heap.size w w' := by
  obtain ⟨n, hn⟩ : ∃ n, w.heap.size = n := ⟨_, rfl⟩
  rcases source_facts s with ⟨h1, h2⟩ | ⟨p, hp, hf⟩
  · obtain ⟨a, y, hS⟩ : ∃ a y, sourceS s = (Prg.none, a, y) := ⟨_, _, Prod.ext h2 rfl⟩
    rw [hS] at h1
    have hy : ¬ y = 0 := h1
    have HS := hid hS
    clear h1 h2 hS
    go_enter Try.func4, Try.ntmps4
    go_upto_region 2 with (go_at_call 11; refine (source_any _ w).mono ?_; rintro e w1 he; rw [HS.out] at he; obtain ⟨E0, e0, E1, e1, E2, e2, E3, e3, rfl, hb1, hd1⟩ := ReadP.got he; have HB1 := hid hb1; have HD1 := hid hd1; clear he hb1 hd1)
    have hx2 := BoxP.make HD1.out
    have hB2 := HB1.out.alloc HB1.out.size (.cells #[.slice E0 Prg.none.decls.length e0, .slice E1 Prg.none.exprs.length e1, .slice E2 Prg.none.stmts.length e2, .slice E3 Prg.none.main.length e3] 27)
    generalize w1.alloc (.cells #[.slice E0 Prg.none.decls.length e0, .slice E1 Prg.none.exprs.length e1, .slice E2 Prg.none.stmts.length e2, .slice E3 Prg.none.main.length e3] 27) = w2 at hx2 hB2 ⊢
    generalize w1.heap.size = k at hx2 ⊢
    have HX2 := hid hx2; have HB2 := hid hB2
    have x2 := blk_cell HX2.out.blk; have hlt2 := HX2.out.lt
    clear hx2 hB2
    go_wp2_with (first | (go_at_call 7; refine (pbLive_any w2).mono ?_; rintro e w3 ⟨rfl, hb3⟩; have HX3 := hid (HX2.out.below hb3); have HB3 := hid (HB2.out.trans (hb3.mono HB2.out.size)); clear x2; have x3 := blk_cell HX3.out.blk; clear hb3) | (go_at_call 12; refine (progSame_any Prg.none.m Prg.none.m _ _ w3 HX3.out.progR (none_progR w3)).mono ?_; rintro e w4 ⟨⟨b0, rfl, hr0⟩, hb4⟩; obtain rfl : b0 = true := hr0.2 (eqP_refl _)))
    go_ret
    exact ⟨rfl, HB3.out.trans (hb4.mono HB3.out.size)⟩
  · obtain ⟨T, hT⟩ : ∃ T, (textOf p).1 = T := ⟨_, rfl⟩
    have hTo : textOf p = (T, 0) := by
      unfold textOf at hT ⊢
      rw [if_pos hf.wr] at hT ⊢
      exact Prod.ext hT rfl
    have hbk := hf.back
    rw [hTo] at hbk
    simp only at hbk
    have HS := hid hp; have HOK := hid hf.ok; have HT := hid hTo; have HWR := hid hf.wr; have HBK := hid hbk
    clear hp hf hT hTo hbk
    go_enter Try.func4, Try.ntmps4
    go_upto_region 2 with (go_at_call 11; refine (source_any _ w).mono ?_; rintro e w1 he; rw [HS.out] at he; obtain ⟨E0, e0, E1, e1, E2, e2, E3, e3, rfl, hb1, hd1⟩ := ReadP.got he; have HB1 := hid hb1; have HD1 := hid hd1; clear he hb1 hd1)
    have hx2 := BoxP.make HD1.out
    have hB2 := HB1.out.alloc HB1.out.size (.cells #[.slice E0 p.decls.length e0, .slice E1 p.exprs.length e1, .slice E2 p.stmts.length e2, .slice E3 p.main.length e3] 27)
    generalize w1.alloc (.cells #[.slice E0 p.decls.length e0, .slice E1 p.exprs.length e1, .slice E2 p.stmts.length e2, .slice E3 p.main.length e3] 27) = w2 at hx2 hB2 ⊢
    generalize w1.heap.size = k at hx2 ⊢
    have HX2 := hid hx2; have HB2 := hid hB2
    have x2 := blk_cell HX2.out.blk; have hlt2 := HX2.out.lt
    clear hx2 hB2
    go_upto_region 5 with (go_at_call 10; refine (text_any p _ w2 HX2.out.prd HOK.out).mono ?_; rintro e w3 ⟨rfl, hb3⟩; rw [HT.out]; have HX3 := hid (HX2.out.below hb3); have HB3 := hid (HB2.out.trans (hb3.mono HB2.out.size)); clear x2; have x3 := blk_cell HX3.out.blk; have hlt3 := HX3.out.lt; clear hb3)
    by_cases hbig : 3000 < T.length
    · have hbi : (3000 : Int) < (T.toArray.size : Int) := by simp; omega
      have hbi2 : (3000 : Int) < (T.length : Int) := by omega
      have hbi3 : (3000 : Int) < ((⟨T.toArray⟩ : ByteArray).size : Int) := by show (3000 : Int) < (T.toArray.size : Int); simp; omega
      go_wp2_with (go_at_call 7; refine (pbLive_any w3).mono ?_; rintro e w4 ⟨rfl, hb4⟩)
      go_ret
      exact ⟨ret_bool (by simp [*]), HB3.out.trans (hb4.mono HB3.out.size)⟩
    · have hbi : ¬ ((3000 : Int) < (T.toArray.size : Int)) := by simp; omega
      have hbi2 : ¬ ((3000 : Int) < (T.length : Int)) := by omega
      have hbi3 : ¬ ((3000 : Int) < ((⟨T.toArray⟩ : ByteArray).size : Int)) := by show ¬ ((3000 : Int) < (T.toArray.size : Int)); simp; omega
      have HS2 := hid (HBK.out.resolve_right (by omega))
      go_upto_region 8 with (go_at_call 11; refine (source_any _ w3).mono ?_; rintro e w4 he; rw [HS2.out] at he; obtain ⟨G0, f0, G1, f1, G2, f2, G3, f3, rfl, hb4, hd4⟩ := ReadP.got he; have HX4 := hid (HX3.out.below hb4); have HB4 := hid (HB3.out.trans (hb4.mono HB3.out.size)); clear x3; have x4 := blk_cell HX4.out.blk; have HD4 := hid hd4; clear he hb4 hd4)
      have hy5 := BoxP.make HD4.out
      have hba := (Below.refl w4.heap.size w4).alloc (Nat.le_refl _) (.cells #[.slice G0 p.decls.length f0, .slice G1 p.exprs.length f1, .slice G2 p.stmts.length f2, .slice G3 p.main.length f3] 27)
      have hx5 := HX4.out.below hba
      have hB5 := HB4.out.trans (hba.mono HB4.out.size)
      generalize w4.alloc (.cells #[.slice G0 p.decls.length f0, .slice G1 p.exprs.length f1, .slice G2 p.stmts.length f2, .slice G3 p.main.length f3] 27) = w5 at hy5 hx5 hB5 hba ⊢
      generalize w4.heap.size = j at hy5 ⊢
      have HX5 := hid hx5; have HY5 := hid hy5; have HB5 := hid hB5
      clear x4 hba hx5 hy5 hB5
      have x5 := blk_cell HX5.out.blk; have y5 := blk_cell HY5.out.blk
      go_upto_region 9 with (go_at_call 10; refine (text_any p _ w5 HY5.out.prd HOK.out).mono ?_; rintro e w6 ⟨rfl, hb6⟩; rw [HT.out]; have HX6 := hid (HX5.out.below hb6); have HY6 := hid (HY5.out.below hb6); have HB6 := hid (HB5.out.trans (hb6.mono HB5.out.size)); clear x5 y5; have x6 := blk_cell HX6.out.blk; have y6 := blk_cell HY6.out.blk; clear hb6)
      go_wp2_with (first | (go_at_call 7; refine (pbLive_any w6).mono ?_; rintro e w7 ⟨rfl, hb7⟩; have HX7 := hid (HX6.out.below hb7); have HY7 := hid (HY6.out.below hb7); have HB7 := hid (HB6.out.trans (hb7.mono HB6.out.size)); clear x6 y6; have x7 := blk_cell HX7.out.blk; have y7 := blk_cell HY7.out.blk; clear hb7) | (go_at_call 12; refine (progSame_any p.m p.m _ _ w7 HX7.out.progR HY7.out.progR).mono ?_; rintro e w8 ⟨⟨b0, rfl, hr0⟩, hb8⟩; obtain rfl : b0 = true := hr0.2 (eqP_refl _); have HX8 := hid (HX7.out.below hb8); have HB8 := hid (HB7.out.trans (hb8.mono HB7.out.size)); clear x7 y7; have x8 := blk_cell HX8.out.blk; clear hb8 hr0) | (go_at_call 8; refine (sound_any p _ w8 HX8.out.prd HOK.out.toWOk).mono ?_; rintro e w9 ⟨rfl, hb9⟩; rw [HWR.out]))
      go_ret
      exact ⟨rfl, HB8.out.trans (hb9.mono HB8.out.size)⟩
end Go.Proofs.Ytgaginegcjpddaa
/- The text of a text's program is read again to the same: the row. -/
namespace Go.Proofs.Ytgaginegcjpddaa.progText
open Go.ChangeShapes Go.WideShapes Go.ChangeAt Go.RowKit Go.ChangeMaps
theorem own : ownKnob Try.prog.godebug = none := by kernel_rfl
set_option maxRecDepth 100000 in
theorem lifted (os : Os) (started : os.Started) (H : Type) (enc : TypeId × Value → H) :
    ReturnsInHanded {} Try.checked os 4 .any (Rows.progTextSpec.pre6 enc Try.prog Try.f4 Rows.progTextRow.domain false) (Rows.progTextSpec.post enc Try.prog Try.f4 false true false false) := by
  refine returnsInHanded_of_change_sized (C := Try.checked) own started (by kernel_rfl) Try.func4
    (ChangeSpec.witness6 (enc := enc) (C := Try.checked) false ⟨#[], #[.string ⟨#[]⟩], []⟩ 8 (by kernel_rfl) (by kernel_rfl) (by kernel_rfl) (by kernel_rfl)) ?_
  intro W base args ds gs before hval0 hW hcnd hsz0 _
  have hval : ∀ (j : Nat) t v, Try.f4.params[j]? = some t → args[j]? = some v → Value.okWide Try.prog W .any base t v := hval0
  have hW' := hW
  obtain ⟨p, q, hA0, hV, rfl, hfz, hnd⟩ := hW
  have hA : DataW.TrodAll enc Try.prog W 0 (fun _ => true) true Try.f4.params.toList args.toList ds p := hA0
  rw [Try.params4] at hA hval
  obtain ⟨v0, vs0, d0, ds0, p0, q0, hargs, rfl, rfl, h0, r0⟩ := trodAll_cons hA
  obtain ⟨rfl, rfl, rfl⟩ := trodAll_nil r0
  obtain rfl : args = #[v0] := by cases args; simp_all
  obtain ⟨rfl, rfl⟩ := trodVars_none hV
  obtain ⟨s, rfl, rfl, rfl, hs⟩ := open_string Try.underlying9 (hval 0 9 v0 rfl rfl) h0
  clear hA0 hval0 hsz0
  refine (lawText s W).mono fun e W' ⟨he, bel⟩ => ?_
  subst he
  exact ⟨_, rfl, _, _, _, [], _, [], hW', trodAll_mk1 (shut_bool Try.underlying4 true), (trodAll_cons_mk (shut_string Try.underlying9 hs) trodAll_mk0), rfl, bel.frame _, fun h => by cases h⟩
end Go.Proofs.Ytgaginegcjpddaa.progText
/- The text of a text: what is joined, limb by limb (together they are too much for one theorem). -/
noncomputable section
namespace Go.Proofs.Ytgaginegcjpddaa.progText
open Go.ChangeShapes Go.WideShapes Go.ChangeAt Go.RowKit
noncomputable def P : Program := Try.pinned.checked.prog
noncomputable def f : FuncId := 4
noncomputable def fn : Func := Try.f4
noncomputable def s : ChangeSpec := Rows.progTextSpec
noncomputable def c : OpenClaim := Rows.progTextRow
theorem j0 : (c.wf (OpenSpec.ofChange s)) = true := by kernel_rfl
theorem j1 : (laidOutB P) = true := by kernel_rfl
theorem j2 : (mapsRowed P) = true := by kernel_rfl
theorem j3 : (fn.params.all (P.readableRec ·)) = true := by kernel_rfl
theorem j4 : (namedTie P c.named s.vars) = true := by kernel_rfl
theorem j5 : ((c.stops == [])) = true := by kernel_rfl
theorem j6 : ((P.stops == [])) = true := by kernel_rfl
theorem j7 : ((c.knobs == [])) = true := by kernel_rfl
theorem j8 : ((P.stopKnobs == [])) = true := by kernel_rfl
theorem j9 : ((c.inPlace == P.inPlace f)) = true := by kernel_rfl
theorem j10 : ((c.unfollowed == P.unfollowed f)) = true := by kernel_rfl
theorem j11 : ((c.recurses == P.recurses f)) = true := by kernel_rfl
theorem j12 : ((c.named == P.varsNamed f)) = true := by kernel_rfl
theorem j13 : ((c.maps == (fn.params.toList ++ s.plain.varTypes P).any (P.mapsRec ·))) = true := by kernel_rfl
theorem j14 : ((c.ifaces == (fn.params.toList ++ s.plain.varTypes P).any (P.ifacesRec ·))) = true := by kernel_rfl
theorem j15 : ((c.mapsOut == P.mapsAmong fn.resultTypes.toList)) = true := by kernel_rfl
theorem j16 : ((c.loops == (fn.params.toList ++ s.plain.varTypes P).any (P.loopsFrom ·))) = true := by kernel_rfl
theorem j17 : ((c.wideKeys == (fn.params.toList ++ s.plain.varTypes P ++ fn.resultTypes.toList).any (P.wideKeysFrom ·))) = true := by kernel_rfl
theorem j18 : (s.vars.all (P.varReadable ·)) = true := by kernel_rfl
theorem j19 : (fn.resultTypes.all (fun t => P.readableRec t && decide (t < P.types.size))) = true := by kernel_rfl
theorem j20 : ((c.ifacesOut == fn.resultTypes.toList.any (P.ifacesRec ·))) = true := by kernel_rfl
theorem j21 : ((c.loopsOut == fn.resultTypes.toList.any (P.loopsFrom ·))) = true := by kernel_rfl
theorem j22 : ((c.plainKeys == P.plainKeys)) = true := by kernel_rfl
theorem j23 : (c.shortTexts.isNone) = true := by kernel_rfl
theorem j24 : (P.stopsHeard) = true := by kernel_rfl
theorem j25 : (P.mayEnter) = true := by kernel_rfl
theorem j26 : ((c.lifted == P.liftsFinal)) = true := by kernel_rfl
theorem j27 : ((P.make == some c.make)) = true := by kernel_rfl
theorem j28 : ((c.kinds == (if c.domain.isEmpty then [] else fn.params.toList.map fun t => match P.underlying t with | some (.int k) => some k | _ => none))) = true := by kernel_rfl
theorem j29 : ((c.pinned == c.pinnedBy)) = true := by kernel_rfl
theorem j30 : ((c.veiled == (fn.params.toList ++ s.plain.varTypes P ++ fn.resultTypes.toList).any (P.veiledRec ·))) = true := by kernel_rfl
theorem j31 : (c.veiledFits P fn.params.toList (fn.params.toList ++ s.plain.varTypes P ++ fn.resultTypes.toList)) = true := by kernel_rfl
theorem andT {a b : Bool} (ha : a = true) (hb : b = true) : (a && b) = true := by rw [ha, hb]; rfl
set_option maxRecDepth 100000 in
theorem joined : joinedFacts P f fn s c = true := by
  unfold joinedFacts
  exact (andT (andT (andT (andT (andT (andT (andT (andT (andT (andT (andT (andT (andT (andT (andT (andT (andT (andT (andT (andT (andT (andT (andT (andT (andT (andT (andT (andT (andT (andT (andT j0 j1) j2) j3) j4) j5) j6) j7) j8) j9) j10) j11) j12) j13) j14) j15) j16) j17) j18) j19) j20) j21) j22) j23) j24) j25) j26) j27) j28) j29) j30) j31)
end Go.Proofs.Ytgaginegcjpddaa.progText
/- The text of the program of a text is read again to the same program and the same text; what is read is sound: proved for every text. Conditions: none but those of the row. -/

noncomputable section
namespace Go.Proofs.Ytgaginegcjpddaa.progText
open Go.ChangeShapes Go.WideShapes Go.ChangeAt Go.RowKit
theorem named : Try.pinned.checked.prog.funcNamed Rows.progTextRow.func = some 4 := by kernel_rfl
theorem instance_ : Func.isInstance Try.pinned.checked.prog Try.f4 Rows.progTextRow.origin Rows.progTextRow.targs := of_decide_eq_true (by kernel_rfl)
theorem wrapper : Func.isWrapper Try.pinned.checked.prog Try.f4 Rows.progTextRow.wrapper Rows.progTextRow.mainSum := by unfold Func.isWrapper; first | (rw [if_pos (by decide +kernel)]; kernel_rfl) | (rw [if_neg (by decide +kernel)]; exact ⟨rfl, rfl⟩)
theorem over : Rows.progTextRow.holds Try.pinned (OpenSpec.ofChange Rows.progTextSpec) :=
  OpenClaim.holds_of_wide 4 Try.f4 rfl rfl rfl rfl rfl rfl rfl ⟨rfl, rfl, rfl, rfl, rfl⟩ rfl rfl rfl rfl rfl named Try.func4 joined
    instance_ wrapper
    (fun os started H enc _ => lifted os started H enc)
end Go.Proofs.Ytgaginegcjpddaa.progText
namespace Go.Proofs.Ytgaginegcjpddaa
theorem progText_holds : Rows.ProgTextSaid := progText.over
end Go.Proofs.Ytgaginegcjpddaa
