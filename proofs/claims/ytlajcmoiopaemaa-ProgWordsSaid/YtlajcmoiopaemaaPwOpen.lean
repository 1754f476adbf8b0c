/- Programs that came in. Printed by gen_open.py. -/
import Derived.Deep.Slices
import Derived.Deep.Fields
import Derived.ProofKit
import Derived.OpenShut
import Derived.Test.YtlajcmoiopaemaaPart
set_option linter.unusedVariables false
set_option linter.unusedSimpArgs false
namespace Go.Proofs.Ytlajcmoiopaemaa
open Go.ChangeShapes Go.WideShapes Go.ChangeAt Go.RowKit Go.Deep
section
variable {H : Type} {enc : TypeId × Value → H} {W : World} {base : Nat} {spare : Nat → Bool} {held : Bool}
theorem open_row {α : Type} [Inhabited α] {S E : TypeId} {k : Nat} {R : α → List Value → Prop} (hS : Try.prog.underlying S = some (.slice E)) (hk : Try.prog.cellsOf E = k) (h0 : 0 < k)
    (hel : ∀ n cs (x : DataW H × List MemPlace), DataW.trod enc Try.prog W base spare held n E cs = some x → ∃ d, R d cs ∧ cs.length = k) {v : Value} {fuel : Nat} {x : DataW H × List MemPlace} (h : DataW.trod enc Try.prog W base spare held fuel S [v] = some x) :
    ∃ l : List α, Row W T' R k v l := by
  rcases open_slice hS h with ⟨hcs, _⟩ | ⟨ad, len, cap, m, n, Dd, Pl, hcs, hb, hl, hm, hmm, hx, hi⟩
  · simp only [List.cons.injEq, and_true] at hcs
    subst hcs
    exact ⟨[], Row.nil _ _ _ _⟩
  · simp only [List.cons.injEq, and_true] at hcs
    subst hcs
    rw [hk] at hi
    have hlm : len ≤ m := by rw [hmm]; split <;> omega
    have each : ∀ i, i < len → ∃ d : α, ∃ cs, R d cs ∧ cs.length = k ∧ ∀ j, j < k → W.cell? (ad.add (i * k + j)) = cs[j]? := by
      intro i hil
      obtain ⟨cs', hc, ht⟩ := hi i (by omega)
      obtain ⟨d, hr, hlen⟩ := hel _ _ _ ht
      obtain ⟨_, _, hat⟩ := World.cells?_some hc
      exact ⟨d, cs', hr, hlen, fun j hj => by have := hat j hj; rwa [Go.Deep.add_add] at this⟩
    obtain ⟨f, hf⟩ := choose_lt each
    refine ⟨(List.range len).map f, ⟨some ad, cap, by simp, by simpa using hl, by simpa [maxLen] using hm, fun h0' => ?_⟩⟩
    simp only [List.length_map, List.length_range] at h0' ⊢
    obtain ⟨cs0, _, hl0, hc0⟩ := hf 0 h0'
    have hsp := World.cell?_spot ((hc0 0 h0).trans (List.getElem?_eq_getElem (by omega)))
    obtain ⟨b, off, sp⟩ := ad
    have : sp = none := by simpa [Addr.add] using hsp
    subst this
    refine ⟨b, off, rfl, trivial, fun i hil => ?_⟩
    obtain ⟨cs, hr, hl', hc⟩ := hf i hil
    have hn : nth ((List.range len).map f) i = f i := by rw [nth_eq (by simpa using hil)]; simp
    refine ⟨cs, by rw [hn]; exact hr, hl', fun j u hj => ?_⟩
    have hj' : j < k := by have := (List.getElem?_eq_some_iff.1 hj).1; omega
    have := (hc j hj').trans hj
    rw [add_off, ← Nat.add_assoc] at this
    exact this
theorem open_ints {v : Value} {fuel : Nat} {x : DataW H × List MemPlace} (h : DataW.trod enc Try.prog W base spare held fuel 26 [v] = some x) : ∃ l : List Int, IntsR W v l :=
  open_row Try.underlying26 (by kernel_rfl) (by omega) (fun n cs x h => by
    obtain ⟨i, rfl, _, _⟩ := DataW.trod_int Try.underlying3 h
    exact ⟨i, rfl, rfl⟩) h
set_option maxRecDepth 100000 in
theorem decl_cells {n : Nat} {cs : List Value} {x : DataW H × List MemPlace} (h : DataW.trod enc Try.prog W base spare held n 50 cs = some x) : ∃ d : DeclM, DeclR d cs ∧ cs.length = 3 := by
  obtain ⟨xs, m, rfl, _, hl, hxs, hf⟩ := DataW.trod_struct Try.underlying50 h
  have hlen : cs.length = 3 := hl.trans (by kernel_rfl)
  match cs, hlen with
  | [c0, c1, c2], _ =>
    match xs, hxs with
    | [y0, y1, y2], _ =>
      have k0 : Try.prog.cellsOf 9 = 1 := by kernel_rfl
      have f0 : DataW.trod enc Try.prog W base spare held m 9 (([c0, c1, c2].drop 0).take (Try.prog.cellsOf 9)) = [y0, y1, y2][0]? := hf 0 _ rfl
      rw [k0] at f0
      have f0 : DataW.trod enc Try.prog W base spare held m 9 [c0] = some y0 := f0
      have k1 : Try.prog.cellsOf 47 = 1 := by kernel_rfl
      have f1 : DataW.trod enc Try.prog W base spare held m 47 (([c0, c1, c2].drop 1).take (Try.prog.cellsOf 47)) = [y0, y1, y2][1]? := hf 1 _ rfl
      rw [k1] at f1
      have f1 : DataW.trod enc Try.prog W base spare held m 47 [c1] = some y1 := f1
      have k2 : Try.prog.cellsOf 48 = 1 := by kernel_rfl
      have f2 : DataW.trod enc Try.prog W base spare held m 48 (([c0, c1, c2].drop 2).take (Try.prog.cellsOf 48)) = [y0, y1, y2][2]? := hf 2 _ rfl
      rw [k2] at f2
      have f2 : DataW.trod enc Try.prog W base spare held m 48 [c2] = some y2 := f2
      obtain ⟨v0, h0, _, _⟩ := DataW.trod_string Try.underlying9 f0
      obtain ⟨v1, h1, _, _⟩ := DataW.trod_int Try.underlying47 f1
      obtain ⟨v2, h2, _, _⟩ := DataW.trod_int Try.underlying48 f2
      simp only [List.cons.injEq, and_true] at h0
      subst h0
      simp only [List.cons.injEq, and_true] at h1
      subst h1
      simp only [List.cons.injEq, and_true] at h2
      subst h2
      exact ⟨⟨v0, v1, v2⟩, rfl, rfl⟩
set_option maxRecDepth 100000 in
theorem act_cells {n : Nat} {cs : List Value} {x : DataW H × List MemPlace} (h : DataW.trod enc Try.prog W base spare held n 77 cs = some x) : ∃ d : ActM, ActR d cs ∧ cs.length = 6 := by
  obtain ⟨xs, m, rfl, _, hl, hxs, hf⟩ := DataW.trod_struct Try.underlying77 h
  have hlen : cs.length = 6 := hl.trans (by kernel_rfl)
  match cs, hlen with
  | [c0, c1, c2, c3, c4, c5], _ =>
    match xs, hxs with
    | [y0, y1, y2, y3, y4, y5], _ =>
      have k0 : Try.prog.cellsOf 75 = 1 := by kernel_rfl
      have f0 : DataW.trod enc Try.prog W base spare held m 75 (([c0, c1, c2, c3, c4, c5].drop 0).take (Try.prog.cellsOf 75)) = [y0, y1, y2, y3, y4, y5][0]? := hf 0 _ rfl
      rw [k0] at f0
      have f0 : DataW.trod enc Try.prog W base spare held m 75 [c0] = some y0 := f0
      have k1 : Try.prog.cellsOf 9 = 1 := by kernel_rfl
      have f1 : DataW.trod enc Try.prog W base spare held m 9 (([c0, c1, c2, c3, c4, c5].drop 1).take (Try.prog.cellsOf 9)) = [y0, y1, y2, y3, y4, y5][1]? := hf 1 _ rfl
      rw [k1] at f1
      have f1 : DataW.trod enc Try.prog W base spare held m 9 [c1] = some y1 := f1
      have k2 : Try.prog.cellsOf 22 = 1 := by kernel_rfl
      have f2 : DataW.trod enc Try.prog W base spare held m 22 (([c0, c1, c2, c3, c4, c5].drop 2).take (Try.prog.cellsOf 22)) = [y0, y1, y2, y3, y4, y5][2]? := hf 2 _ rfl
      rw [k2] at f2
      have f2 : DataW.trod enc Try.prog W base spare held m 22 [c2] = some y2 := f2
      have k3 : Try.prog.cellsOf 4 = 1 := by kernel_rfl
      have f3 : DataW.trod enc Try.prog W base spare held m 4 (([c0, c1, c2, c3, c4, c5].drop 3).take (Try.prog.cellsOf 4)) = [y0, y1, y2, y3, y4, y5][3]? := hf 3 _ rfl
      rw [k3] at f3
      have f3 : DataW.trod enc Try.prog W base spare held m 4 [c3] = some y3 := f3
      have k4 : Try.prog.cellsOf 3 = 1 := by kernel_rfl
      have f4 : DataW.trod enc Try.prog W base spare held m 3 (([c0, c1, c2, c3, c4, c5].drop 4).take (Try.prog.cellsOf 3)) = [y0, y1, y2, y3, y4, y5][4]? := hf 4 _ rfl
      rw [k4] at f4
      have f4 : DataW.trod enc Try.prog W base spare held m 3 [c4] = some y4 := f4
      have k5 : Try.prog.cellsOf 3 = 1 := by kernel_rfl
      have f5 : DataW.trod enc Try.prog W base spare held m 3 (([c0, c1, c2, c3, c4, c5].drop 5).take (Try.prog.cellsOf 3)) = [y0, y1, y2, y3, y4, y5][5]? := hf 5 _ rfl
      rw [k5] at f5
      have f5 : DataW.trod enc Try.prog W base spare held m 3 [c5] = some y5 := f5
      obtain ⟨v0, h0, _, _⟩ := DataW.trod_int Try.underlying75 f0
      obtain ⟨v1, h1, _, _⟩ := DataW.trod_string Try.underlying9 f1
      obtain ⟨v2, h2, _, _⟩ := DataW.trod_int Try.underlying22 f2
      obtain ⟨v3, h3, _⟩ := DataW.trod_bool Try.underlying4 f3
      obtain ⟨v4, h4, _, _⟩ := DataW.trod_int Try.underlying3 f4
      obtain ⟨v5, h5, _, _⟩ := DataW.trod_int Try.underlying3 f5
      simp only [List.cons.injEq, and_true] at h0
      subst h0
      simp only [List.cons.injEq, and_true] at h1
      subst h1
      simp only [List.cons.injEq, and_true] at h2
      subst h2
      simp only [List.cons.injEq, and_true] at h3
      subst h3
      simp only [List.cons.injEq, and_true] at h4
      subst h4
      simp only [List.cons.injEq, and_true] at h5
      subst h5
      exact ⟨⟨v0, v1, v2, v3, v4, v5⟩, rfl, rfl⟩
theorem open_decls {v : Value} {fuel : Nat} {x : DataW H × List MemPlace} (h : DataW.trod enc Try.prog W base spare held fuel 23 [v] = some x) : ∃ l : List DeclM, Decls W v l :=
  open_row Try.underlying23 (by kernel_rfl) (by omega) (fun n cs x h => decl_cells h) h
theorem open_acts {v : Value} {fuel : Nat} {x : DataW H × List MemPlace} (h : DataW.trod enc Try.prog W base spare held fuel 59 [v] = some x) : ∃ l : List ActM, ActsR W v l :=
  open_row Try.underlying59 (by kernel_rfl) (by omega) (fun n cs x h => act_cells h) h
set_option maxRecDepth 100000 in
theorem expr_cells {n : Nat} {cs : List Value} {x : DataW H × List MemPlace} (h : DataW.trod enc Try.prog W base spare held n 55 cs = some x) : ∃ d : ExprM, (ExprR W) d cs ∧ cs.length = 6 := by
  obtain ⟨xs, m, rfl, _, hl, hxs, hf⟩ := DataW.trod_struct Try.underlying55 h
  have hlen : cs.length = 6 := hl.trans (by kernel_rfl)
  match cs, hlen with
  | [c0, c1, c2, c3, c4, c5], _ =>
    match xs, hxs with
    | [y0, y1, y2, y3, y4, y5], _ =>
      have k0 : Try.prog.cellsOf 52 = 1 := by kernel_rfl
      have f0 : DataW.trod enc Try.prog W base spare held m 52 (([c0, c1, c2, c3, c4, c5].drop 0).take (Try.prog.cellsOf 52)) = [y0, y1, y2, y3, y4, y5][0]? := hf 0 _ rfl
      rw [k0] at f0
      have f0 : DataW.trod enc Try.prog W base spare held m 52 [c0] = some y0 := f0
      have k1 : Try.prog.cellsOf 48 = 1 := by kernel_rfl
      have f1 : DataW.trod enc Try.prog W base spare held m 48 (([c0, c1, c2, c3, c4, c5].drop 1).take (Try.prog.cellsOf 48)) = [y0, y1, y2, y3, y4, y5][1]? := hf 1 _ rfl
      rw [k1] at f1
      have f1 : DataW.trod enc Try.prog W base spare held m 48 [c1] = some y1 := f1
      have k2 : Try.prog.cellsOf 22 = 1 := by kernel_rfl
      have f2 : DataW.trod enc Try.prog W base spare held m 22 (([c0, c1, c2, c3, c4, c5].drop 2).take (Try.prog.cellsOf 22)) = [y0, y1, y2, y3, y4, y5][2]? := hf 2 _ rfl
      rw [k2] at f2
      have f2 : DataW.trod enc Try.prog W base spare held m 22 [c2] = some y2 := f2
      have k3 : Try.prog.cellsOf 9 = 1 := by kernel_rfl
      have f3 : DataW.trod enc Try.prog W base spare held m 9 (([c0, c1, c2, c3, c4, c5].drop 3).take (Try.prog.cellsOf 9)) = [y0, y1, y2, y3, y4, y5][3]? := hf 3 _ rfl
      rw [k3] at f3
      have f3 : DataW.trod enc Try.prog W base spare held m 9 [c3] = some y3 := f3
      have k4 : Try.prog.cellsOf 53 = 1 := by kernel_rfl
      have f4 : DataW.trod enc Try.prog W base spare held m 53 (([c0, c1, c2, c3, c4, c5].drop 4).take (Try.prog.cellsOf 53)) = [y0, y1, y2, y3, y4, y5][4]? := hf 4 _ rfl
      rw [k4] at f4
      have f4 : DataW.trod enc Try.prog W base spare held m 53 [c4] = some y4 := f4
      have k5 : Try.prog.cellsOf 26 = 1 := by kernel_rfl
      have f5 : DataW.trod enc Try.prog W base spare held m 26 (([c0, c1, c2, c3, c4, c5].drop 5).take (Try.prog.cellsOf 26)) = [y0, y1, y2, y3, y4, y5][5]? := hf 5 _ rfl
      rw [k5] at f5
      have f5 : DataW.trod enc Try.prog W base spare held m 26 [c5] = some y5 := f5
      obtain ⟨v0, h0, _, _⟩ := DataW.trod_int Try.underlying52 f0
      obtain ⟨v1, h1, _, _⟩ := DataW.trod_int Try.underlying48 f1
      obtain ⟨v2, h2, _, _⟩ := DataW.trod_int Try.underlying22 f2
      obtain ⟨v3, h3, _, _⟩ := DataW.trod_string Try.underlying9 f3
      obtain ⟨v4, h4, _, _⟩ := DataW.trod_int Try.underlying53 f4
      obtain ⟨v5, h5⟩ := open_ints f5
      simp only [List.cons.injEq, and_true] at h0
      subst h0
      simp only [List.cons.injEq, and_true] at h1
      subst h1
      simp only [List.cons.injEq, and_true] at h2
      subst h2
      simp only [List.cons.injEq, and_true] at h3
      subst h3
      simp only [List.cons.injEq, and_true] at h4
      subst h4
      exact ⟨⟨v0, v1, v2, v3, v4, v5⟩, ⟨_, rfl, h5⟩, rfl⟩
set_option maxRecDepth 100000 in
theorem stmt_cells {n : Nat} {cs : List Value} {x : DataW H × List MemPlace} (h : DataW.trod enc Try.prog W base spare held n 61 cs = some x) : ∃ d : StmtM, (StmtR W) d cs ∧ cs.length = 8 := by
  obtain ⟨xs, m, rfl, _, hl, hxs, hf⟩ := DataW.trod_struct Try.underlying61 h
  have hlen : cs.length = 8 := hl.trans (by kernel_rfl)
  match cs, hlen with
  | [c0, c1, c2, c3, c4, c5, c6, c7], _ =>
    match xs, hxs with
    | [y0, y1, y2, y3, y4, y5, y6, y7], _ =>
      have k0 : Try.prog.cellsOf 58 = 1 := by kernel_rfl
      have f0 : DataW.trod enc Try.prog W base spare held m 58 (([c0, c1, c2, c3, c4, c5, c6, c7].drop 0).take (Try.prog.cellsOf 58)) = [y0, y1, y2, y3, y4, y5, y6, y7][0]? := hf 0 _ rfl
      rw [k0] at f0
      have f0 : DataW.trod enc Try.prog W base spare held m 58 [c0] = some y0 := f0
      have k1 : Try.prog.cellsOf 9 = 1 := by kernel_rfl
      have f1 : DataW.trod enc Try.prog W base spare held m 9 (([c0, c1, c2, c3, c4, c5, c6, c7].drop 1).take (Try.prog.cellsOf 9)) = [y0, y1, y2, y3, y4, y5, y6, y7][1]? := hf 1 _ rfl
      rw [k1] at f1
      have f1 : DataW.trod enc Try.prog W base spare held m 9 [c1] = some y1 := f1
      have k2 : Try.prog.cellsOf 22 = 1 := by kernel_rfl
      have f2 : DataW.trod enc Try.prog W base spare held m 22 (([c0, c1, c2, c3, c4, c5, c6, c7].drop 2).take (Try.prog.cellsOf 22)) = [y0, y1, y2, y3, y4, y5, y6, y7][2]? := hf 2 _ rfl
      rw [k2] at f2
      have f2 : DataW.trod enc Try.prog W base spare held m 22 [c2] = some y2 := f2
      have k3 : Try.prog.cellsOf 3 = 1 := by kernel_rfl
      have f3 : DataW.trod enc Try.prog W base spare held m 3 (([c0, c1, c2, c3, c4, c5, c6, c7].drop 3).take (Try.prog.cellsOf 3)) = [y0, y1, y2, y3, y4, y5, y6, y7][3]? := hf 3 _ rfl
      rw [k3] at f3
      have f3 : DataW.trod enc Try.prog W base spare held m 3 [c3] = some y3 := f3
      have k4 : Try.prog.cellsOf 3 = 1 := by kernel_rfl
      have f4 : DataW.trod enc Try.prog W base spare held m 3 (([c0, c1, c2, c3, c4, c5, c6, c7].drop 4).take (Try.prog.cellsOf 3)) = [y0, y1, y2, y3, y4, y5, y6, y7][4]? := hf 4 _ rfl
      rw [k4] at f4
      have f4 : DataW.trod enc Try.prog W base spare held m 3 [c4] = some y4 := f4
      have k5 : Try.prog.cellsOf 59 = 1 := by kernel_rfl
      have f5 : DataW.trod enc Try.prog W base spare held m 59 (([c0, c1, c2, c3, c4, c5, c6, c7].drop 5).take (Try.prog.cellsOf 59)) = [y0, y1, y2, y3, y4, y5, y6, y7][5]? := hf 5 _ rfl
      rw [k5] at f5
      have f5 : DataW.trod enc Try.prog W base spare held m 59 [c5] = some y5 := f5
      have k6 : Try.prog.cellsOf 26 = 1 := by kernel_rfl
      have f6 : DataW.trod enc Try.prog W base spare held m 26 (([c0, c1, c2, c3, c4, c5, c6, c7].drop 6).take (Try.prog.cellsOf 26)) = [y0, y1, y2, y3, y4, y5, y6, y7][6]? := hf 6 _ rfl
      rw [k6] at f6
      have f6 : DataW.trod enc Try.prog W base spare held m 26 [c6] = some y6 := f6
      have k7 : Try.prog.cellsOf 26 = 1 := by kernel_rfl
      have f7 : DataW.trod enc Try.prog W base spare held m 26 (([c0, c1, c2, c3, c4, c5, c6, c7].drop 7).take (Try.prog.cellsOf 26)) = [y0, y1, y2, y3, y4, y5, y6, y7][7]? := hf 7 _ rfl
      rw [k7] at f7
      have f7 : DataW.trod enc Try.prog W base spare held m 26 [c7] = some y7 := f7
      obtain ⟨v0, h0, _, _⟩ := DataW.trod_int Try.underlying58 f0
      obtain ⟨v1, h1, _, _⟩ := DataW.trod_string Try.underlying9 f1
      obtain ⟨v2, h2, _, _⟩ := DataW.trod_int Try.underlying22 f2
      obtain ⟨v3, h3, _, _⟩ := DataW.trod_int Try.underlying3 f3
      obtain ⟨v4, h4, _, _⟩ := DataW.trod_int Try.underlying3 f4
      obtain ⟨v5, h5⟩ := open_acts f5
      obtain ⟨v6, h6⟩ := open_ints f6
      obtain ⟨v7, h7⟩ := open_ints f7
      simp only [List.cons.injEq, and_true] at h0
      subst h0
      simp only [List.cons.injEq, and_true] at h1
      subst h1
      simp only [List.cons.injEq, and_true] at h2
      subst h2
      simp only [List.cons.injEq, and_true] at h3
      subst h3
      simp only [List.cons.injEq, and_true] at h4
      subst h4
      exact ⟨⟨v0, v1, v2, v3, v4, v5, v6, v7⟩, ⟨_, _, _, rfl, h5, h6, h7⟩, rfl⟩
theorem open_exprs {v : Value} {fuel : Nat} {x : DataW H × List MemPlace} (h : DataW.trod enc Try.prog W base spare held fuel 24 [v] = some x) : ∃ l : List ExprM, ExprsR W v l :=
  open_row Try.underlying24 (by kernel_rfl) (by omega) (fun n cs x h => expr_cells h) h
theorem open_stmts {v : Value} {fuel : Nat} {x : DataW H × List MemPlace} (h : DataW.trod enc Try.prog W base spare held fuel 25 [v] = some x) : ∃ l : List StmtM, StmtsR W v l :=
  open_row Try.underlying25 (by kernel_rfl) (by omega) (fun n cs x h => stmt_cells h) h
set_option maxRecDepth 100000 in
theorem prog_cells {n : Nat} {c0 c1 c2 c3 : Value} {x : DataW H × List MemPlace} (h : DataW.trod enc Try.prog W base spare held n 28 [c0, c1, c2, c3] = some x) : ∃ p : ProgM, ProgR W (.agg #[c0, c1, c2, c3]) p := by
  obtain ⟨xs, m, rfl, _, hl, hxs, hf⟩ := DataW.trod_struct Try.underlying28 h
  match xs, hxs with
  | [y0, y1, y2, y3], _ =>
    have k0 : Try.prog.cellsOf 23 = 1 := by kernel_rfl
    have f0 : DataW.trod enc Try.prog W base spare held m 23 (([c0, c1, c2, c3].drop 0).take (Try.prog.cellsOf 23)) = [y0, y1, y2, y3][0]? := hf 0 _ rfl
    rw [k0] at f0
    have f0 : DataW.trod enc Try.prog W base spare held m 23 [c0] = some y0 := f0
    obtain ⟨v0, h0⟩ := open_decls f0
    have k1 : Try.prog.cellsOf 24 = 1 := by kernel_rfl
    have f1 : DataW.trod enc Try.prog W base spare held m 24 (([c0, c1, c2, c3].drop 1).take (Try.prog.cellsOf 24)) = [y0, y1, y2, y3][1]? := hf 1 _ rfl
    rw [k1] at f1
    have f1 : DataW.trod enc Try.prog W base spare held m 24 [c1] = some y1 := f1
    obtain ⟨v1, h1⟩ := open_exprs f1
    have k2 : Try.prog.cellsOf 25 = 1 := by kernel_rfl
    have f2 : DataW.trod enc Try.prog W base spare held m 25 (([c0, c1, c2, c3].drop 2).take (Try.prog.cellsOf 25)) = [y0, y1, y2, y3][2]? := hf 2 _ rfl
    rw [k2] at f2
    have f2 : DataW.trod enc Try.prog W base spare held m 25 [c2] = some y2 := f2
    obtain ⟨v2, h2⟩ := open_stmts f2
    have k3 : Try.prog.cellsOf 26 = 1 := by kernel_rfl
    have f3 : DataW.trod enc Try.prog W base spare held m 26 (([c0, c1, c2, c3].drop 3).take (Try.prog.cellsOf 26)) = [y0, y1, y2, y3][3]? := hf 3 _ rfl
    rw [k3] at f3
    have f3 : DataW.trod enc Try.prog W base spare held m 26 [c3] = some y3 := f3
    obtain ⟨v3, h3⟩ := open_ints f3
    exact ⟨⟨v0, v1, v2, v3⟩, ⟨_, _, _, _, rfl, h0, h1, h2, h3⟩⟩
set_option maxRecDepth 100000 in
theorem open_progs {n : Nat} {cs : List Value} {x : DataW H × List MemPlace} (h : DataW.trod enc Try.prog W base spare held n 29 cs = some x) :
    ∃ (a0 a1 a2 a3 b0 b1 b2 b3 : Value) (p q : ProgM), cs = [a0, a1, a2, a3, b0, b1, b2, b3] ∧ ProgR W (.agg #[a0, a1, a2, a3]) p ∧ ProgR W (.agg #[b0, b1, b2, b3]) q := by
  obtain ⟨xs, m, rfl, _, hl, hxs, hf⟩ := DataW.trod_array Try.underlying29 h
  have hlen : cs.length = 8 := hl.trans (by kernel_rfl)
  match cs, hlen with
  | [a0, a1, a2, a3, b0, b1, b2, b3], _ =>
    match xs, hxs with
    | [y0, y1], _ =>
      have k4 : Try.prog.cellsOf 28 = 4 := by kernel_rfl
      have f0 := hf 0 (by omega)
      have f1 := hf 1 (by omega)
      rw [k4] at f0 f1
      have f0 : DataW.trod enc Try.prog W base spare held m 28 [a0, a1, a2, a3] = some y0 := f0
      have f1 : DataW.trod enc Try.prog W base spare held m 28 [b0, b1, b2, b3] = some y1 := f1
      obtain ⟨p, hp⟩ := prog_cells f0
      obtain ⟨q, hq⟩ := prog_cells f1
      exact ⟨_, _, _, _, _, _, _, _, p, q, rfl, hp, hq⟩
end
end Go.Proofs.Ytlajcmoiopaemaa
