/- A list of declarations that came in. -/
import Derived.Deep.Slices
import Derived.Deep.Fields
import Derived.ProofKit
import Derived.Test.YtloilngmhekmmaaGreatDoorScope1
set_option linter.unusedVariables false
set_option linter.unusedSimpArgs false
namespace Go.Proofs.YtloilngmhekmmaaGreatDoor
open Go.ChangeShapes Go.WideShapes Go.ChangeAt Go.RowKit Go.Deep
section
variable {H : Type} {enc : TypeId × Value → H} {W : World} {base : Nat} {spare : Nat → Bool} {held : Bool}
set_option maxRecDepth 100000 in
theorem decl_cells {n : Nat} {cs : List Value} {x : DataW H × List MemPlace} (h : DataW.trod enc Tryz.prog W base spare held n 43 cs = some x) :
    ∃ d : DeclM, cs = [.string d.name, .int .u8 d.side, .int .u8 d.kind] ∧ d.name.size ≤ maxLen ∧ (Lit.int .u8 d.side).wf = true ∧ (Lit.int .u8 d.kind).wf = true := by
  obtain ⟨xs, m, rfl, _, hl, hxs, hf⟩ := DataW.trod_struct Tryz.underlying43 h
  have hlen : cs.length = 3 := hl.trans (by kernel_rfl)
  match cs, hlen with
  | [c0, c1, c2], _ =>
    match xs, hxs with
    | [y0, y1, y2], _ =>
      have k9 : Tryz.prog.cellsOf 9 = 1 := by kernel_rfl
      have k27 : Tryz.prog.cellsOf 27 = 1 := by kernel_rfl
      have k28 : Tryz.prog.cellsOf 28 = 1 := by kernel_rfl
      have f0 : DataW.trod enc Tryz.prog W base spare held m 9 (([c0, c1, c2].drop 0).take (Tryz.prog.cellsOf 9)) = [y0, y1, y2][0]? := hf 0 _ rfl
      have f1 : DataW.trod enc Tryz.prog W base spare held m 27 (([c0, c1, c2].drop 1).take (Tryz.prog.cellsOf 27)) = [y0, y1, y2][1]? := hf 1 _ rfl
      have f2 : DataW.trod enc Tryz.prog W base spare held m 28 (([c0, c1, c2].drop 2).take (Tryz.prog.cellsOf 28)) = [y0, y1, y2][2]? := hf 2 _ rfl
      rw [k9] at f0
      rw [k27] at f1
      rw [k28] at f2
      have f0 : DataW.trod enc Tryz.prog W base spare held m 9 [c0] = some y0 := f0
      have f1 : DataW.trod enc Tryz.prog W base spare held m 27 [c1] = some y1 := f1
      have f2 : DataW.trod enc Tryz.prog W base spare held m 28 [c2] = some y2 := f2
      obtain ⟨s, h0, _, hs⟩ := DataW.trod_string Tryz.underlying9 f0
      obtain ⟨a, h1, _, ha⟩ := DataW.trod_int Tryz.underlying27 f1
      obtain ⟨b, h2, _, hb⟩ := DataW.trod_int Tryz.underlying28 f2
      simp only [List.cons.injEq, and_true] at h0 h1 h2
      subst h0; subst h1; subst h2
      exact ⟨⟨s, a, b⟩, rfl, hs, ha, hb⟩
set_option maxRecDepth 100000 in
theorem open_decls {a : Option Addr} {len cap fuel : Nat} {x : DataW H × List MemPlace} (h : DataW.trod enc Tryz.prog W base spare held fuel 22 [.slice a len cap] = some x) :
    ∃ l : List DeclM, Decls W (fun _ => True) (.slice a len cap) l ∧ ∀ d ∈ l, d.name.size ≤ maxLen ∧ (Lit.int .u8 d.side).wf = true ∧ (Lit.int .u8 d.kind).wf = true := by
  rcases open_slice Tryz.underlying22 h with ⟨hcs, _⟩ | ⟨ad, len', cap', m, n, Dd, Pl, hcs, hb, hl, hm, hmm, hx, hi⟩
  · simp only [List.cons.injEq, Value.slice.injEq, and_true] at hcs
    obtain ⟨rfl, rfl, rfl⟩ := hcs
    exact ⟨[], Row.nil _ _ _ _, by simp⟩
  · simp only [List.cons.injEq, Value.slice.injEq, and_true] at hcs
    obtain ⟨rfl, rfl, rfl⟩ := hcs
    have hk : Tryz.prog.cellsOf 43 = 3 := by kernel_rfl
    rw [hk] at hi
    have hlm : len ≤ m := by rw [hmm]; split <;> omega
    have each : ∀ i, i < len → ∃ d : DeclM, (W.cell? (ad.add (i * 3 + 0)) = some (.string d.name) ∧ W.cell? (ad.add (i * 3 + 1)) = some (.int .u8 d.side) ∧ W.cell? (ad.add (i * 3 + 2)) = some (.int .u8 d.kind)) ∧ d.name.size ≤ maxLen ∧ (Lit.int .u8 d.side).wf = true ∧ (Lit.int .u8 d.kind).wf = true := by
      intro i hil
      obtain ⟨cs', hc, ht⟩ := hi i (by omega)
      obtain ⟨d, rfl, h1, h2, h3⟩ := decl_cells ht
      obtain ⟨_, _, hat⟩ := World.cells?_some hc
      have c0 := hat 0 (by omega)
      have c1 := hat 1 (by omega)
      have c2 := hat 2 (by omega)
      rw [Go.Deep.add_add] at c0 c1 c2
      exact ⟨d, ⟨c0, c1, c2⟩, h1, h2, h3⟩
    obtain ⟨f, hf⟩ := choose_lt each
    refine ⟨(List.range len).map f, ⟨some ad, cap, by simp, by simpa using hl, by simpa [maxLen] using hm, fun h0 => ?_⟩, fun d hd => ?_⟩
    · simp only [List.length_map, List.length_range] at h0 ⊢
      have hsp := World.cell?_spot (hf 0 h0).1.1
      obtain ⟨b, off, sp⟩ := ad
      have : sp = none := by simpa [Addr.add] using hsp
      subst this
      refine ⟨b, off, rfl, trivial, fun i hil => ?_⟩
      obtain ⟨⟨c0, c1, c2⟩, _⟩ := hf i hil
      rw [add_off] at c0 c1 c2
      have hn : nth ((List.range len).map f) i = f i := by rw [nth_eq (by simpa using hil)]; simp
      refine ⟨_, by rw [hn]; exact rfl, rfl, fun j u hj => ?_⟩
      match j with
      | 0 => simp only [List.getElem?_cons_zero, Option.some.injEq] at hj; subst hj; exact c0
      | 1 => simp only [List.getElem?_cons_succ, List.getElem?_cons_zero, Option.some.injEq] at hj; subst hj; exact c1
      | 2 => simp only [List.getElem?_cons_succ, List.getElem?_cons_zero, Option.some.injEq] at hj; subst hj; exact c2
      | j + 3 => simp at hj
    · simp only [List.mem_map, List.mem_range] at hd
      obtain ⟨i, hi, rfl⟩ := hd
      exact (hf i hi).2
end
end Go.Proofs.YtloilngmhekmmaaGreatDoor
