/- A program's keys, or the first declaration that may not be; a key's kind; names that nobody has declared: proved for every list of declarations, every key and every number. Conditions: none but those of the row (the three tables that it lists hold what the text lays; the card ties them to the text). -/
import Derived.Test.YtloilngmhekmmaaGreatDoorLawDecl
import Derived.Test.YtloilngmhekmmaaGreatDoorLive10
import Derived.Test.YtloilngmhekmmaaGreatDoorOpen1
import Derived.Test.YtloilngmhekmmaaGreatDoorCard10
set_option linter.unusedVariables false
set_option linter.unusedSimpArgs false
namespace Go.Proofs.YtloilngmhekmmaaGreatDoor.declared
open Go.ChangeShapes Go.WideShapes Go.ChangeAt Go.RowKit
section
variable {H : Type} {enc : TypeId × Value → H} {W : World} {base : Nat} {spare : Nat → Bool} {held : Bool}
set_option maxRecDepth 100000 in
theorem key_cells {n : Nat} {cs : List Value} {x : DataW H × List MemPlace} (h : DataW.trod enc Tryz.prog W base spare held n 31 cs = some x) :
    ∃ (k : ByteArray) (s : Int), cs = [.string k, .int .u8 s] := by
  obtain ⟨xs, m, rfl, _, hl, hxs, hf⟩ := DataW.trod_struct Tryz.underlying31 h
  have hlen : cs.length = 2 := hl.trans (by kernel_rfl)
  match cs, hlen with
  | [c0, c1], _ =>
    match xs, hxs with
    | [y0, y1], _ =>
      have k9 : Tryz.prog.cellsOf 9 = 1 := by kernel_rfl
      have k27 : Tryz.prog.cellsOf 27 = 1 := by kernel_rfl
      have f0 : DataW.trod enc Tryz.prog W base spare held m 9 (([c0, c1].drop 0).take (Tryz.prog.cellsOf 9)) = [y0, y1][0]? := hf 0 _ rfl
      have f1 : DataW.trod enc Tryz.prog W base spare held m 27 (([c0, c1].drop 1).take (Tryz.prog.cellsOf 27)) = [y0, y1][1]? := hf 1 _ rfl
      rw [k9] at f0
      rw [k27] at f1
      have f0 : DataW.trod enc Tryz.prog W base spare held m 9 [c0] = some y0 := f0
      have f1 : DataW.trod enc Tryz.prog W base spare held m 27 [c1] = some y1 := f1
      obtain ⟨s, h0, _, hs⟩ := DataW.trod_string Tryz.underlying9 f0
      obtain ⟨a, h1, _, ha⟩ := DataW.trod_int Tryz.underlying27 f1
      simp only [List.cons.injEq, and_true] at h0 h1
      subst h0; subst h1
      exact ⟨s, a, rfl⟩
end
set_option maxRecDepth 100000 in
theorem contract (H : Type) (enc : TypeId × Value → H) (W : World) (base : Nat) (args : Array Value) (ds gs : List (DataW H)) (before : List MemPlace)
    (hval : ∀ (j : Nat) t v, Tryz.f4.params[j]? = some t → args[j]? = some v → Value.okWide Tryz.prog W .any base t v)
    (hW : DataW.Whole enc Tryz.prog Tryz.f4.params.toList Rows.scopeDeclaredSpec.vars false W args.toList ds gs before) (hL : laidMetH Tryz.prog Rows.scopeDeclaredRow.laid W) :
    Calls Tryz.prog 4 args W fun e W' => ∃ v, e = .returned v ∧ Rows.scopeDeclaredSpec.post enc Tryz.prog Tryz.f4 false true false false W args v W' := by
  have hW' := hW
  obtain ⟨p, q, hA0, hV, rfl, hfz, hnd⟩ := hW
  have hA : DataW.TrodAll enc Tryz.prog W 0 (fun _ => true) true Tryz.f4.params.toList args.toList ds p := hA0
  rw [Tryz.params4] at hA hval
  obtain ⟨v0, vs0, d0, ds0, p0, q0, hargs, rfl, rfl, h0, r0⟩ := trodAll_cons hA
  obtain ⟨v1, vs1, d1, ds1, p1, q1, rfl, rfl, rfl, h1, r1⟩ := trodAll_cons r0
  obtain ⟨v2, vs2, d2, ds2, p2, q2, rfl, rfl, rfl, h2, r2⟩ := trodAll_cons r1
  obtain ⟨rfl, rfl, rfl⟩ := trodAll_nil r2
  obtain rfl : args = #[v0, v1, v2] := by cases args; simp_all
  obtain ⟨rfl, rfl⟩ := trodVars_none hV
  obtain ⟨a0, len0, cap0, rfl⟩ := okWide_slice Tryz.underlying22 (hval 0 22 v0 rfl rfl)
  obtain ⟨cs1, rfl, _⟩ := okWide_struct Tryz.underlying31 (hval 1 31 v1 rfl rfl)
  obtain ⟨m, rfl, rfl, rfl, hm⟩ := open_int Tryz.underlying3 (hval 2 3 v2 rfl rfl) h2
  obtain ⟨l, hD, hl⟩ : ∃ l : List DeclM, Decls W (fun _ => True) (.slice a0 len0 cap0) l ∧ ∀ d ∈ l, d.name.size ≤ maxLen ∧ (Lit.int .u8 d.side).wf = true ∧ (Lit.int .u8 d.kind).wf = true := by
    obtain ⟨fuel, hf⟩ := h0
    exact open_decls hf
  have lt0 : ∀ x ∈ p0, x.block < W.heap.size := by
    obtain ⟨fuel, hf⟩ := h0
    exact DataW.trod_lt fuel _ _ _ hf
  have lt1 : ∀ x ∈ p1, x.block < W.heap.size := by
    obtain ⟨fuel, hf⟩ := h1
    exact DataW.trod_lt fuel _ _ _ hf
  obtain ⟨kn, ks, hk⟩ : ∃ (k : ByteArray) (s : Int), cs1 = #[.string k, .int .u8 s] := by
    obtain ⟨fuel, hf⟩ := h1
    obtain ⟨k, s, he⟩ := key_cells hf
    refine ⟨k, s, ?_⟩
    apply Array.toList_inj.1
    exact he
  subst hk
  have hm' : -9223372036854775808 ≤ m ∧ m ≤ 9223372036854775807 := by
    simp [Lit.wf, IntKind.min, IntKind.max, IntKind.signed, IntKind.bits] at hm
    omega
  have hl' : ∀ d ∈ l, KeyIn (keyD d) ∧ 0 ≤ d.kind := fun d hd => by
    obtain ⟨a1, a2, a3⟩ := hl d hd
    simp [Lit.wf, IntKind.min, IntKind.max, IntKind.signed, IntKind.bits] at a2 a3
    exact ⟨⟨Nat.le_trans a1 (by unfold maxLen; omega), by show 0 ≤ d.side; omega, by show d.side ≤ 255; omega⟩, by omega⟩
  clear hA0
  simp only [List.append_nil] at hW'
  refine (lawDecl l (.slice a0 len0 cap0) _ kn ks m W hD hl' hm' (table hL) live_any).mono fun e W' ⟨he, hb⟩ => ?_
  subst he
  exact ⟨_, rfl, _, _, _, [], _, [], hW', trodAll_mk1 (shut_bool Tryz.underlying4 true), trodAll_cons_mk (Below.trod laidOut (by kernel_rfl) (of_decide_eq_true (by kernel_rfl)) h0 hb lt0) (trodAll_cons_mk (Below.trod laidOut (by kernel_rfl) (of_decide_eq_true (by kernel_rfl)) h1 hb lt1) (trodAll_cons_mk (shut_int Tryz.underlying3 hm) trodAll_mk0)), rfl, hb.frame _, fun h => by cases h⟩
theorem laid_met (os : Os) : laidMet Tryz.prog Rows.scopeDeclaredRow.laid ((laidWorld os).forCall (fun _ _ => 0) ⟨#[], #[.slice none 0 0, .agg #[.string ByteArray.empty, .int .u8 0], .int .i64 0], []⟩).memory :=
  laidMet_of_run' 8 (by kernel_rfl) (by kernel_rfl)
theorem reads (os : Os) {H : Type} (enc : TypeId × Value → H) : ∃ x places, DataW.whole enc Tryz.prog ((laidWorld os).forCall (fun _ _ => 0) ⟨#[], #[.slice none 0 0, .agg #[.string ByteArray.empty, .int .u8 0], .int .i64 0], []⟩).memory Tryz.f4.params.toList Rows.scopeDeclaredSpec.vars false #[Value.slice none 0 0, .agg #[.string ByteArray.empty, .int .u8 0], .int .i64 0].toList 8 = some (x, [], places) :=
  ⟨[.nil, .agg [.lit (.string []), .lit (.int .u8 0)], .lit (.int .i64 0)], [], by kernel_rfl⟩
set_option maxRecDepth 100000 in
theorem lifted (os : Os) (started : os.Started) (H : Type) (enc : TypeId × Value → H) (F : Stop.Interp) :
    ReturnsInHanded {} Tryz.checked os 4 .any ((OpenSpec.ofChange Rows.scopeDeclaredSpec).preRow enc Tryz.prog Tryz.f4 Rows.scopeDeclaredRow.domain false Rows.scopeDeclaredRow.laid) (((OpenSpec.ofChange Rows.scopeDeclaredSpec).at F).post enc Tryz.prog Tryz.f4 false true false false) := by
  obtain ⟨x, places, hx⟩ := reads os enc
  refine returnsInHanded_of_row (C := Tryz.checked) (s := OpenSpec.ofChange Rows.scopeDeclaredSpec) own started (by kernel_rfl) Tryz.func4
    (witness_row_at (enc := enc) (C := Tryz.checked) false (laidWorld os) #[.slice none 0 0, .agg #[.string ByteArray.empty, .int .u8 0], .int .i64 0] rfl (by kernel_rfl) (by kernel_rfl) (by kernel_rfl)
      (OpenSpec.preRow_of_cond 8 hx (by kernel_rfl) (fun k hk => by cases hk) (by kernel_rfl) (laid_met os))) ?_
  intro W base args ds gs before hval hW _ _ _ hL _ _
  exact contract H enc W base args ds gs before hval hW hL
theorem said : Rows.ScopeDeclaredSaid :=
  OpenClaim.holds_of_cond 4 Tryz.f4 rfl rfl rfl rfl rfl rfl rfl ⟨rfl, rfl, rfl, rfl, rfl⟩ rfl rfl rfl rfl rfl (by kernel_rfl) Tryz.func4 (by kernel_rfl)
    (of_decide_eq_true (by kernel_rfl)) (by unfold Func.isWrapper; first | (rw [if_pos (by decide +kernel)]; kernel_rfl) | (rw [if_neg (by decide +kernel)]; exact ⟨rfl, rfl⟩))
    (fun os started H enc _ F => by rw [OpenClaim.pre_eq_preRow]; exact lifted os started H enc F)
theorem plain (f : FuncId) (fn : Func) (hf : Tryz.pinned.checked.prog.funcNamed "reticule/reticulelaw10.ScopeDeclared" = some f) (hfn : Tryz.pinned.checked.prog.funcs[f]? = some fn) :
    true = Tryz.pinned.checked.prog.looks [] ∧ ∀ (j : Nat) t, fn.params[j]? = some t → Tryz.pinned.checked.prog.wantsStandIn t = false := by
  obtain rfl : f = 4 := Option.some.inj ((show Tryz.prog.funcNamed "reticule/reticulelaw10.ScopeDeclared" = some 4 by kernel_rfl).symm.trans hf) |>.symm
  obtain rfl : fn = Tryz.f4 := (Option.some.inj (Tryz.func4.symm.trans hfn)).symm
  refine ⟨by kernel_rfl, fun j t ht => ?_⟩
  rw [Tryz.params4] at ht
  have hm : t ∈ #[22, 31, 3] := Array.mem_of_getElem? ht
  have h2 : t = 22 ∨ t = 31 ∨ t = 3 := by simpa using hm
  rcases h2 with rfl | rfl | rfl
  · exact (show Tryz.prog.wantsStandIn 22 = false by kernel_rfl)
  · exact (show Tryz.prog.wantsStandIn 31 = false by kernel_rfl)
  · exact (show Tryz.prog.wantsStandIn 3 = false by kernel_rfl)
/-- The card: the statement that is claimed. -/
theorem card : Rows.ScopeDeclaredCardSaid :=
  Claim7.holds_tied_plain_at .later [] _ _ _ _ said (fun _ h => by cases h) (by kernel_rfl) (fun _ h => by cases h) scopeDeclared_row_tie rfl ⟨rfl, rfl⟩ (by kernel_rfl) rfl plain (by kernel_rfl)
end Go.Proofs.YtloilngmhekmmaaGreatDoor.declared
namespace Go.Proofs.YtloilngmhekmmaaGreatDoor
/-- The statement, under a short name, for the claim. -/
theorem scopeDeclared_holds : Rows.ScopeDeclaredCardSaid := declared.card
#print axioms scopeDeclared_holds
end Go.Proofs.YtloilngmhekmmaaGreatDoor
