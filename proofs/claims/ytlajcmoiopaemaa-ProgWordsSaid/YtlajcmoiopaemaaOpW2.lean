/- Operations' words. -/
import Derived.Test.YtlajcmoiopaemaaSame10
set_option linter.unusedVariables false
set_option linter.unusedSimpArgs false
namespace Go.Proofs.Ytlajcmoiopaemaa
open Go.RowKit
/-- the operations' words, by their numbers -/
def opWords : List ByteArray := [⟨#[]⟩, ⟨#[43]⟩, ⟨#[45]⟩, ⟨#[42]⟩, ⟨#[47]⟩, ⟨#[37]⟩, ⟨#[109, 105, 110]⟩, ⟨#[109, 97, 120]⟩, ⟨#[115, 104, 108]⟩, ⟨#[115, 104, 114]⟩, ⟨#[38]⟩, ⟨#[124]⟩, ⟨#[94]⟩, ⟨#[61]⟩, ⟨#[60]⟩, ⟨#[110, 111, 116]⟩, ⟨#[97, 110, 100]⟩, ⟨#[111, 114]⟩, ⟨#[105, 102]⟩, ⟨#[110, 97, 114, 114, 111, 119]⟩]
def wordsV : Value := .agg #[.string ⟨#[]⟩, .string ⟨#[43]⟩, .string ⟨#[45]⟩, .string ⟨#[42]⟩, .string ⟨#[47]⟩, .string ⟨#[37]⟩, .string ⟨#[109, 105, 110]⟩, .string ⟨#[109, 97, 120]⟩, .string ⟨#[115, 104, 108]⟩, .string ⟨#[115, 104, 114]⟩, .string ⟨#[38]⟩, .string ⟨#[124]⟩, .string ⟨#[94]⟩, .string ⟨#[61]⟩, .string ⟨#[60]⟩, .string ⟨#[110, 111, 116]⟩, .string ⟨#[97, 110, 100]⟩, .string ⟨#[111, 114]⟩, .string ⟨#[105, 102]⟩, .string ⟨#[110, 97, 114, 114, 111, 119]⟩]
instance : Inhabited ByteArray := ⟨⟨#[]⟩⟩
def opWordS (o : Int) : ByteArray := if 19 < o then ⟨#[]⟩ else nth opWords o.toNat
def wordsA : Array Value := wordsV.cells
theorem wpList_built {P : Program} {Q : Exit → Act → World → Prop} {ops : Array Oper} {rest : List Oper} {o : Oper} {a : Act} {w : World} (hg : o.guard = none) (t : TypeId) (parts : Array (Nat × Operand)) (ho : o.op = .build t parts) (c : Array Value)
    (hf : P.built t (parts.map fun (i, x) => (i, a.eval x)).toList = some c) (h : wpList P ops Q rest (a.put o.dst (.agg c)) w) : wpList P ops Q (o :: rest) a w :=
  wpList_build hg t parts ho (by rw [hf]; rfl) (by rw [hf]; exact h)
theorem results_cell {fn : Func} {t : Tmp} {ty : TypeId} (h : fn.results = #[.cell t ty]) (tmps : Array Value) (P : Program) (w : World) (v : Value) (a : Addr) (hp : tmps.getD t undef = .pointer (some a)) (hl : (loadVar ty a).run P w = .ok v w) : (results fn tmps).run P w = .ok v w := by
  simp only [Array.getD_eq_getD_getElem?] at hp
  simp [results, h, hp, asAddr, hl]
set_option maxHeartbeats 1600000 in
set_option maxRecDepth 100000 in
theorem words_any (w : World) : Calls Try.prog 12 #[] w fun e w' => e = .returned wordsV ∧ Below w.heap.size w w' := by
  go_enter Try.func12, Try.ntmps12
  go_upto_region 1 with fail
  refine wp_region_lit ?_
  refine wpList_built rfl 38 _ rfl wordsA (by kernel_rfl) ?_
  refine wpList_store_row rfl 38 (.tmp 0) (.tmp 1) rfl w.heap.size wordsA rfl rfl 38 _ (new_blk w _) (by kernel_rfl) rfl (by kernel_rfl) ?_
  refine wpList_nil ?_
  have hb := setRow_heap (w.alloc _) w.heap.size _ wordsA 38 (0, 0) (new_blk w (.cells #[.string ⟨#[]⟩, .string ⟨#[]⟩, .string ⟨#[]⟩, .string ⟨#[]⟩, .string ⟨#[]⟩, .string ⟨#[]⟩, .string ⟨#[]⟩, .string ⟨#[]⟩, .string ⟨#[]⟩, .string ⟨#[]⟩, .string ⟨#[]⟩, .string ⟨#[]⟩, .string ⟨#[]⟩, .string ⟨#[]⟩, .string ⟨#[]⟩, .string ⟨#[]⟩, .string ⟨#[]⟩, .string ⟨#[]⟩, .string ⟨#[]⟩, .string ⟨#[]⟩] 38 (0, 0)))
  have hB : Below w.heap.size w ((w.alloc (.cells #[.string ⟨#[]⟩, .string ⟨#[]⟩, .string ⟨#[]⟩, .string ⟨#[]⟩, .string ⟨#[]⟩, .string ⟨#[]⟩, .string ⟨#[]⟩, .string ⟨#[]⟩, .string ⟨#[]⟩, .string ⟨#[]⟩, .string ⟨#[]⟩, .string ⟨#[]⟩, .string ⟨#[]⟩, .string ⟨#[]⟩, .string ⟨#[]⟩, .string ⟨#[]⟩, .string ⟨#[]⟩, .string ⟨#[]⟩, .string ⟨#[]⟩, .string ⟨#[]⟩] 38 (0, 0))).setRow w.heap.size wordsA) :=
    ⟨rfl, rfl, rfl, by simp, fun k hk => (setRow_other _ _ _ _ (by omega)).trans (Below.heap_alloc w _ k hk)⟩
  generalize (w.alloc (.cells #[.string ⟨#[]⟩, .string ⟨#[]⟩, .string ⟨#[]⟩, .string ⟨#[]⟩, .string ⟨#[]⟩, .string ⟨#[]⟩, .string ⟨#[]⟩, .string ⟨#[]⟩, .string ⟨#[]⟩, .string ⟨#[]⟩, .string ⟨#[]⟩, .string ⟨#[]⟩, .string ⟨#[]⟩, .string ⟨#[]⟩, .string ⟨#[]⟩, .string ⟨#[]⟩, .string ⟨#[]⟩, .string ⟨#[]⟩, .string ⟨#[]⟩, .string ⟨#[]⟩] 38 (0, 0))).setRow w.heap.size wordsA = W at hb hB ⊢
  simp only [Act.put]
  go_wp2
  refine bodyPost_ret (results_cell rfl _ _ _ (.agg wordsA) ⟨w.heap.size, 0, none⟩ rfl (run_loadVar_row W w.heap.size 38 38 wordsA (0, 0) _ hb Try.underlying38 rfl (by kernel_rfl))) rfl ?_
  exact ⟨rfl, hB⟩
set_option maxHeartbeats 1600000 in
set_option maxRecDepth 100000 in
theorem opWord_any (o : Int) (w : World) (h0 : 0 ≤ o) : Calls Try.prog 8 #[.int .u8 o] w fun e w' => e = .returned (.string (opWordS o)) ∧ Below w.heap.size w w' := by
  by_cases h19 : 19 < o
  · go_enter Try.func8, Try.ntmps8
    go_wp2
    go_ret
    exact ⟨by rw [opWordS, if_pos h19]; rfl, Below.refl _ _⟩
  · obtain ⟨k, rfl⟩ : ∃ k : Nat, o = k := ⟨o.toNat, by omega⟩
    have hk : k < 20 := by omega
    have hix : ∀ W, (Instr.index 38 wordsV (.int .u8 (k : Int))).run Try.prog W = .ok (.string (nth opWords k)) W := by
      intro W
      have : k = 0 ∨ k = 1 ∨ k = 2 ∨ k = 3 ∨ k = 4 ∨ k = 5 ∨ k = 6 ∨ k = 7 ∨ k = 8 ∨ k = 9 ∨ k = 10 ∨ k = 11 ∨ k = 12 ∨ k = 13 ∨ k = 14 ∨ k = 15 ∨ k = 16 ∨ k = 17 ∨ k = 18 ∨ k = 19 := by omega
      rcases this with rfl | rfl | rfl | rfl | rfl | rfl | rfl | rfl | rfl | rfl | rfl | rfl | rfl | rfl | rfl | rfl | rfl | rfl | rfl | rfl <;> rfl
    clear hk
    go_enter Try.func8, Try.ntmps8
    go_wp2_with (go_at_call 12; refine (words_any _).mono ?_; rintro e w' ⟨rfl, hb⟩)
    go_ret
    exact ⟨by rw [opWordS, if_neg (by omega), Int.toNat_natCast]; rfl, hb⟩
set_option maxHeartbeats 1600000 in
set_option maxRecDepth 100000 in
theorem refOpWord_any (o : Int) (w : World) (h0 : 0 ≤ o) (h255 : o ≤ 255) : Calls Try.prog 9 #[.int .u8 o] w fun e w' => e = .returned (.string (opWordS o)) ∧ Below w.heap.size w w' := by
  have hw1 : IntKind.i64.wrap o = o := i64w (by omega) (by omega)
  go_enter Try.func9, Try.ntmps9
  go_upto_region 2 with fail
  have hb := new_blk w (.cells #[.string ⟨#[]⟩, .string ⟨#[43]⟩, .string ⟨#[45]⟩, .string ⟨#[42]⟩, .string ⟨#[47]⟩, .string ⟨#[37]⟩, .string ⟨#[109, 105, 110]⟩, .string ⟨#[109, 97, 120]⟩, .string ⟨#[115, 104, 108]⟩, .string ⟨#[115, 104, 114]⟩, .string ⟨#[38]⟩, .string ⟨#[124]⟩, .string ⟨#[94]⟩, .string ⟨#[61]⟩, .string ⟨#[60]⟩, .string ⟨#[110, 111, 116]⟩, .string ⟨#[97, 110, 100]⟩, .string ⟨#[111, 114]⟩, .string ⟨#[105, 102]⟩, .string ⟨#[110, 97, 114, 114, 111, 119]⟩] 9 (0, 0))
  have hB : Below w.heap.size w (w.alloc (.cells #[.string ⟨#[]⟩, .string ⟨#[43]⟩, .string ⟨#[45]⟩, .string ⟨#[42]⟩, .string ⟨#[47]⟩, .string ⟨#[37]⟩, .string ⟨#[109, 105, 110]⟩, .string ⟨#[109, 97, 120]⟩, .string ⟨#[115, 104, 108]⟩, .string ⟨#[115, 104, 114]⟩, .string ⟨#[38]⟩, .string ⟨#[124]⟩, .string ⟨#[94]⟩, .string ⟨#[61]⟩, .string ⟨#[60]⟩, .string ⟨#[110, 111, 116]⟩, .string ⟨#[97, 110, 100]⟩, .string ⟨#[111, 114]⟩, .string ⟨#[105, 102]⟩, .string ⟨#[110, 97, 114, 114, 111, 119]⟩] 9 (0, 0))) := (Below.refl _ _).alloc (Nat.le_refl _) _
  generalize w.alloc (.cells #[.string ⟨#[]⟩, .string ⟨#[43]⟩, .string ⟨#[45]⟩, .string ⟨#[42]⟩, .string ⟨#[47]⟩, .string ⟨#[37]⟩, .string ⟨#[109, 105, 110]⟩, .string ⟨#[109, 97, 120]⟩, .string ⟨#[115, 104, 108]⟩, .string ⟨#[115, 104, 114]⟩, .string ⟨#[38]⟩, .string ⟨#[124]⟩, .string ⟨#[94]⟩, .string ⟨#[61]⟩, .string ⟨#[60]⟩, .string ⟨#[110, 111, 116]⟩, .string ⟨#[97, 110, 100]⟩, .string ⟨#[111, 114]⟩, .string ⟨#[105, 102]⟩, .string ⟨#[110, 97, 114, 114, 111, 119]⟩] 9 (0, 0)) = W at hb hB ⊢
  by_cases h19 : 19 < o
  · have h20 : (20 : Int) ≤ o := by omega
    clear hb
    go_wp2
    go_ret
    exact ⟨by rw [opWordS, if_pos h19]; rfl, hB⟩
  · obtain ⟨k, rfl⟩ : ∃ k : Nat, o = k := ⟨o.toNat, by omega⟩
    have hk : k < 20 := by omega
    have hc : W.cell? ⟨w.heap.size, k, none⟩ = some (.string (nth opWords k)) := by
      rw [blk_cell hb]
      have : k = 0 ∨ k = 1 ∨ k = 2 ∨ k = 3 ∨ k = 4 ∨ k = 5 ∨ k = 6 ∨ k = 7 ∨ k = 8 ∨ k = 9 ∨ k = 10 ∨ k = 11 ∨ k = 12 ∨ k = 13 ∨ k = 14 ∨ k = 15 ∨ k = 16 ∨ k = 17 ∨ k = 18 ∨ k = 19 := by omega
      rcases this with rfl | rfl | rfl | rfl | rfl | rfl | rfl | rfl | rfl | rfl | rfl | rfl | rfl | rfl | rfl | rfl | rfl | rfl | rfl | rfl <;> rfl
    clear hb
    have hk' : ¬ ((20 : Int) ≤ (k : Int)) := by omega
    go_wp2
    go_ret
    exact ⟨by rw [opWordS, if_neg (by omega), Int.toNat_natCast]; rfl, hB⟩
theorem str_eq (s t : ByteArray) : (s.toList == t.toList) = decide (s = t) := by
  rw [Bool.eq_iff_iff]
  simp only [beq_iff_eq, decide_eq_true_eq, ByteArray.toList_eq]
  constructor
  · intro h
    have h2 := Array.toList_inj.1 h
    cases s; cases t; simp_all
  · intro h; rw [h]
def cnt (v : Value) : Nat := match v with | .int _ k => k.toNat | _ => 0
def readGo : Nat → Nat → ByteArray → Int × Bool
  | 0, _, _ => (0, false)
  | f + 1, k, s => if nth opWords k = s then ((k : Int), true) else readGo f (k + 1) s
def readOpS (s : ByteArray) : Int × Bool := readGo 19 1 s
set_option maxHeartbeats 800000 in
set_option maxRecDepth 100000 in
theorem refReadOp_any (s : ByteArray) (w : World) : Calls Try.prog 5 #[.string s] w fun e w' => e = .returned (.tuple #[.int .u8 (readOpS s).1, .bool (readOpS s).2]) ∧ Below w.heap.size w w' := by
  go_enter Try.func5, Try.ntmps5
  go_wp2
  go_loopw [2, 3, 4] (fun s2 s3 s4 wr => ∃ k : Nat, s4 = .int .u8 (k : Int) ∧ 1 ≤ k ∧ k ≤ 20 ∧ Below w.heap.size w wr ∧ Hid (readOpS s = readGo (20 - k) k s)) (fun s2 s3 s4 wr => 20 - cnt s4)
  case atStart => exact ⟨1, rfl, by omega, by omega, Below.refl _ _, hid rfl⟩
  case round =>
    obtain ⟨k, rfl, h1, h20, hB, hR⟩ := hrel
    by_cases hlt : k < 20
    · have hl : (k : Int) ≤ 19 := by omega
      have hw : IntKind.u8.wrap ((k : Int) + 1) = (k : Int) + 1 := by simp [IntKind.wrap, IntKind.signed, IntKind.bits]; omega
      have hop : opWordS (k : Int) = nth opWords k := by rw [opWordS, if_neg (by omega), Int.toNat_natCast]
      have hstep : Hid (readOpS s = if nth opWords k = s then ((k : Int), true) else readGo (20 - (k + 1)) (k + 1) s) := by
        have := hR.out
        rw [show 20 - k = (20 - (k + 1)) + 1 by omega, readGo] at this
        exact this
      have HOP := hid hop
      clear hop hR
      have hse := str_eq (nth opWords k) s
      by_cases he : nth opWords k = s
      · have hb : ((nth opWords k).toList == s.toList) = true := by rw [hse]; simpa using he
        have HE := hid he
        clear hse he
        go_wp2_with (go_at_call 9; refine (refOpWord_any _ _ (by omega) (by omega)).mono ?_; rintro e w' ⟨rfl, hb2⟩; rw [HOP.out])
        go_ret2
        rw [hstep.out, if_pos HE.out]
        exact ⟨rfl, hB.trans (hb2.mono hB.size)⟩
      · have hb : ((nth opWords k).toList == s.toList) = false := by rw [hse]; simpa using he
        have HE := hid he
        clear hse he
        go_wp2_with (go_at_call 9; refine (refOpWord_any _ _ (by omega) (by omega)).mono ?_; rintro e w' ⟨rfl, hb2⟩; rw [HOP.out])
        go_roundw
        case rel => exact ⟨k + 1, by simp, by omega, by omega, hB.trans (hb2.mono hB.size), hid (by rw [hstep.out, if_neg HE.out])⟩
        case measure => simp only [cnt]; omega
    · have hl : ¬ ((k : Int) ≤ 19) := by omega
      have hk : k = 20 := by omega
      subst hk
      go_wp2
      go_ret2
      rw [hR.out]
      exact ⟨rfl, hB⟩
end Go.Proofs.Ytlajcmoiopaemaa
