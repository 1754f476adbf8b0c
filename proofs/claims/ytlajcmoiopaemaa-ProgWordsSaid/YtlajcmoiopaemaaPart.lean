/- A part of a program. Printed by gen_part.py. -/
import Derived.Test.YtlajcmoiopaemaaSame8
import Derived.Laws.Rows
set_option linter.unusedVariables false
set_option linter.unusedSimpArgs false
namespace Go.Proofs.Ytlajcmoiopaemaa
open Go.RowKit
theorem Row.take {α : Type} [Inhabited α] {w : World} {D : Nat → Prop} {R : α → List Value → Prop} {size : Nat} {A : Option Addr} {c m : Nat} {l : List α} (h : Row w D R size (.slice A l.length c) l) (hm : m ≤ l.length) : Row w D R size (.slice A m c) (l.take m) := by
  obtain ⟨A', c', h1, h2, h3, h4⟩ := h.out
  simp only [Value.slice.injEq] at h1
  obtain ⟨rfl, _, rfl⟩ := h1
  refine ⟨A, c, by rw [List.length_take, Nat.min_eq_left hm], by rw [List.length_take]; omega, h3, fun h0 => ?_⟩
  rw [List.length_take] at h0
  obtain ⟨b, off, hA, hD, hall⟩ := h4 (by omega)
  refine ⟨b, off, hA, hD, fun i hi => ?_⟩
  rw [List.length_take] at hi
  obtain ⟨cs, hr, hl, hcs⟩ := hall i (by omega)
  have : nth (l.take m) i = nth l i := by
    rw [nth_eq (by rw [List.length_take]; omega), nth_eq (by omega)]; simp
  exact ⟨cs, by rw [this]; exact hr, hl, hcs⟩
theorem Row.some {α : Type} [Inhabited α] {w : World} {D : Nat → Prop} {R : α → List Value → Prop} {size : Nat} {A : Option Addr} {n c : Nat} {l : List α} (h : Row w D R size (.slice A n c) l) (h0 : 0 < l.length) : ∃ b off, A = some ⟨b, off, none⟩ := by
  obtain ⟨A', c', h1, h2, h3, h4⟩ := h.out
  simp only [Value.slice.injEq] at h1
  obtain ⟨rfl, _, rfl⟩ := h1
  obtain ⟨b, off, hA, _⟩ := h4 h0
  exact ⟨b, off, hA⟩
theorem ProgR.mk4 {w0 : World} {v0 v1 v2 v3 u0 u1 u2 u3 : Value} {p q : ProgM} (h : ProgR w0 (.agg #[v0, v1, v2, v3]) p) (k0 : Decls w0 v0 p.decls → Decls w0 u0 q.decls) (k1 : ExprsR w0 v1 p.exprs → ExprsR w0 u1 q.exprs) (k2 : StmtsR w0 v2 p.stmts → StmtsR w0 u2 q.stmts) (k3 : IntsR w0 v3 p.main → IntsR w0 u3 q.main) : ProgR w0 (.agg #[u0, u1, u2, u3]) q := by
  obtain ⟨a, b, c, d, e, h0, h1, h2, h3⟩ := h.out
  simp only [Value.agg.injEq, Array.mk.injEq, List.cons.injEq, and_true] at e
  obtain ⟨rfl, rfl, rfl, rfl⟩ := e
  exact ⟨_, _, _, _, rfl, k0 h0, k1 h1, k2 h2, k3 h3⟩
def partS (p : ProgM) : ProgM := ⟨p.decls.take 40, p.exprs.take 80, p.stmts.take 40, p.main.take 40⟩
set_option maxHeartbeats 6400000 in
set_option maxRecDepth 100000 in
theorem part_any (p : ProgM) (v : Value) (w : World) (h : ProgR w v p) : Calls Try.prog 6 #[v] w fun e w' => (∃ a0 a1 a2 a3, e = .returned (.agg #[a0, a1, a2, a3]) ∧ ∀ w0, ProgR w0 v p → ProgR w0 (.agg #[a0, a1, a2, a3]) (partS p)) ∧ Below w.heap.size w w' := by
  obtain ⟨v0, v1, v2, v3, rfl, h0, h1, h2, h3⟩ := h.out
  clear h
  obtain ⟨l0, l1, l2, l3⟩ := p
  obtain ⟨A0, c0, rfl, hc0, hm0⟩ := Row.slice h0
  simp only at h0 hc0
  obtain ⟨A1, c1, rfl, hc1, hm1⟩ := Row.slice h1
  simp only at h1 hc1
  obtain ⟨A2, c2, rfl, hc2, hm2⟩ := Row.slice h2
  simp only at h2 hc2
  obtain ⟨A3, c3, rfl, hc3, hm3⟩ := Row.slice h3
  simp only at h3 hc3
  by_cases n0 : 40 < l0.length
  · have g0 : (40 : Int) < (l0.length : Int) := by omega
    obtain ⟨b0, o0, rfl⟩ := Row.some h0 (by omega)
    have H0 := hid (show ∀ w0, Decls w0 (.slice (some ⟨b0, o0, none⟩) l0.length c0) l0 → Decls w0 (.slice (some ⟨b0, o0, none⟩) 40 c0) (l0.take 40) from fun w0 h => Row.take h (by omega))
    clear h0 n0
    by_cases n1 : 80 < l1.length
    · have g1 : (80 : Int) < (l1.length : Int) := by omega
      obtain ⟨b1, o1, rfl⟩ := Row.some h1 (by omega)
      have H1 := hid (show ∀ w0, ExprsR w0 (.slice (some ⟨b1, o1, none⟩) l1.length c1) l1 → ExprsR w0 (.slice (some ⟨b1, o1, none⟩) 80 c1) (l1.take 80) from fun w0 h => Row.take h (by omega))
      clear h1 n1
      by_cases n2 : 40 < l2.length
      · have g2 : (40 : Int) < (l2.length : Int) := by omega
        obtain ⟨b2, o2, rfl⟩ := Row.some h2 (by omega)
        have H2 := hid (show ∀ w0, StmtsR w0 (.slice (some ⟨b2, o2, none⟩) l2.length c2) l2 → StmtsR w0 (.slice (some ⟨b2, o2, none⟩) 40 c2) (l2.take 40) from fun w0 h => Row.take h (by omega))
        clear h2 n2
        by_cases n3 : 40 < l3.length
        · have g3 : (40 : Int) < (l3.length : Int) := by omega
          obtain ⟨b3, o3, rfl⟩ := Row.some h3 (by omega)
          have H3 := hid (show ∀ w0, IntsR w0 (.slice (some ⟨b3, o3, none⟩) l3.length c3) l3 → IntsR w0 (.slice (some ⟨b3, o3, none⟩) 40 c3) (l3.take 40) from fun w0 h => Row.take h (by omega))
          clear h3 n3
          go_enter Try.func6, Try.ntmps6
          go_wp2
          (try simp only [Exit.inBlock, Exit.then])
          refine bodyPost_ret (results_cell_row rfl _ _ _ _ _ (0, 0) _ rfl (heap_alloc2_new w _ _) Try.underlying28 rfl (by kernel_rfl)) rfl ?_
          exact ⟨⟨_, _, _, _, rfl, fun w0 h => ProgR.mk4 h (H0.out w0) (H1.out w0) (H2.out w0) (H3.out w0)⟩, ((Below.refl _ _).alloc (Nat.le_refl _) _).alloc (by simp) _⟩
        · have g3 : ¬ (40 : Int) < (l3.length : Int) := by omega
          have H3 := hid (show ∀ w0, IntsR w0 (.slice A3 l3.length c3) l3 → IntsR w0 (.slice A3 l3.length c3) (l3.take 40) from fun w0 h => by rw [List.take_of_length_le (by omega)]; exact h)
          clear h3 n3
          go_enter Try.func6, Try.ntmps6
          go_wp2
          (try simp only [Exit.inBlock, Exit.then])
          refine bodyPost_ret (results_cell_row rfl _ _ _ _ _ (0, 0) _ rfl (heap_alloc2_new w _ _) Try.underlying28 rfl (by kernel_rfl)) rfl ?_
          exact ⟨⟨_, _, _, _, rfl, fun w0 h => ProgR.mk4 h (H0.out w0) (H1.out w0) (H2.out w0) (H3.out w0)⟩, ((Below.refl _ _).alloc (Nat.le_refl _) _).alloc (by simp) _⟩
      · have g2 : ¬ (40 : Int) < (l2.length : Int) := by omega
        have H2 := hid (show ∀ w0, StmtsR w0 (.slice A2 l2.length c2) l2 → StmtsR w0 (.slice A2 l2.length c2) (l2.take 40) from fun w0 h => by rw [List.take_of_length_le (by omega)]; exact h)
        clear h2 n2
        by_cases n3 : 40 < l3.length
        · have g3 : (40 : Int) < (l3.length : Int) := by omega
          obtain ⟨b3, o3, rfl⟩ := Row.some h3 (by omega)
          have H3 := hid (show ∀ w0, IntsR w0 (.slice (some ⟨b3, o3, none⟩) l3.length c3) l3 → IntsR w0 (.slice (some ⟨b3, o3, none⟩) 40 c3) (l3.take 40) from fun w0 h => Row.take h (by omega))
          clear h3 n3
          go_enter Try.func6, Try.ntmps6
          go_wp2
          (try simp only [Exit.inBlock, Exit.then])
          refine bodyPost_ret (results_cell_row rfl _ _ _ _ _ (0, 0) _ rfl (heap_alloc2_new w _ _) Try.underlying28 rfl (by kernel_rfl)) rfl ?_
          exact ⟨⟨_, _, _, _, rfl, fun w0 h => ProgR.mk4 h (H0.out w0) (H1.out w0) (H2.out w0) (H3.out w0)⟩, ((Below.refl _ _).alloc (Nat.le_refl _) _).alloc (by simp) _⟩
        · have g3 : ¬ (40 : Int) < (l3.length : Int) := by omega
          have H3 := hid (show ∀ w0, IntsR w0 (.slice A3 l3.length c3) l3 → IntsR w0 (.slice A3 l3.length c3) (l3.take 40) from fun w0 h => by rw [List.take_of_length_le (by omega)]; exact h)
          clear h3 n3
          go_enter Try.func6, Try.ntmps6
          go_wp2
          (try simp only [Exit.inBlock, Exit.then])
          refine bodyPost_ret (results_cell_row rfl _ _ _ _ _ (0, 0) _ rfl (heap_alloc2_new w _ _) Try.underlying28 rfl (by kernel_rfl)) rfl ?_
          exact ⟨⟨_, _, _, _, rfl, fun w0 h => ProgR.mk4 h (H0.out w0) (H1.out w0) (H2.out w0) (H3.out w0)⟩, ((Below.refl _ _).alloc (Nat.le_refl _) _).alloc (by simp) _⟩
    · have g1 : ¬ (80 : Int) < (l1.length : Int) := by omega
      have H1 := hid (show ∀ w0, ExprsR w0 (.slice A1 l1.length c1) l1 → ExprsR w0 (.slice A1 l1.length c1) (l1.take 80) from fun w0 h => by rw [List.take_of_length_le (by omega)]; exact h)
      clear h1 n1
      by_cases n2 : 40 < l2.length
      · have g2 : (40 : Int) < (l2.length : Int) := by omega
        obtain ⟨b2, o2, rfl⟩ := Row.some h2 (by omega)
        have H2 := hid (show ∀ w0, StmtsR w0 (.slice (some ⟨b2, o2, none⟩) l2.length c2) l2 → StmtsR w0 (.slice (some ⟨b2, o2, none⟩) 40 c2) (l2.take 40) from fun w0 h => Row.take h (by omega))
        clear h2 n2
        by_cases n3 : 40 < l3.length
        · have g3 : (40 : Int) < (l3.length : Int) := by omega
          obtain ⟨b3, o3, rfl⟩ := Row.some h3 (by omega)
          have H3 := hid (show ∀ w0, IntsR w0 (.slice (some ⟨b3, o3, none⟩) l3.length c3) l3 → IntsR w0 (.slice (some ⟨b3, o3, none⟩) 40 c3) (l3.take 40) from fun w0 h => Row.take h (by omega))
          clear h3 n3
          go_enter Try.func6, Try.ntmps6
          go_wp2
          (try simp only [Exit.inBlock, Exit.then])
          refine bodyPost_ret (results_cell_row rfl _ _ _ _ _ (0, 0) _ rfl (heap_alloc2_new w _ _) Try.underlying28 rfl (by kernel_rfl)) rfl ?_
          exact ⟨⟨_, _, _, _, rfl, fun w0 h => ProgR.mk4 h (H0.out w0) (H1.out w0) (H2.out w0) (H3.out w0)⟩, ((Below.refl _ _).alloc (Nat.le_refl _) _).alloc (by simp) _⟩
        · have g3 : ¬ (40 : Int) < (l3.length : Int) := by omega
          have H3 := hid (show ∀ w0, IntsR w0 (.slice A3 l3.length c3) l3 → IntsR w0 (.slice A3 l3.length c3) (l3.take 40) from fun w0 h => by rw [List.take_of_length_le (by omega)]; exact h)
          clear h3 n3
          go_enter Try.func6, Try.ntmps6
          go_wp2
          (try simp only [Exit.inBlock, Exit.then])
          refine bodyPost_ret (results_cell_row rfl _ _ _ _ _ (0, 0) _ rfl (heap_alloc2_new w _ _) Try.underlying28 rfl (by kernel_rfl)) rfl ?_
          exact ⟨⟨_, _, _, _, rfl, fun w0 h => ProgR.mk4 h (H0.out w0) (H1.out w0) (H2.out w0) (H3.out w0)⟩, ((Below.refl _ _).alloc (Nat.le_refl _) _).alloc (by simp) _⟩
      · have g2 : ¬ (40 : Int) < (l2.length : Int) := by omega
        have H2 := hid (show ∀ w0, StmtsR w0 (.slice A2 l2.length c2) l2 → StmtsR w0 (.slice A2 l2.length c2) (l2.take 40) from fun w0 h => by rw [List.take_of_length_le (by omega)]; exact h)
        clear h2 n2
        by_cases n3 : 40 < l3.length
        · have g3 : (40 : Int) < (l3.length : Int) := by omega
          obtain ⟨b3, o3, rfl⟩ := Row.some h3 (by omega)
          have H3 := hid (show ∀ w0, IntsR w0 (.slice (some ⟨b3, o3, none⟩) l3.length c3) l3 → IntsR w0 (.slice (some ⟨b3, o3, none⟩) 40 c3) (l3.take 40) from fun w0 h => Row.take h (by omega))
          clear h3 n3
          go_enter Try.func6, Try.ntmps6
          go_wp2
          (try simp only [Exit.inBlock, Exit.then])
          refine bodyPost_ret (results_cell_row rfl _ _ _ _ _ (0, 0) _ rfl (heap_alloc2_new w _ _) Try.underlying28 rfl (by kernel_rfl)) rfl ?_
          exact ⟨⟨_, _, _, _, rfl, fun w0 h => ProgR.mk4 h (H0.out w0) (H1.out w0) (H2.out w0) (H3.out w0)⟩, ((Below.refl _ _).alloc (Nat.le_refl _) _).alloc (by simp) _⟩
        · have g3 : ¬ (40 : Int) < (l3.length : Int) := by omega
          have H3 := hid (show ∀ w0, IntsR w0 (.slice A3 l3.length c3) l3 → IntsR w0 (.slice A3 l3.length c3) (l3.take 40) from fun w0 h => by rw [List.take_of_length_le (by omega)]; exact h)
          clear h3 n3
          go_enter Try.func6, Try.ntmps6
          go_wp2
          (try simp only [Exit.inBlock, Exit.then])
          refine bodyPost_ret (results_cell_row rfl _ _ _ _ _ (0, 0) _ rfl (heap_alloc2_new w _ _) Try.underlying28 rfl (by kernel_rfl)) rfl ?_
          exact ⟨⟨_, _, _, _, rfl, fun w0 h => ProgR.mk4 h (H0.out w0) (H1.out w0) (H2.out w0) (H3.out w0)⟩, ((Below.refl _ _).alloc (Nat.le_refl _) _).alloc (by simp) _⟩
  · have g0 : ¬ (40 : Int) < (l0.length : Int) := by omega
    have H0 := hid (show ∀ w0, Decls w0 (.slice A0 l0.length c0) l0 → Decls w0 (.slice A0 l0.length c0) (l0.take 40) from fun w0 h => by rw [List.take_of_length_le (by omega)]; exact h)
    clear h0 n0
    by_cases n1 : 80 < l1.length
    · have g1 : (80 : Int) < (l1.length : Int) := by omega
      obtain ⟨b1, o1, rfl⟩ := Row.some h1 (by omega)
      have H1 := hid (show ∀ w0, ExprsR w0 (.slice (some ⟨b1, o1, none⟩) l1.length c1) l1 → ExprsR w0 (.slice (some ⟨b1, o1, none⟩) 80 c1) (l1.take 80) from fun w0 h => Row.take h (by omega))
      clear h1 n1
      by_cases n2 : 40 < l2.length
      · have g2 : (40 : Int) < (l2.length : Int) := by omega
        obtain ⟨b2, o2, rfl⟩ := Row.some h2 (by omega)
        have H2 := hid (show ∀ w0, StmtsR w0 (.slice (some ⟨b2, o2, none⟩) l2.length c2) l2 → StmtsR w0 (.slice (some ⟨b2, o2, none⟩) 40 c2) (l2.take 40) from fun w0 h => Row.take h (by omega))
        clear h2 n2
        by_cases n3 : 40 < l3.length
        · have g3 : (40 : Int) < (l3.length : Int) := by omega
          obtain ⟨b3, o3, rfl⟩ := Row.some h3 (by omega)
          have H3 := hid (show ∀ w0, IntsR w0 (.slice (some ⟨b3, o3, none⟩) l3.length c3) l3 → IntsR w0 (.slice (some ⟨b3, o3, none⟩) 40 c3) (l3.take 40) from fun w0 h => Row.take h (by omega))
          clear h3 n3
          go_enter Try.func6, Try.ntmps6
          go_wp2
          (try simp only [Exit.inBlock, Exit.then])
          refine bodyPost_ret (results_cell_row rfl _ _ _ _ _ (0, 0) _ rfl (heap_alloc2_new w _ _) Try.underlying28 rfl (by kernel_rfl)) rfl ?_
          exact ⟨⟨_, _, _, _, rfl, fun w0 h => ProgR.mk4 h (H0.out w0) (H1.out w0) (H2.out w0) (H3.out w0)⟩, ((Below.refl _ _).alloc (Nat.le_refl _) _).alloc (by simp) _⟩
        · have g3 : ¬ (40 : Int) < (l3.length : Int) := by omega
          have H3 := hid (show ∀ w0, IntsR w0 (.slice A3 l3.length c3) l3 → IntsR w0 (.slice A3 l3.length c3) (l3.take 40) from fun w0 h => by rw [List.take_of_length_le (by omega)]; exact h)
          clear h3 n3
          go_enter Try.func6, Try.ntmps6
          go_wp2
          (try simp only [Exit.inBlock, Exit.then])
          refine bodyPost_ret (results_cell_row rfl _ _ _ _ _ (0, 0) _ rfl (heap_alloc2_new w _ _) Try.underlying28 rfl (by kernel_rfl)) rfl ?_
          exact ⟨⟨_, _, _, _, rfl, fun w0 h => ProgR.mk4 h (H0.out w0) (H1.out w0) (H2.out w0) (H3.out w0)⟩, ((Below.refl _ _).alloc (Nat.le_refl _) _).alloc (by simp) _⟩
      · have g2 : ¬ (40 : Int) < (l2.length : Int) := by omega
        have H2 := hid (show ∀ w0, StmtsR w0 (.slice A2 l2.length c2) l2 → StmtsR w0 (.slice A2 l2.length c2) (l2.take 40) from fun w0 h => by rw [List.take_of_length_le (by omega)]; exact h)
        clear h2 n2
        by_cases n3 : 40 < l3.length
        · have g3 : (40 : Int) < (l3.length : Int) := by omega
          obtain ⟨b3, o3, rfl⟩ := Row.some h3 (by omega)
          have H3 := hid (show ∀ w0, IntsR w0 (.slice (some ⟨b3, o3, none⟩) l3.length c3) l3 → IntsR w0 (.slice (some ⟨b3, o3, none⟩) 40 c3) (l3.take 40) from fun w0 h => Row.take h (by omega))
          clear h3 n3
          go_enter Try.func6, Try.ntmps6
          go_wp2
          (try simp only [Exit.inBlock, Exit.then])
          refine bodyPost_ret (results_cell_row rfl _ _ _ _ _ (0, 0) _ rfl (heap_alloc2_new w _ _) Try.underlying28 rfl (by kernel_rfl)) rfl ?_
          exact ⟨⟨_, _, _, _, rfl, fun w0 h => ProgR.mk4 h (H0.out w0) (H1.out w0) (H2.out w0) (H3.out w0)⟩, ((Below.refl _ _).alloc (Nat.le_refl _) _).alloc (by simp) _⟩
        · have g3 : ¬ (40 : Int) < (l3.length : Int) := by omega
          have H3 := hid (show ∀ w0, IntsR w0 (.slice A3 l3.length c3) l3 → IntsR w0 (.slice A3 l3.length c3) (l3.take 40) from fun w0 h => by rw [List.take_of_length_le (by omega)]; exact h)
          clear h3 n3
          go_enter Try.func6, Try.ntmps6
          go_wp2
          (try simp only [Exit.inBlock, Exit.then])
          refine bodyPost_ret (results_cell_row rfl _ _ _ _ _ (0, 0) _ rfl (heap_alloc2_new w _ _) Try.underlying28 rfl (by kernel_rfl)) rfl ?_
          exact ⟨⟨_, _, _, _, rfl, fun w0 h => ProgR.mk4 h (H0.out w0) (H1.out w0) (H2.out w0) (H3.out w0)⟩, ((Below.refl _ _).alloc (Nat.le_refl _) _).alloc (by simp) _⟩
    · have g1 : ¬ (80 : Int) < (l1.length : Int) := by omega
      have H1 := hid (show ∀ w0, ExprsR w0 (.slice A1 l1.length c1) l1 → ExprsR w0 (.slice A1 l1.length c1) (l1.take 80) from fun w0 h => by rw [List.take_of_length_le (by omega)]; exact h)
      clear h1 n1
      by_cases n2 : 40 < l2.length
      · have g2 : (40 : Int) < (l2.length : Int) := by omega
        obtain ⟨b2, o2, rfl⟩ := Row.some h2 (by omega)
        have H2 := hid (show ∀ w0, StmtsR w0 (.slice (some ⟨b2, o2, none⟩) l2.length c2) l2 → StmtsR w0 (.slice (some ⟨b2, o2, none⟩) 40 c2) (l2.take 40) from fun w0 h => Row.take h (by omega))
        clear h2 n2
        by_cases n3 : 40 < l3.length
        · have g3 : (40 : Int) < (l3.length : Int) := by omega
          obtain ⟨b3, o3, rfl⟩ := Row.some h3 (by omega)
          have H3 := hid (show ∀ w0, IntsR w0 (.slice (some ⟨b3, o3, none⟩) l3.length c3) l3 → IntsR w0 (.slice (some ⟨b3, o3, none⟩) 40 c3) (l3.take 40) from fun w0 h => Row.take h (by omega))
          clear h3 n3
          go_enter Try.func6, Try.ntmps6
          go_wp2
          (try simp only [Exit.inBlock, Exit.then])
          refine bodyPost_ret (results_cell_row rfl _ _ _ _ _ (0, 0) _ rfl (heap_alloc2_new w _ _) Try.underlying28 rfl (by kernel_rfl)) rfl ?_
          exact ⟨⟨_, _, _, _, rfl, fun w0 h => ProgR.mk4 h (H0.out w0) (H1.out w0) (H2.out w0) (H3.out w0)⟩, ((Below.refl _ _).alloc (Nat.le_refl _) _).alloc (by simp) _⟩
        · have g3 : ¬ (40 : Int) < (l3.length : Int) := by omega
          have H3 := hid (show ∀ w0, IntsR w0 (.slice A3 l3.length c3) l3 → IntsR w0 (.slice A3 l3.length c3) (l3.take 40) from fun w0 h => by rw [List.take_of_length_le (by omega)]; exact h)
          clear h3 n3
          go_enter Try.func6, Try.ntmps6
          go_wp2
          (try simp only [Exit.inBlock, Exit.then])
          refine bodyPost_ret (results_cell_row rfl _ _ _ _ _ (0, 0) _ rfl (heap_alloc2_new w _ _) Try.underlying28 rfl (by kernel_rfl)) rfl ?_
          exact ⟨⟨_, _, _, _, rfl, fun w0 h => ProgR.mk4 h (H0.out w0) (H1.out w0) (H2.out w0) (H3.out w0)⟩, ((Below.refl _ _).alloc (Nat.le_refl _) _).alloc (by simp) _⟩
      · have g2 : ¬ (40 : Int) < (l2.length : Int) := by omega
        have H2 := hid (show ∀ w0, StmtsR w0 (.slice A2 l2.length c2) l2 → StmtsR w0 (.slice A2 l2.length c2) (l2.take 40) from fun w0 h => by rw [List.take_of_length_le (by omega)]; exact h)
        clear h2 n2
        by_cases n3 : 40 < l3.length
        · have g3 : (40 : Int) < (l3.length : Int) := by omega
          obtain ⟨b3, o3, rfl⟩ := Row.some h3 (by omega)
          have H3 := hid (show ∀ w0, IntsR w0 (.slice (some ⟨b3, o3, none⟩) l3.length c3) l3 → IntsR w0 (.slice (some ⟨b3, o3, none⟩) 40 c3) (l3.take 40) from fun w0 h => Row.take h (by omega))
          clear h3 n3
          go_enter Try.func6, Try.ntmps6
          go_wp2
          (try simp only [Exit.inBlock, Exit.then])
          refine bodyPost_ret (results_cell_row rfl _ _ _ _ _ (0, 0) _ rfl (heap_alloc2_new w _ _) Try.underlying28 rfl (by kernel_rfl)) rfl ?_
          exact ⟨⟨_, _, _, _, rfl, fun w0 h => ProgR.mk4 h (H0.out w0) (H1.out w0) (H2.out w0) (H3.out w0)⟩, ((Below.refl _ _).alloc (Nat.le_refl _) _).alloc (by simp) _⟩
        · have g3 : ¬ (40 : Int) < (l3.length : Int) := by omega
          have H3 := hid (show ∀ w0, IntsR w0 (.slice A3 l3.length c3) l3 → IntsR w0 (.slice A3 l3.length c3) (l3.take 40) from fun w0 h => by rw [List.take_of_length_le (by omega)]; exact h)
          clear h3 n3
          go_enter Try.func6, Try.ntmps6
          go_wp2
          (try simp only [Exit.inBlock, Exit.then])
          refine bodyPost_ret (results_cell_row rfl _ _ _ _ _ (0, 0) _ rfl (heap_alloc2_new w _ _) Try.underlying28 rfl (by kernel_rfl)) rfl ?_
          exact ⟨⟨_, _, _, _, rfl, fun w0 h => ProgR.mk4 h (H0.out w0) (H1.out w0) (H2.out w0) (H3.out w0)⟩, ((Below.refl _ _).alloc (Nat.le_refl _) _).alloc (by simp) _⟩
end Go.Proofs.Ytlajcmoiopaemaa
