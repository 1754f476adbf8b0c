/- A region that draws its order, its text in another order. No program in sight. -/
import Derived.Test.YtlajcmoiopaemaaAv11d
set_option linter.unusedVariables false
set_option linter.unusedSimpArgs false
noncomputable section
namespace Go.Proofs.Ytlajcmoiopaemaa
theorem memN_iff {j : Nat} : ∀ {l : List Nat}, memN j l = true ↔ j ∈ l
  | [] => by simp [memN]
  | k :: l => by simp only [memN, Bool.or_eq_true, Nat.beq_eq, List.mem_cons, memN_iff (l := l)]
theorem idxN_lt {j : Nat} : ∀ {l : List Nat}, j ∈ l → idxN j l < l.length ∧ l[idxN j l]? = some j
  | [], h => by simp at h
  | k :: l, h => by
    simp only [idxN]
    split
    · rename_i e
      rw [Nat.beq_eq] at e; subst e
      exact ⟨by simp, by simp⟩
    · rename_i e
      have hne : j ≠ k := by rintro rfl; simp at e
      have := idxN_lt (j := j) (l := l) (by simpa [hne] using h)
      exact ⟨by simp; omega, by simpa using this.2⟩
theorem idxN_out {j : Nat} : ∀ {l : List Nat}, j ∉ l → idxN j l = l.length
  | [], h => rfl
  | k :: l, h => by
    simp only [List.mem_cons, not_or] at h
    simp only [idxN]
    split
    · rename_i e
      rw [Nat.beq_eq] at e; exact absurd e h.1
    · rw [idxN_out h.2]; simp
theorem dupFree_back {j : Nat} : ∀ {l : List Nat} {k : Nat}, dupFree l = true → l[k]? = some j → idxN j l = k
  | [], k, _, h => by simp at h
  | x :: l, k, hd, h => by
    simp only [dupFree, Bool.and_eq_true, Bool.not_eq_true'] at hd
    simp only [idxN]
    cases k with
    | zero =>
      simp at h; subst h
      have : Nat.beq x x = true := by rw [Nat.beq_eq]
      rw [this]
    | succ k =>
      have h' : l[k]? = some j := by simpa using h
      split
      · rename_i e
        rw [Nat.beq_eq] at e; subst e
        have := memN_iff.2 (List.mem_of_getElem? h')
        rw [hd.1] at this; cases this
      · rw [dupFree_back hd.2 h']
structure PermOk (p : List Nat) (n : Nat) : Prop where
  len : p.length = n
  lt : ∀ i, i ∈ p → i < n
  all : ∀ i, i < n → i ∈ p
  dup : dupFree p = true
theorem permOk_iff {p : List Nat} {n : Nat} (h : permOk p n = true) : PermOk p n := by
  simp only [permOk, Bool.and_eq_true, Nat.beq_eq, List.all_eq_true, Nat.ble_eq, memN_iff, List.mem_range] at h
  exact ⟨h.1, fun i hi => h.2.1.2 i hi, fun i hi => h.2.2 i hi, h.2.1.1⟩
theorem PermOk.back {p : List Nat} {n : Nat} (h : PermOk p n) {i k : Nat} (hk : p[k]? = some i) : idxN i p = k := by
  exact dupFree_back h.dup hk
theorem permL_get {p : List Nat} {ops : List Oper} : ∀ {l : List Nat} {k : Nat}, (∀ i, i ∈ l → i < ops.length) → (permL p ops l)[k]? = (l[k]?.bind (ops[·]?)).map (ren p)
  | [], k, h => by simp [permL]
  | i :: l, k, h => by
    have hi : i < ops.length := h i (by simp)
    simp only [permL, List.getElem?_eq_getElem hi]
    cases k with
    | zero => simp [hi]
    | succ k => simpa using permL_get (fun j hj => h j (by simp [hj]))
theorem perm_get {p : List Nat} {ops : Array Oper} (h : PermOk p ops.size) (k : Nat) : (perm p ops)[k]? = (p[k]?.bind (ops[·]?)).map (ren p) := by
  unfold perm
  have := permL_get (p := p) (ops := ops.toList) (l := p) (k := k) (fun i hi => by simpa using h.lt i hi)
  simpa using this
theorem perm_size {p : List Nat} {ops : Array Oper} (h : PermOk p ops.size) : (perm p ops).size = ops.size := by
  have key : ∀ {l : List Nat}, (∀ i, i ∈ l → i < ops.toList.length) → (permL p ops.toList l).length = l.length := by
    intro l
    induction l with
    | nil => intro _; rfl
    | cons i l ih =>
      intro hl
      have hi : i < ops.toList.length := hl i (by simp)
      simp only [permL, List.getElem?_eq_getElem hi, List.length_cons, ih (fun j hj => hl j (by simp [hj]))]
  unfold perm
  rw [List.size_toArray, key (fun i hi => by simpa using h.lt i hi), h.len]
theorem ren_wp {p : List Nat} {F : Fence} {n : Nat} {P : Program} {o : Oper} {a : Act} {w : World} {K : Act → World → Prop} {Q : Exit → Act → World → Prop} (h : (ren p o).wpIn F n P a w K Q) : o.wpIn F n P a w K Q := by
  cases o; exact h
theorem yielded_perm {p : List Nat} {ops : Array Oper} (h : PermOk p ops.size) (tmps : Array Value) (j : Nat) : yielded (perm p ops) tmps (idxN j p) = yielded ops tmps j := by
  unfold yielded
  rw [perm_get h]
  by_cases hj : j < ops.size
  · obtain ⟨h1, h2⟩ := idxN_lt (h.all j hj)
    rw [h2, Option.bind_some, Array.getElem?_eq_getElem hj]
    rfl
  · rw [idxN_out (fun hm => hj (h.lt j hm)), List.getElem?_eq_none (Nat.le_refl _), Array.getElem?_eq_none (by omega)]
    rfl
theorem wanted_perm {p : List Nat} {ops : Array Oper} (h : PermOk p ops.size) (tmps : Array Value) (o : Oper) : Region.wanted (ren p o) (yielded (perm p ops) tmps) = Region.wanted o (yielded ops tmps) := by
  unfold Region.wanted ren
  cases o.guard with
  | none => rfl
  | some g => obtain ⟨j, b⟩ := g; simp only [Option.map_some, yielded_perm h]
theorem wpAnyIn_perm {F : Fence} {n : Nat} {P : Program} {ops : Array Oper} {Q : Exit → Act → World → Prop} {p : List Nat} (h : PermOk p ops.size) : ∀ (fuel : Nat) (listed listed' : Array Bool) (a : Act) (w : World),
    listed.size = ops.size → listed'.size = ops.size → (∀ k i, p[k]? = some i → listed'.getD k true = listed.getD i true) →
    wpAnyIn F n P .any (perm p ops) Q fuel listed' a w → wpAnyIn F n P .any ops Q fuel listed a w := by
  intro fuel
  have flip : ∀ {l : Array Bool} {i : Nat}, l.getD i false = true → i < l.size ∧ l.getD i true = true := by
    intro l i hl
    rw [Array.getD_eq_getD_getElem?] at hl ⊢
    cases hq : l[i]? with
    | none => rw [hq] at hl; cases hl
    | some b => rw [hq] at hl; exact ⟨(Array.getElem?_eq_some_iff.1 hq).1, hl⟩
  have flop : ∀ {l : Array Bool} {i : Nat}, i < l.size → l.getD i true = true → l.getD i false = true := by
    intro l i hi hl
    rw [Array.getD_eq_getD_getElem?, Array.getElem?_eq_getElem hi] at hl ⊢
    exact hl
  have fwd : ∀ {listed listed' : Array Bool}, listed.size = ops.size → listed'.size = ops.size → (∀ k i, p[k]? = some i → listed'.getD k true = listed.getD i true) →
      ∀ {i : Nat}, i ∈ Region.ready .any ops listed → idxN i p ∈ Region.ready .any (perm p ops) listed' := by
    intro listed listed' hs hs' hl i hi
    rw [mem_ready] at hi ⊢
    obtain ⟨h0, o, ho, h1⟩ := hi
    have hi : i < ops.size := (Array.getElem?_eq_some_iff.1 ho).1
    obtain ⟨k1, k2⟩ := idxN_lt (h.all i hi)
    refine ⟨by rw [hl _ _ k2]; exact h0, ren p o, by rw [perm_get h, k2]; simp [ho], fun e he hb => ?_⟩
    simp only [ren, List.mem_toArray, List.mem_map] at he
    obtain ⟨e0, he0, rfl⟩ := he
    obtain ⟨q1, q2⟩ := flip (h1 e0 (by simpa using he0) hb)
    obtain ⟨m1, m2⟩ := idxN_lt (h.all e0.on (by omega))
    refine flop (by show idxN e0.on p < _; rw [hs', ← h.len]; exact m1) ?_
    show listed'.getD (idxN e0.on p) true = true
    rw [hl _ _ m2]; exact q2
  have bwd : ∀ {listed listed' : Array Bool}, listed.size = ops.size → listed'.size = ops.size → (∀ k i, p[k]? = some i → listed'.getD k true = listed.getD i true) →
      Region.ready .any ops listed = [] → Region.ready .any (perm p ops) listed' = [] := by
    intro listed listed' hs hs' hl h0
    rw [List.eq_nil_iff_forall_not_mem]
    intro k hk
    rw [mem_ready] at hk
    obtain ⟨k0, o', ho', k1⟩ := hk
    rw [perm_get h] at ho'
    cases hp : p[k]? with
    | none => rw [hp] at ho'; simp at ho'
    | some i =>
      rw [hp, Option.bind_some] at ho'
      cases ho : ops[i]? with
      | none => rw [ho] at ho'; simp at ho'
      | some o =>
        rw [ho] at ho'
        simp only [Option.map_some, Option.some.injEq] at ho'
        subst ho'
        have : i ∈ Region.ready .any ops listed := by
          rw [mem_ready]
          refine ⟨by rw [← hl _ _ hp]; exact k0, o, ho, fun e he hb => ?_⟩
          obtain ⟨q1, q2⟩ := flip (k1 (renE p e) (by simp only [ren, List.mem_toArray, List.mem_map]; exact ⟨e, by simpa using he, rfl⟩) hb)
          have q1 : idxN e.on p < listed'.size := q1
          have q2 : listed'.getD (idxN e.on p) true = true := q2
          have hon : e.on < ops.size := by
            apply Nat.lt_of_not_le
            intro hle
            rw [idxN_out (fun hm => by have := h.lt _ hm; omega), h.len] at q1
            omega
          obtain ⟨m1, m2⟩ := idxN_lt (h.all e.on hon)
          rw [hl _ _ m2] at q2
          exact flop (by omega) q2
        rw [h0] at this
        cases this
  induction fuel with
  | zero =>
    intro listed listed' a w hs hs' hl hw
    refine ⟨?_, hw.2⟩
    rw [List.eq_nil_iff_forall_not_mem]
    intro i hi
    have := fwd hs hs' hl hi
    rw [hw.1] at this
    cases this
  | succ fuel ih =>
    intro listed listed' a w hs hs' hl hw
    refine ⟨fun h0 => hw.1 (bwd hs hs' hl h0), fun i hi => ?_⟩
    have h1 := hw.2 _ (fwd hs hs' hl hi)
    rw [mem_ready] at hi
    obtain ⟨_, o, ho, _⟩ := hi
    have hi : i < ops.size := (Array.getElem?_eq_some_iff.1 ho).1
    obtain ⟨k1, k2⟩ := idxN_lt (h.all i hi)
    have hK : ∀ a w, wpAnyIn F n P .any (perm p ops) Q fuel (listed'.setIfInBounds (idxN i p) true) a w → wpAnyIn F n P .any ops Q fuel (listed.setIfInBounds i true) a w := by
      intro a w hw
      refine ih _ _ a w (by rw [Array.size_setIfInBounds]; exact hs) (by rw [Array.size_setIfInBounds]; exact hs') (fun k j hk => ?_) hw
      rw [getD_set_bool, getD_set_bool, hl k j hk]
      by_cases e : i = j
      · subst e; rw [if_pos rfl, if_pos (h.back hk)]
      · rw [if_neg e, if_neg (fun e2 => e (by rw [e2, hk] at k2; simpa using k2.symm))]
    unfold wpOpIn at h1 ⊢
    rw [perm_get h, k2, Option.bind_some, ho] at h1
    rw [ho]
    simp only [Option.map_some, wanted_perm h] at h1
    simp only
    split
    · rename_i hw
      rw [if_pos hw] at h1
      exact Oper.wpIn_mono hK (ren_wp h1)
    · rename_i hw
      rw [if_neg hw] at h1
      exact ⟨h1.1, hK _ _ h1.2⟩
theorem evDraw_sound {T : Tab} {cf : CallF} {yf : YldF} {r : Option Nat} {ops : Array Oper} (hcf : ∀ f args H e H', cf f args H = some (e, H') → CallOk T.P f args H e H') (hyf : ∀ id args H e H', yf id args H = some (e, H') → RoundOk T.P id args H e H')
    {a : AAct} {H : AH} {e : AExit} {a' : AAct} {H' : AH} (h : evDraw T cf yf r ops a H = some (e, a', H'))
    {w0 w : World} {G0 G : Gh} {H0 : AH} {ca : Act} {rr : Option Nat} (hE : Ext w0 G0 H0 w G H) (hR : Rel w G H) (hA : ARel G ca a) (hr : RR G rr r) :
    wpAnyIn (FR rr) 0 T.P .any ops (Next' T.P w0 G0 H0 e a' H') ops.size (Array.replicate ops.size false) ca w := by
  unfold evDraw at h
  split at h
  · exact evDraw1_sound (r := r) hcf hyf h hE hR hA hr
  · unfold evDrawP at h
    split at h <;> try (cases h; done)
    rename_i hp
    have hp := permOk_iff hp
    unfold evDrawQ at h
    have h1 := evDraw1_sound (r := r) hcf hyf h hE hR hA hr
    rw [perm_size hp] at h1
    refine wpAnyIn_perm hp _ _ _ ca w (by simp) (by simp) (fun k i hk => ?_) h1
    have h2 := (List.getElem?_eq_some_iff.1 hk).1
    have h3 := hp.lt i (List.mem_of_getElem? hk)
    rw [hp.len] at h2
    simp [Array.getD_eq_getD_getElem?, h2, h3]
end Go.Proofs.Ytlajcmoiopaemaa
