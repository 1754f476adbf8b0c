/- A region that draws its order: what the pass comes to is what any order comes to. No program in sight. -/
import Derived.Test.YtlajcmoiopaemaaAv11b
set_option linter.unusedVariables false
set_option linter.unusedSimpArgs false
noncomputable section
namespace Go.Proofs.Ytlajcmoiopaemaa
def dsts : List Oper → List Tmp
  | [] => []
  | o :: l => match o.dst with
    | some d => d :: dsts l
    | none => dsts l
/-- ahead of which all that stands before it comes: until then its temporary is as it was -/
def fullBelow (m : Nat) : Nat → Bool
  | 0 => true
  | k + 1 => Nat.testBit m k && fullBelow m k
def dstsM : List PL → Nat → List Tmp
  | [], _ => []
  | p :: l, i => match p.o.dst with
    | some d => match fullBelow p.m i with
      | true => dstsM l (i + 1)
      | false => d :: dstsM l (i + 1)
    | none => dstsM l (i + 1)
def dstsP : List PRec → List Tmp
  | [] => []
  | r :: l => match r.o.dst with
    | some d => d :: dstsP l
    | none => dstsP l
theorem fullBelow_at {m : Nat} : ∀ {i k : Nat}, fullBelow m i = true → k < i → Nat.testBit m k = true
  | 0, k, _, hk => by omega
  | i + 1, k, h, hk => by
    simp only [fullBelow, Bool.and_eq_true] at h
    by_cases e : k = i
    · subst e; exact h.1
    · exact fullBelow_at h.2 (by omega)
theorem mem_dstsM : ∀ {l : List PL} {i j : Nat} {p : PL} {d : Tmp}, l[i]? = some p → p.o.dst = some d → d ∈ dstsM l j ∨ fullBelow p.m (j + i) = true
  | [], i, j, p, d, h, _ => by simp at h
  | x :: l, 0, j, p, d, h, hd => by
    simp at h; subst h
    simp only [dstsM, hd, Nat.add_zero]
    cases hf : fullBelow x.m j with
    | true => exact .inr rfl
    | false => exact .inl (by simp)
  | x :: l, i + 1, j, p, d, h, hd => by
    have := mem_dstsM (l := l) (i := i) (j := j + 1) (by simpa using h) hd
    rw [show j + 1 + i = j + (i + 1) by omega] at this
    refine this.imp (fun h => ?_) id
    simp only [dstsM]
    split
    · split
      · exact h
      · exact List.mem_cons_of_mem _ h
    · exact h
theorem mem_dstsP : ∀ {l : List PRec} {i : Nat} {r : PRec} {d : Tmp}, l[i]? = some r → r.o.dst = some d → d ∈ dstsP l
  | [], i, r, d, h, _ => by simp at h
  | x :: l, 0, r, d, h, hd => by simp at h; subst h; simp [dstsP, hd]
  | x :: l, i + 1, r, d, h, hd => by
    have := mem_dstsP (l := l) (i := i) (by simpa using h) hd
    simp only [dstsP]
    split
    · exact List.mem_cons_of_mem _ this
    · exact this
def findBoom : List PRec → Option (AV × AH)
  | [] => none
  | r :: rs => match r.res with
    | some (.boom u H) => some (u, H)
    | _ => findBoom rs
def drawEnd (ts : HT AV) (df : List ADef) (H : AH) (rs : List PRec) : Option (AExit × AAct × AH) := match findBoom rs with
  | some (u, H') => some (.panic u, ⟨maskT (dstsP rs) ts, df⟩, H')
  | none => some (.normal, ⟨tsOf ts rs, df⟩, curOf H rs)
def planOk (l : List Oper) : Bool := earlier l 0 && apart l
def evDrawGo (T : Tab) (cf : CallF) (yf : YldF) (ops : Array Oper) (fl : Flt) (ts : HT AV) (df : List ADef) (H : AH) : Option (List PRec) → Option (AExit × AAct × AH)
  | some rs => match chkAll T cf yf ops fl H rs 0 rs with
    | true => drawEnd ts df H rs
    | false => none
  | none => none
/-- what an operand will hold, as far as one sees ahead -/
def findDst (t : Tmp) : Nat → List Oper → Option (Nat × Oper)
  | _, [] => none
  | j, o :: l => match o.dst with
    | some d => match Nat.beq d t with
      | true => some (j, o)
      | false => findDst t (j + 1) l
    | none => findDst t (j + 1) l
def bornV : Option (AV × AObj) → AV
  | some (u, _) => u
  | none => .any
def valV : Option (AR × AH) → AV
  | some (.val u, _) => u
  | _ => .any
def guessV (T : Tab) (ops : List Oper) (a : AAct) (H : AH) : Nat → Operand → AV
  | 0, x => a.eval x
  | k + 1, .tmp t => match findDst t 0 ops with
    | some (j, o) => match isFloat o with
      | true => bornV (aBorn T (guessV T ops a H k) (H.n + j) o.op)
      | false => match isLight o.op with
        | true => valV (aop T (guessV T ops a H k) o H)
        | false => .any
    | none => a.eval (.tmp t)
  | _ + 1, x => a.eval x
def bornO : Option (AV × AObj) → AObj
  | some (_, ao) => ao
  | none => .dead
/-- which of them can be told ahead -/
def anyV : AV → Bool
  | .any => true
  | _ => false
def toldO : Option (AV × AObj) → Nat
  | some (_, .cells l _ _) => match l.any anyV with
    | true => 0
    | false => 1
  | some _ => 1
  | none => 0
def toldOf (T : Tab) (ops : List Oper) (a : AAct) (H : AH) : List Oper → Nat
  | [] => 0
  | o :: l => match isFloat o with
    | true => Nat.add (toldO (aBorn T (guessV T ops a H 6) 0 o.op)) (Nat.mul 2 (toldOf T ops a H l))
    | false => Nat.mul 2 (toldOf T ops a H l)
/-- what it will make -/
def guessO (T : Tab) (ops : List Oper) (a : AAct) (H : AH) (b i : Nat) (o : Oper) : AObj := match isFloat o && Nat.testBit b i with
  | true => bornO (aBorn T (guessV T ops a H 6) 0 o.op)
  | false => .dead
/-- how many operations there are up to the last one that makes a block of its own -/
def floats : List Oper → Nat
  | [] => 0
  | o :: l => match floats l with
    | 0 => match isFloat o with
      | true => 1
      | false => 0
    | n + 1 => n + 2
/-- a place for each of the first f operations, and in it what it will make -/
def births (T : Tab) (ops : List Oper) (a : AAct) (H0 : AH) (b : Nat) : Nat → Nat → List Oper → AH → AH
  | 0, _, _, H => H
  | f + 1, i, [], H => births T ops a H0 b f (i + 1) [] (H.push .dead)
  | f + 1, i, o :: l, H => births T ops a H0 b f (i + 1) l (H.push (guessO T ops a H0 b i o))
def evDrawB (T : Tab) (cf : CallF) (yf : YldF) (ops : Array Oper) (fl : Flt) (a : AAct) (Hf : AH) : Option (AExit × AAct × AH) :=
  evDrawGo T cf yf ops fl (maskT (dstsM (planGo ops.toList []) 0) a.tmps) a.defers Hf (pass T cf yf ops fl a.defers (planGo ops.toList []) 0 (maskT (dstsM (planGo ops.toList []) 0) a.tmps) 0 Hf [] none)
def evDraw1 (T : Tab) (cf : CallF) (yf : YldF) (ops : Array Oper) (f : Nat) (a : AAct) (H : AH) : Option (AExit × AAct × AH) := match planOk ops.toList && Nat.ble f ops.size with
  | true => evDrawB T cf yf ops ⟨f, H.n, toldOf T ops.toList a H ops.toList⟩ a (births T ops.toList a H (toldOf T ops.toList a H ops.toList) f 0 ops.toList H)
  | false => none
/-! ### another order of the text -/
def chainGo : List PL → Nat → List Nat → Bool
  | [], _, _ => true
  | p :: l, i, hs => match isLight p.o.op with
    | true => chainGo l (i + 1) hs
    | false => hs.all (Nat.testBit p.m) && chainGo l (i + 1) (i :: hs)
def needPerm (l : List Oper) : Bool := !(earlier l 0)
/-- where what changes the heap does not stand in one order, blocks are made at any time -/
def floatsOf (l : List Oper) : Nat := match chainGo (planGo l []) 0 [] with
  | true => 0
  | false => floats l
def memN (j : Nat) : List Nat → Bool
  | [] => false
  | k :: l => Nat.beq j k || memN j l
def idxN (j : Nat) : List Nat → Nat
  | [] => 0
  | k :: l => match Nat.beq j k with
    | true => 0
    | false => idxN j l + 1
def pickN (done : List Nat) : List Oper → Nat → Option Nat
  | [], _ => none
  | o :: l, i => match !memN i done && (afters o).all (fun j => memN j done) with
    | true => some i
    | false => pickN done l (i + 1)
def topoGo (ops : List Oper) : Nat → List Nat → List Nat
  | 0, done => done
  | f + 1, done => match pickN done ops 0 with
    | some i => topoGo ops f (done ++ [i])
    | none => done
def orderOf (ops : List Oper) : List Nat := topoGo ops ops.length []
def dupFree : List Nat → Bool
  | [] => true
  | k :: l => !memN k l && dupFree l
def permOk (p : List Nat) (n : Nat) : Bool := Nat.beq p.length n && (dupFree p && p.all (fun i => Nat.ble (i + 1) n) && (List.range n).all (fun i => memN i p))
def renE (p : List Nat) (e : Edge) : Edge := { e with on := idxN e.on p }
def ren (p : List Nat) (o : Oper) : Oper := { o with after := (o.after.toList.map (renE p)).toArray, guard := o.guard.map (fun g => (idxN g.1 p, g.2)) }
def permL (p : List Nat) (ops : List Oper) : List Nat → List Oper
  | [] => []
  | i :: l => match ops[i]? with
    | some o => ren p o :: permL p ops l
    | none => permL p ops l
def perm (p : List Nat) (ops : Array Oper) : Array Oper := (permL p ops.toList p).toArray
def evDrawQ (T : Tab) (cf : CallF) (yf : YldF) (ops : Array Oper) (a : AAct) (H : AH) : Option (AExit × AAct × AH) := evDraw1 T cf yf ops (floatsOf ops.toList) a H
def evDrawP (T : Tab) (cf : CallF) (yf : YldF) (ops : Array Oper) (p : List Nat) (a : AAct) (H : AH) : Option (AExit × AAct × AH) := match permOk p ops.size with
  | true => evDrawQ T cf yf (perm p ops) a H
  | false => none
def evDraw (T : Tab) (cf : CallF) (yf : YldF) (r : Option Nat) (ops : Array Oper) (a : AAct) (H : AH) : Option (AExit × AAct × AH) := match needPerm ops.toList with
  | false => evDraw1 T cf yf ops (floatsOf ops.toList) a H
  | true => evDrawP T cf yf ops (orderOf ops.toList) a H
/-! ### Rows of temporaries, cell by cell -/
theorem HT.updO_some {x : AV} {o : Option AV} {u : AV} (h : HT.updO x o = some u) : u = x := by
  cases o with
  | none => cases h
  | some _ => exact (Option.some.inj h).symm
theorem HT.dom_upd (t : HT AV) (d : Nat) (x : AV) (i : Nat) : (t.upd d x).get i = none ↔ t.get i = none := by
  rw [HT.get_upd]
  split
  · cases t.get i <;> simp [HT.updO]
  · exact Iff.rfl
theorem maskT_dom : ∀ {l : List Tmp} {ts : HT AV} (i : Nat), (maskT l ts).get i = none ↔ ts.get i = none
  | [], _, _ => Iff.rfl
  | d :: l, ts, i => by
    simp only [maskT]
    exact (maskT_dom i).trans (HT.dom_upd ts d _ i)
theorem maskT_keep : ∀ {l : List Tmp} {ts : HT AV} {t : Nat} {u : AV}, (maskT l ts).get t = some u → u = .any ∨ (t ∉ l ∧ ts.get t = some u)
  | [], ts, t, u, h => .inr ⟨by simp, h⟩
  | d :: l, ts, t, u, h => by
    simp only [maskT] at h
    rcases maskT_keep h with h | ⟨h1, h2⟩
    · exact .inl h
    · rw [HT.get_upd] at h2
      split at h2
      · exact .inl (HT.updO_some h2)
      · rename_i hne
        refine .inr ⟨?_, h2⟩
        rw [List.mem_cons]
        rintro (h | h)
        · exact hne h
        · exact h1 h
theorem put_dom (ts : HT AV) (r : PRec) (i : Nat) : (r.put ts).get i = none ↔ ts.get i = none := by
  unfold PRec.put
  split
  · exact HT.dom_upd _ _ _ _
  · exact HT.dom_upd _ _ _ _
  · exact Iff.rfl
theorem tsOf_dom : ∀ {p : List PRec} {ts : HT AV} (i : Nat), (tsOf ts p).get i = none ↔ ts.get i = none
  | [], _, _ => Iff.rfl
  | r :: p, ts, i => (tsOf_dom (p := p) (ts := r.put ts) i).trans (put_dom ts r i)
def PRec.u (r : PRec) : AV := match r.res with
  | some (.light u) => u
  | some (.heavy u _) => u
  | _ => .any
theorem tsOf_at : ∀ {p : List PRec} {ts : HT AV} {t : Nat} {u : AV}, (tsOf ts p).get t = some u → (∃ (j : Nat) (y : PRec), p[j]? = some y ∧ y.o.dst = some t ∧ u = y.u) ∨ ts.get t = some u
  | [], ts, t, u, h => .inr h
  | r :: p, ts, t, u, h => by
    rcases tsOf_at (p := p) (ts := r.put ts) h with ⟨j, y, h1, h2, h3⟩ | h
    · exact .inl ⟨j + 1, y, by simpa using h1, h2, h3⟩
    · unfold PRec.put at h
      split at h
      · rename_i u' d hr hd
        rw [HT.get_upd] at h
        split at h
        · rename_i e
          exact .inl ⟨0, r, by simp, by rw [hd, e], by rw [HT.updO_some h]; simp [PRec.u, hr]⟩
        · exact .inr h
      · rename_i u' H' d hr hd
        rw [HT.get_upd] at h
        split at h
        · rename_i e
          exact .inl ⟨0, r, by simp, by rw [hd, e], by rw [HT.updO_some h]; simp [PRec.u, hr]⟩
        · exact .inr h
      · exact .inr h
theorem tsOf_at2 : ∀ {p : List PRec} {ts : HT AV} {t : Nat} {u : AV}, (tsOf ts p).get t = some u → (∃ (j : Nat) (y : PRec), p[j]? = some y ∧ y.o.dst = some t ∧ u = y.u) ∨ (ts.get t = some u ∧ ∀ (j : Nat) (y : PRec), p[j]? = some y → y.o.dst = some t → y.res = none ∨ y.isBoom = true)
  | [], ts, t, u, h => .inr ⟨h, fun j y hj => by simp at hj⟩
  | r :: p, ts, t, u, h => by
    rcases tsOf_at2 (p := p) (ts := r.put ts) h with ⟨j, y, h1, h2, h3⟩ | ⟨h, hn⟩
    · exact .inl ⟨j + 1, y, by simpa using h1, h2, h3⟩
    · have key : (r.o.dst = some t → r.res = none ∨ r.isBoom = true) → ts.get t = some u → (∃ (j : Nat) (y : PRec), (r :: p)[j]? = some y ∧ y.o.dst = some t ∧ u = y.u) ∨ (ts.get t = some u ∧ ∀ (j : Nat) (y : PRec), (r :: p)[j]? = some y → y.o.dst = some t → y.res = none ∨ y.isBoom = true) := fun h0 hg =>
        .inr ⟨hg, fun j y hj hd => by
          cases j with
          | zero => simp at hj; subst hj; exact h0 hd
          | succ j => exact hn j y (by simpa using hj) hd⟩
      unfold PRec.put at h
      split at h
      · rename_i u' d hr hd
        rw [HT.get_upd] at h
        split at h
        · rename_i e
          exact .inl ⟨0, r, by simp, by rw [hd, e], by rw [HT.updO_some h]; simp [PRec.u, hr]⟩
        · rename_i e
          exact key (fun hd' => by rw [hd] at hd'; simp only [Option.some.injEq] at hd'; exact absurd hd'.symm e) h
      · rename_i u' H' d hr hd
        rw [HT.get_upd] at h
        split at h
        · rename_i e
          exact .inl ⟨0, r, by simp, by rw [hd, e], by rw [HT.updO_some h]; simp [PRec.u, hr]⟩
        · rename_i e
          exact key (fun hd' => by rw [hd] at hd'; simp only [Option.some.injEq] at hd'; exact absurd hd'.symm e) h
      · rename_i hne1 hne2
        refine key (fun hd' => ?_) h
        cases hr : r.res with
        | none => exact .inl rfl
        | some eo =>
          cases eo with
          | light v => exact absurd hd' (hne1 _ _ hr)
          | heavy v V => exact absurd hd' (hne2 _ _ _ hr)
          | boom v V => exact .inr (by simp [PRec.isBoom, hr])
theorem nOf_at : ∀ {p : List PRec} {i n : Nat}, (nOf i n p = n ∧ ∀ (j : Nat) (y : PRec), p[j]? = some y → y.isHeavy = false) ∨ ∃ (k : Nat) (y : PRec), nOf i n p = i + k + 1 ∧ p[k]? = some y ∧ y.isHeavy = true ∧ ∀ (j : Nat) (y : PRec), p[j]? = some y → y.isHeavy = true → j ≤ k
  | [], i, n => .inl ⟨rfl, fun j y h => by simp at h⟩
  | r :: p, i, n => by
    have ih := nOf_at (p := p) (i := i + 1) (n := match r.isHeavy with | true => i + 1 | false => n)
    have e : nOf i n (r :: p) = nOf (i + 1) (match r.isHeavy with | true => i + 1 | false => n) p := by simp only [nOf]; cases r.isHeavy <;> rfl
    rcases ih with ⟨h1, h2⟩ | ⟨k, y, h1, h2, h3, h4⟩
    · cases hr : r.isHeavy with
      | false =>
        rw [hr] at h1
        refine .inl ⟨by rw [e, hr]; exact h1, fun j y hj => ?_⟩
        cases j with
        | zero => simp at hj; subst hj; exact hr
        | succ j => exact h2 j y (by simpa using hj)
      | true =>
        rw [hr] at h1
        refine .inr ⟨0, r, by rw [e, hr]; exact h1, by simp, hr, fun j y hj hy => ?_⟩
        cases j with
        | zero => exact Nat.le_refl _
        | succ j => rw [h2 j y (by simpa using hj)] at hy; cases hy
    · refine .inr ⟨k + 1, y, by rw [e, h1]; omega, by simpa using h2, h3, fun j z hj hz => ?_⟩
      cases j with
      | zero => omega
      | succ j => have := h4 j z (by simpa using hj) hz; omega
theorem bOf_at : ∀ {p : List PRec} {i : Nat} {b : Option Nat} {k : Nat}, bOf i b p = some k → b = some k ∨ ∃ (j : Nat) (y : PRec), p[j]? = some y ∧ y.isBoom = true ∧ k = i + j
  | [], i, b, k, h => .inl h
  | r :: p, i, b, k, h => by
    have e : bOf i b (r :: p) = bOf (i + 1) (match r.isBoom with | true => some i | false => b) p := by simp only [bOf]; cases r.isBoom <;> rfl
    rw [e] at h
    rcases bOf_at h with h | ⟨j, y, h1, h2, h3⟩
    · cases hr : r.isBoom with
      | true =>
        rw [hr] at h
        simp only [Option.some.injEq] at h
        exact .inr ⟨0, r, by simp, hr, by omega⟩
      | false => rw [hr] at h; exact .inl h
    · exact .inr ⟨j + 1, y, by simpa using h1, h2, by omega⟩
theorem bOf_none : ∀ {p : List PRec} {i : Nat} {b : Option Nat}, bOf i b p = none → ∀ (j : Nat) (y : PRec), p[j]? = some y → y.isBoom = false
  | [], i, b, h, j, y, hj => by simp at hj
  | r :: p, i, b, h, j, y, hj => by
    have e : bOf i b (r :: p) = bOf (i + 1) (match r.isBoom with | true => some i | false => b) p := by simp only [bOf]; cases r.isBoom <;> rfl
    rw [e] at h
    cases j with
    | succ j => exact bOf_none h j y (by simpa using hj)
    | zero =>
      simp at hj; subst hj
      cases hr : r.isBoom with
      | false => rfl
      | true =>
        rw [hr] at h
        exfalso
        have : ∀ {p : List PRec} {i : Nat} {k : Nat}, bOf i (some k) p ≠ none := by
          intro p
          induction p with
          | nil => intro i k; simp [bOf]
          | cons r p ih => intro i k; simp only [bOf]; split <;> exact ih
        exact this h
/-- the heap at a place of the pass is the heap behind the last heavy operation ahead of it -/
theorem curOf_at : ∀ {p : List PRec} {H : AH}, ((∀ (j : Nat) (y : PRec), p[j]? = some y → y.isHeavy = false) ∧ curOf H p = H) ∨ ∃ (k : Nat) (y : PRec) (u : AV), p[k]? = some y ∧ y.res = some (.heavy u (curOf H p)) ∧ ∀ (j : Nat) (y : PRec), p[j]? = some y → y.isHeavy = true → j ≤ k
  | [], H => .inl ⟨fun j y h => by simp at h, rfl⟩
  | r :: p, H => by
    have shift : ∀ {H' : AH}, curOf H (r :: p) = curOf H' p → (∃ (k : Nat) (y : PRec) (u : AV), p[k]? = some y ∧ y.res = some (.heavy u (curOf H' p)) ∧ ∀ (j : Nat) (y : PRec), p[j]? = some y → y.isHeavy = true → j ≤ k) →
        ∃ (k : Nat) (y : PRec) (u : AV), (r :: p)[k]? = some y ∧ y.res = some (.heavy u (curOf H (r :: p))) ∧ ∀ (j : Nat) (y : PRec), (r :: p)[j]? = some y → y.isHeavy = true → j ≤ k := by
      rintro H' e ⟨k, y, u, h1, h2, h3⟩
      refine ⟨k + 1, y, u, by simpa using h1, by rw [e]; exact h2, fun j z hj hz => ?_⟩
      cases j with
      | zero => omega
      | succ j => have := h3 j z (by simpa using hj) hz; omega
    cases hr : r.res with
    | none =>
      have e : curOf H (r :: p) = curOf H p := by simp only [curOf, hr]
      rcases curOf_at (p := p) (H := H) with ⟨h1, h2⟩ | h
      · refine .inl ⟨fun j y hj => ?_, by rw [e]; exact h2⟩
        cases j with
        | zero => simp at hj; subst hj; simp [PRec.isHeavy, hr]
        | succ j => exact h1 j y (by simpa using hj)
      · exact .inr (shift e h)
    | some x =>
      cases x with
      | heavy u H' =>
        have e : curOf H (r :: p) = curOf H' p := by simp only [curOf, hr]
        rcases curOf_at (p := p) (H := H') with ⟨h1, h2⟩ | h
        · refine .inr ⟨0, r, u, by simp, by rw [e, h2]; exact hr, fun j y hj hy => ?_⟩
          cases j with
          | zero => exact Nat.le_refl _
          | succ j => rw [h1 j y (by simpa using hj)] at hy; cases hy
        · exact .inr (shift e h)
      | light u =>
        have e : curOf H (r :: p) = curOf H p := by simp only [curOf, hr]
        rcases curOf_at (p := p) (H := H) with ⟨h1, h2⟩ | h
        · refine .inl ⟨fun j y hj => ?_, by rw [e]; exact h2⟩
          cases j with
          | zero => simp at hj; subst hj; simp [PRec.isHeavy, hr]
          | succ j => exact h1 j y (by simpa using hj)
        · exact .inr (shift e h)
      | boom u H' =>
        have e : curOf H (r :: p) = curOf H p := by simp only [curOf, hr]
        rcases curOf_at (p := p) (H := H) with ⟨h1, h2⟩ | h
        · refine .inl ⟨fun j y hj => ?_, by rw [e]; exact h2⟩
          cases j with
          | zero => simp at hj; subst hj; simp [PRec.isHeavy, hr]
          | succ j => exact h1 j y (by simpa using hj)
        · exact .inr (shift e h)
end Go.Proofs.Ytlajcmoiopaemaa
