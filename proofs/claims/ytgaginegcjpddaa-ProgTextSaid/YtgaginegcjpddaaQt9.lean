/- A region that draws its order, operation by operation, where what is kept may say which operations are done: so a call that turns the memory and a store stand in one region. No program in sight. -/
import Derived.Test.YtgaginegcjpddaaQt8
import Derived.MapKept
set_option linter.unusedVariables false
set_option linter.unusedSimpArgs false
namespace Go.Proofs.Ytgaginegcjpddaa
section
variable {P : Program} {Q : Exit → Act → World → Prop}
def dn1 (dn : Nat → Bool) (j : Nat) : Nat → Bool := fun i => if i = j then true else dn i
theorem dn1_ne {dn : Nat → Bool} {j i : Nat} (h : i ≠ j) : dn1 dn j i = dn i := by simp [dn1, h]
/-- what is done has all done that it waits for -/
structure RgCl (ops : Array Oper) (dn : Nat → Bool) (o : Oper) : Prop where
  cl : ∀ i oi, ops[i]? = some oi → dn i = true → ∀ e ∈ oi.after, Region.binds .any e = true → dn e.on = true
  rd : ∀ e ∈ o.after, Region.binds .any e = true → dn e.on = true
theorem RgCl.yes {ops : Array Oper} {dn : Nat → Bool} {o : Oper} (h : RgCl ops dn o) (k : Nat) (hi : (o.after.toList.any fun e => Region.binds .any e && e.on == k) = true) : dn k = true := by
  obtain ⟨e, he, hb⟩ := List.any_eq_true.1 hi
  simp only [Bool.and_eq_true, beq_iff_eq] at hb
  have := h.rd e (by simpa using he) hb.1
  rwa [hb.2] at this
theorem RgCl.no {ops : Array Oper} {dn : Nat → Bool} {o' : Oper} (h : RgCl ops dn o') (i k : Nat) {o : Oper} (ho : ops[i]? = some o) (hi : (o.after.toList.any fun e => Region.binds .any e && e.on == k) = true) (hk : dn k = false) : dn i = false := by
  cases hd : dn i with
  | false => rfl
  | true =>
    obtain ⟨e, he, hb⟩ := List.any_eq_true.1 hi
    simp only [Bool.and_eq_true, beq_iff_eq] at hb
    have := h.cl i o ho hd e (by simpa using he) hb.1
    rw [hb.2, hk] at this; cases this
def RgOk2 (P : Program) (Q : Exit → Act → World → Prop) (ops : Array Oper) (heads : List Oper) (a0 : Act) (Inv : (Nat → Bool) → World → Prop) (post : Nat → Value → World → Prop) (j : Nat) (o : Oper) : Prop :=
  ∀ a w dn K, dn j = false → RgCl ops dn o → Inv dn w → RgDep ops post o a w → RgFrame heads a0 a →
    (∀ v w', Inv (dn1 dn j) w' → post j v w' → (∀ i u, i ≠ j → dn i = true → post i u w → post i u w') → K (a.put o.dst v) w') →
    if Region.wanted o (yielded ops a.tmps) then o.wp P a w K Q ∨ (o.asks P a w ∧ LetsOut Q) else K (a.put o.dst undef) w
def RgAll2 (P : Program) (Q : Exit → Act → World → Prop) (ops : Array Oper) (heads : List Oper) (a0 : Act) (Inv : (Nat → Bool) → World → Prop) (post : Nat → Value → World → Prop) : Nat → List Oper → Prop
  | _, [] => True
  | j, o :: r => RgOk2 P Q ops heads a0 Inv post j o ∧ RgAll2 P Q ops heads a0 Inv post (j + 1) r
theorem RgAll2.at_ {ops : Array Oper} {heads : List Oper} {a0 : Act} {Inv : (Nat → Bool) → World → Prop} {post : Nat → Value → World → Prop} : ∀ {l : List Oper} {k : Nat}, RgAll2 P Q ops heads a0 Inv post k l → ∀ j o, l[j]? = some o → RgOk2 P Q ops heads a0 Inv post (k + j) o
  | [], _, _, j, o, h => by simp at h
  | x :: r, k, h, 0, o, ho => by simp at ho; subst ho; exact h.1
  | x :: r, k, h, j + 1, o, ho => by
    have := RgAll2.at_ h.2 j o (by simpa using ho)
    rwa [Nat.add_assoc, Nat.add_comm 1 j] at this
structure RgG2 (l : List Oper) (n : Nat) (a0 : Act) (Inv : (Nat → Bool) → World → Prop) (post : Nat → Value → World → Prop) (listed : Array Bool) (a : Act) (w : World) : Prop where
  head : HeadInv .any l.toArray n listed
  inv : Inv (fun j => listed.getD j false) w
  frame : RgFrame (l.take n) a0 a
  posts : ∀ j o d, j < n → l[j]? = some o → listed.getD j false = true → o.dst = some d → post j (a.tmps.getD d undef) w
theorem rg_any2 {l : List Oper} {n : Nat} {a0 : Act} {Inv : (Nat → Bool) → World → Prop} {post : Nat → Value → World → Prop} (hB : rgB l n = true)
    (hsz : ∀ o ∈ l.take n, ∀ d, o.dst = some d → d < a0.tmps.size) (hops : RgAll2 P Q l.toArray (l.take n) a0 Inv post 0 (l.take n))
    (hend : ∀ vs w, Inv (fun j => decide (j < n)) w → (∀ j o d, j < n → l[j]? = some o → o.dst = some d → post j (vs j) w) → wpList P l.toArray Q (l.drop n) (rgPut a0 (l.take n) 0 vs) w) :
    ∀ (m fuel : Nat) (listed : Array Bool) (a : Act) (w : World), rgLeft n listed = m → fuel = m + (l.length - n) → RgG2 l n a0 Inv post listed a w → wpAny P .any l.toArray Q fuel listed a w := by
  simp only [rgB, Bool.and_eq_true, decide_eq_true_eq, Bool.or_eq_true] at hB
  obtain ⟨⟨⟨⟨hlex, htail⟩, hseq⟩, hnd⟩, hnl⟩ := hB
  intro m
  induction m with
  | zero =>
    intro fuel listed a w hm hf hG
    have hall := rgLeft_zero hm
    have hlist : listed = Array.replicate n true ++ Array.replicate (l.length - n) false := by
      have hs := hG.head.size
      apply Array.ext
      · rw [hs]; simp; omega
      · intro i h1 h2
        rcases Nat.lt_or_ge i n with hi | hi
        · have := hall i hi
          rw [Array.getElem_append_left (by simpa using hi)]
          simpa [Array.getD_eq_getD_getElem?, h1] using this
        · have := hG.head.tail i hi (by rw [← hs]; exact h1)
          rw [Array.getElem_append_right (by simpa using hi)]
          simpa [Array.getD_eq_getD_getElem?, h1] using this
    have hdn : (fun j => listed.getD j false) = fun j => decide (j < n) := by
      funext j
      rw [hlist]
      by_cases hj : j < n
      · have : j < (Array.replicate n true ++ Array.replicate (l.length - n) false).size := by simp; omega
        simp only [Array.getD_eq_getD_getElem?, Array.getElem?_append]
        simp [hj]
      · simp only [Array.getD_eq_getD_getElem?, Array.getElem?_append]
        simp only [Array.size_replicate, if_neg hj, decide_eq_false hj, Array.getElem?_replicate]
        split <;> rfl
    have hiv := hG.inv
    rw [hdn] at hiv
    have hvs := hend (fun j => match l[j]? with | some o => (match o.dst with | some d => a.tmps.getD d undef | none => undef) | none => undef) w hiv (fun j o d hj ho hd => by
      simp only [ho, hd]
      exact hG.posts j o d hj ho (getD_false_of (hall j hj) (by rw [hG.head.size]; simp; omega)) hd)
    have ha : a = rgPut a0 (l.take n) 0 (fun j => match l[j]? with | some o => (match o.dst with | some d => a.tmps.getD d undef | none => undef) | none => undef) := by
      apply act_ext
      · rw [rgPut_defers]; exact hG.frame.1
      · rw [rgPut_size]; exact hG.frame.2.1
      · intro d
        by_cases hd : ∃ o ∈ l.take n, o.dst = some d
        · obtain ⟨o, ho, hod⟩ := hd
          obtain ⟨j, hj, hjo⟩ := List.getElem_of_mem ho
          have hjn : j < n := by simp at hj; omega
          have hjo' : (l.take n)[j]? = some o := by rw [List.getElem?_eq_getElem hj, hjo]
          rw [rgPut_eq (l.take n) a0 0 _ d j o hnd hjo' hod (hsz o ho d hod), Nat.zero_add]
          have : l[j]? = some o := by rw [List.getElem?_take] at hjo'; rw [if_pos hjn] at hjo'; exact hjo'
          simp only [this, hod]
        · have hd' : ∀ o ∈ l.take n, o.dst ≠ some d := fun o ho e => hd ⟨o, ho, e⟩
          rw [rgPut_ne _ _ _ _ _ hd']
          exact hG.frame.2.2 d hd'
    rw [← ha] at hvs
    have key := wpAny_of_seq (P := P) (ops := l.toArray) (md := .any) (Q' := Q) (l.drop n) n listed a w (fun j => by simp [List.getElem?_drop]) (by rw [List.length_drop, hlist]; exact hseq) hvs
    rw [List.length_drop] at key
    rw [hf, Nat.zero_add]
    exact key
  | succ m ih =>
    intro fuel listed a w hm hf hG
    obtain ⟨i0, hi0, hl0, hlow⟩ := rgLeft_pos (n := n) (listed := listed) (by omega)
    rw [hf, show m + 1 + (l.length - n) = (m + (l.length - n)) + 1 by omega]
    have hs := hG.head.size
    have hsl : listed.size = l.length := by rw [hs]; simp
    have hmin : i0 ∈ Region.ready .any l.toArray listed := by
      have h1 := List.all_eq_true.1 hlex i0 (List.mem_range.2 hi0)
      cases ho : l[i0]? with
      | none => rw [ho] at h1; cases h1
      | some o =>
        rw [ho] at h1
        refine mem_ready.2 ⟨hl0, o, by simpa using ho, fun e he hb => ?_⟩
        have h2 := Array.all_eq_true'.1 h1 e he
        simp only [hb, Bool.not_true, Bool.false_or, decide_eq_true_eq] at h2
        exact getD_false_of (hlow e.on h2) (by rw [hsl]; omega)
    refine ⟨fun h => (by rw [h] at hmin; cases hmin), fun i hi => ?_⟩
    obtain ⟨hun, oi, hoi, hall⟩ := mem_ready.1 hi
    have hil : i < l.length := by
      have := (Array.getElem?_eq_some_iff.1 hoi).1
      simpa using this
    have hin : i < n := by
      rcases Nat.lt_or_ge i n with h | h
      · exact h
      · exfalso
        rcases htail with h1 | ⟨hsk, hch⟩
        · omega
        · exact tail_waits hsk hch (by simp; omega) hG.head (n - i0) i0 rfl hi0 hl0 i h hi
    have hoi' : l[i]? = some oi := by simpa using hoi
    have hoit : (l.take n)[i]? = some oi := by rw [List.getElem?_take, if_pos hin]; exact hoi'
    have hok := RgAll2.at_ hops i oi hoit
    rw [Nat.zero_add] at hok
    have hmem : oi ∈ l.take n := List.mem_of_getElem? hoit
    unfold wpOp
    simp only [hoi]
    refine hok a w _ _ (by
      have := hun
      exact getD_both this) ⟨fun i oi ho hl e he hb => hG.head.closed i oi ho hl e he hb, fun e he hb => hall e he hb⟩ hG.inv (fun e he hb o' ho' d hd => ?_) hG.frame (fun v w' hI' hp hst => ?_)
    · have hle := hall e he hb
      have hen : e.on < n := by
        rcases Nat.lt_or_ge e.on n with h | h
        · exact h
        · exfalso
          have h3 : e.on < listed.size := by
            rcases Nat.lt_or_ge e.on listed.size with h4 | h4
            · exact h4
            · simp [Array.getD_eq_getD_getElem?, Array.getElem?_eq_none h4] at hle
          have := hG.head.tail e.on h (by rw [← hs]; exact h3)
          simp [Array.getD_eq_getD_getElem?, h3] at this hle
          rw [this] at hle; cases hle
      exact hG.posts e.on o' d hen (by simpa using ho') hle hd
    · refine ih _ _ _ w' (by have := rgLeft_set n listed i hin (by rw [hsl]; exact hil) hun; omega) rfl ⟨hG.head.set hi hin, (by
        have e : (fun j => (listed.setIfInBounds i true).getD j false) = dn1 (fun j => listed.getD j false) i := by
          funext j
          by_cases hij : i = j
          · subst hij; simp [dn1, Array.getD_eq_getD_getElem?, hsl, hil]
          · rw [getD_set_ne false hij, dn1_ne (fun e => hij e.symm)]
        rw [e]; exact hI'), ⟨by rw [put_defers]; exact hG.frame.1, by rw [put_size]; exact hG.frame.2.1, fun d hd => ?_⟩, fun j o d hj ho hl hd => ?_⟩
      · rw [put_ne _ _ _ _ (hd oi hmem)]
        exact hG.frame.2.2 d hd
      · by_cases hij : i = j
        · subst hij
          have : o = oi := Option.some.inj (ho.symm.trans hoi')
          subst this
          rw [hd, put_eq _ _ _ (by rw [hG.frame.2.1]; exact hsz o hmem d hd)]
          exact hp
        · rw [getD_set_ne false hij] at hl
          have hne : oi.dst ≠ some d := by
            intro e
            have hjt : (l.take n)[j]? = some o := by rw [List.getElem?_take, if_pos hj]; exact ho
            have h1 := rgPut_eq (l.take n) a0 0 (fun x => .int .i64 x) d i oi hnd hoit e (hsz oi hmem d e)
            have h2 := rgPut_eq (l.take n) a0 0 (fun x => .int .i64 x) d j o hnd hjt hd (hsz oi hmem d e)
            rw [h1] at h2
            simp only [Nat.zero_add, Value.int.injEq, true_and] at h2
            omega
          rw [put_ne _ _ _ _ hne]
          exact hst j _ (fun e => hij e.symm) hl (hG.posts j o d hj ho hl hd)
theorem wp_region_rg2 {id : Nat} {l : List Oper} (n : Nat) {a0 : Act} {w0 : World} (Inv : (Nat → Bool) → World → Prop) (post : Nat → Value → World → Prop) (hm : P.follows .mixedOrders = true) (hB : rgB l n = true)
    (hsz : (l.take n).all (fun o => match o.dst with | some d => decide (d < a0.tmps.size) | none => true) = true) (hI : Inv (fun _ => false) w0.drew) (hops : RgAll2 P Q l.toArray (l.take n) a0 Inv post 0 (l.take n))
    (hend : ∀ vs w, Inv (fun j => decide (j < n)) w → (∀ j o d, j < n → l[j]? = some o → o.dst = some d → post j (vs j) w) → wpList P l.toArray Q (l.drop n) (rgPut a0 (l.take n) 0 vs) w) : (Code.region id l.toArray true).wp P Q a0 w0 := by
  have hnl : n ≤ l.length := by
    simp only [rgB, Bool.and_eq_true, decide_eq_true_eq] at hB
    exact hB.2
  refine wp_region_any hm ?_
  refine rg_any2 hB (fun o ho d hd => ?_) hops hend n _ _ a0 w0.drew ?_ (by simp; omega) ⟨⟨by simp, fun j oj _ hl => (by rw [getD_replicate_false] at hl; cases hl), fun t _ ht => getD_in (by simpa using ht) (getD_replicate_false _ _)⟩, (by simpa only [getD_replicate_false] using hI), ⟨rfl, rfl, fun _ _ => rfl⟩, fun j o d _ _ hl => (by rw [getD_replicate_false] at hl; cases hl)⟩
  · have := List.all_eq_true.1 hsz o ho
    rw [hd] at this
    simpa using this
  · unfold rgLeft
    rw [List.countP_eq_length.2]
    · simp
    · intro j hj
      have : j < l.length := by have := List.mem_range.1 hj; omega
      simp [Array.getD_eq_getD_getElem?, this]
/-- An operation that leaves the world alone, and of which what is kept says nothing. -/
theorem RgOk2.val {ops : Array Oper} {heads : List Oper} {a0 : Act} {Inv : (Nat → Bool) → World → Prop} {post : Nat → Value → World → Prop} {j : Nat} {o : Oper} (hg : o.guard = none) (hs : ∀ dn w, Inv dn w → Inv (dn1 dn j) w)
    (h : ∀ a w dn, Inv dn w → RgDep ops post o a w → RgFrame heads a0 a → ∃ v, (execOp a.eval o).run P w = .ok (.value v) w ∧ post j v w) : RgOk2 P Q ops heads a0 Inv post j o := by
  intro a w dn K _ _ hI hD hF hK
  rw [if_pos (by simp [Region.wanted, hg])]
  obtain ⟨v, hr, hp⟩ := h a w dn hI hD hF
  left
  unfold Oper.wp
  rw [hr]
  exact hK v w (hs dn w hI) hp (fun _ _ _ _ h => h)
theorem RgOk2.absurd {ops : Array Oper} {heads : List Oper} {a0 : Act} {Inv : (Nat → Bool) → World → Prop} {post : Nat → Value → World → Prop} {j : Nat} {o : Oper} (h : ∀ a w, RgDep ops post o a w → False) : RgOk2 P Q ops heads a0 Inv post j o := by
  intro a w dn K _ _ _ hD _ _
  exact (h a w hD).elim
theorem RgOk2.turn {ops : Array Oper} {heads : List Oper} {a0 : Act} {Inv : (Nat → Bool) → World → Prop} {post : Nat → Value → World → Prop} {j : Nat} {o : Oper} (hg : o.guard = none)
    (h : ∀ a w dn, dn j = false → RgCl ops dn o → Inv dn w → RgDep ops post o a w → RgFrame heads a0 a → ∃ v w', (execOp a.eval o).run P w = .ok (.value v) w' ∧ Inv (dn1 dn j) w' ∧ post j v w' ∧ ∀ i u, i ≠ j → dn i = true → post i u w → post i u w') : RgOk2 P Q ops heads a0 Inv post j o := by
  intro a w dn K h0 hc0 hI hD hF hK
  rw [if_pos (by simp [Region.wanted, hg])]
  obtain ⟨v, w', hr, hI', hp, hs⟩ := h a w dn h0 hc0 hI hD hF
  left
  unfold Oper.wp
  rw [hr]
  exact hK v w' hI' hp hs
/-- A call of a Go function, that may panic. -/
theorem RgOk2.call {ops : Array Oper} {heads : List Oper} {a0 : Act} {Inv : (Nat → Bool) → World → Prop} {post : Nat → Value → World → Prop} {j : Nat} {o : Oper} (hg : o.guard = none) (f : FuncId)
    (h : ∀ a w dn, dn j = false → RgCl ops dn o → Inv dn w → RgDep ops post o a w → RgFrame heads a0 a → ∃ args, (execOp a.eval o).run P w = .ok (.enter f args) w ∧ Calls P f args w fun e w' =>
      (∃ v, e = .returned v ∧ Inv (dn1 dn j) w' ∧ post j v w' ∧ ∀ i u, i ≠ j → dn i = true → post i u w → post i u w') ∨ (∃ ch, e = .panicked ch ∧ Q (.panic ch) a w')) : RgOk2 P Q ops heads a0 Inv post j o := by
  intro a w dn K h0 hc0 hI hD hF hK
  rw [if_pos (by simp [Region.wanted, hg])]
  obtain ⟨args, hr, hc⟩ := h a w dn h0 hc0 hI hD hF
  left
  unfold Oper.wp
  rw [hr, Oper.upon_enter]
  refine hc.mono ?_
  rintro e w' (⟨v, rfl, hI', hp, hs⟩ | ⟨ch, rfl, hq⟩)
  · exact hK v w' hI' hp hs
  · exact hq
theorem RgOk2.append {ops : Array Oper} {heads : List Oper} {a0 : Act} {Inv : (Nat → Bool) → World → Prop} {post : Nat → Value → World → Prop} {j : Nat} {o : Oper} (hg : o.guard = none) {t e : TypeId} {size bytes : Nat} (T : AppTy P t e size bytes) (s x : Operand)
    (hop : o.op = Op.call { callee := Callee.builtin Builtin.append, args := #[s, x], argTypes := #[t, t] }) {α : Type} {R : World → α → List Value → Prop} (l : List α) (y : α) (cs : List Value)
    (hl : cs.length = size) (h1 : ∀ u ∈ cs, u.oneCell' = true) (hn : (l.length + 1) * bytes ≤ 140737488355328) (hn2 : l.length + 1 ≤ 9223372036854775807)
    (h : ∀ a w dn, dn j = false → RgCl ops dn o → Inv dn w → RgDep ops post o a w → RgFrame heads a0 a → ∃ B v, a.eval s = v ∧ a.eval x = .slice (some ⟨B, 0, none⟩) 1 1 ∧ w.heap[B]? = some (.cells cs.toArray e (0, 0)) ∧ Own w e size (R w) v l ∧ R w y cs ∧
      ∀ g cap w', Grew w w' v e size (R w) l (l ++ [y]) g cap → Inv (dn1 dn j) w' ∧ post j (.slice (some ⟨g, 0, none⟩) (l.length + 1) cap) w' ∧ ∀ i u, i ≠ j → dn i = true → post i u w → post i u w') : RgOk2 P Q ops heads a0 Inv post j o := by
  intro a w dn K h0 hc0 hI hD hF hK
  rw [if_pos (by simp [Region.wanted, hg])]
  obtain ⟨B, v, hs, hx, hB, hO, hr, hG⟩ := h a w dn h0 hc0 hI hD hF
  obtain ⟨g, cap, w', hrn, hGr⟩ := own_append (W := w) (w := w) (ty := o.type) T B y cs (Nat.le_refl _) rfl rfl rfl (fun _ _ => rfl) hB hO hr hl h1 hn hn2
  obtain ⟨hI', hp, hst⟩ := hG g cap w' hGr
  left
  unfold Oper.wp
  simp only [execOp, hop, resolve, invoke, builtin, Sem.run_bind, Sem.run_pure, Result.andThen_ok, List.map_toArray, List.map_cons, List.map_nil, hs, hx, hrn]
  exact hK _ w' hI' hp hst
end
end Go.Proofs.Ytgaginegcjpddaa
/- The program's reader of forms: a statement of acts. -/
namespace Go.Proofs.Ytgaginegcjpddaa
open Go.RowKit
theorem kin_in {l : List Form} (hwf : WF l) {f : Nat} {k : Int} (h : Kin l f k) : ∀ j ∈ tailK l k, Kin l f j := by
  cases f with
  | zero => obtain ⟨kn, _, h1, h2⟩ := h; omega
  | succ f => exact fun j hj => kin_up (kin_tail hwf h j (List.mem_of_mem_drop (show j ∈ (fm l k).kids.drop 1 from hj)))
theorem cntL_in {l : List Form} (hwf : WF l) {f : Nat} {k : Int} (h : Kin l f k) : cntL l f (tailK l k) + 1 ≤ cntE l f k := by
  have h1 := cntL_kids hwf h
  have h2 := cntL_drop l f (fm l k).kids 1
  have h3 : tailK l k = (fm l k).kids.drop 1 := rfl
  rw [h3]; omega
def eachS (l : List Form) (f : Nat) (kids : List Int) (s : ESt) : (Int × ESt) ⊕ Wr :=
  match seqS (actS l f) kids s.1 with
  | .inr e => .inr e
  | .inl (acs, es1) => addS (es1, s.2) { stmt0 with kind := 3, acts := acs }
def boxE (av : Value) : Array Value := #[.int .u8 3, .string ⟨#[]⟩, .int .u8 0, .int .i64 (-1), .int .i64 (-1), av, .slice none 0 0, .slice none 0 0]
/-- the acts that are read so far, in a box of one's own beside the reader -/
structure EX (w w' : World) (l : List Form) (lo rb : Nat) (S : Nat → Value) (Z : Nat → Prop) (S1 : Nat → Value) (Z1 : Nat → Prop) (p : Prg) (bx : Nat) (av : Value) (al : List PAct) : Prop where
  b : BX w w' l lo rb S Z S1 Z1 p bx 77 (boxE av)
  o : Own w' 137 6 ActV av al
  a : Apart w w' rb S1 Z1 av
  n : av.ownBlock ≠ some bx
theorem EX.step {w w1 w' : World} {l : List Form} {lo rb : Nat} {S : Nat → Value} {Z : Nat → Prop} {S1 S2 : Nat → Value} {Z1 Z2 : Nat → Prop} {p p2 : Prg} {bx : Nat} {av : Value} {al : List PAct} (h : EX w w1 l lo rb S Z S1 Z1 p bx av al) (hX : RX w' l lo rb S2 Z2 p2) (hS : RStep w1 rb S1 Z1 w' S2 Z2) : EX w w' l lo rb S Z S2 Z2 p2 bx av al :=
  ⟨h.b.step hX hS, own_step h.o (fun b hb => (h.a.out b hb).2.1) hS, h.a.step (fun b hb => Own.blk h.o b hb) hS, h.n⟩
theorem EX.below {w w1 w' : World} {l : List Form} {lo rb : Nat} {S : Nat → Value} {Z : Nat → Prop} {S1 : Nat → Value} {Z1 : Nat → Prop} {p : Prg} {bx : Nat} {av : Value} {al : List PAct} (h : EX w w1 l lo rb S Z S1 Z1 p bx av al) (hb : Below w1.heap.size w1 w') : EX w w' l lo rb S Z S1 Z1 p bx av al :=
  ⟨h.b.below hb, h.o.below hb, ⟨h.a.out⟩, h.n⟩
/-- the box behind an append to the acts -/
theorem EX.grew {w w1 w' : World} {l : List Form} {lo rb : Nat} {S : Nat → Value} {Z : Nat → Prop} {S1 : Nat → Value} {Z1 : Nat → Prop} {p : Prg} {bx : Nat} {av : Value} {al al' : List PAct} (h : EX w w1 l lo rb S Z S1 Z1 p bx av al) (h0 : lo ≤ w.heap.size) {g cap : Nat} (hG : Grew w1 w' av 137 6 ActV al al' g cap) :
    BX w w' l lo rb S Z S1 Z1 p bx 77 (boxE av) ∧ Apart w w' rb S1 Z1 (.slice (some ⟨g, 0, none⟩) al'.length cap) ∧ g ≠ bx :=
  ⟨⟨h.b.x.grew hG h.a h0, h.b.s.grew h.b.x hG h.a, hG.keep h.b.blk h.n, h.b.low, h.b.nr, h.b.nz, h.b.nw⟩, Apart.grew h.b.x hG h.a h.b.s.grow.size, hG.ne h.b.blk h.n⟩
def postN (rb bx kn : Nat) (av : Value) : Nat → Value → World → Prop
  | 0, v, _ => v = .pointer (some ⟨bx, 5, none⟩)
  | 1, v, _ => v = av
  | 2, v, _ => v = .pointer (some ⟨rb, 0, none⟩)
  | 3, v, _ => v = .int .i64 (kn : Int)
  | 4, v, _ => False
  | 5, v, _ => False
  | 6, v, _ => False
  | 7, v, _ => v = .pointer (some ⟨bx, 5, none⟩)
  | _, _, _ => True
/-- the state behind an act that is read and put behind the others, but for the box -/
structure PX2 (w w' : World) (l : List Form) (lo rb : Nat) (S : Nat → Value) (Z : Nat → Prop) (p : Prg) (bx : Nat) (av : Value) (al : List PAct) (v : Value) : Prop where
  out : ∃ (g cap : Nat) (S' : Nat → Value) (Z' : Nat → Prop), v = .slice (some ⟨g, 0, none⟩) al.length cap ∧ BX w w' l lo rb S Z S' Z' p bx 77 (boxE av) ∧ Own w' 137 6 ActV (.slice (some ⟨g, 0, none⟩) al.length cap) al ∧ Apart w w' rb S' Z' (.slice (some ⟨g, 0, none⟩) al.length cap) ∧ g ≠ bx
def postE (wr : World) (rb bx kn : Nat) (av : Value) (a : PAct) (X : Value → World → Prop) : Nat → Value → World → Prop
  | 0, v, _ => v = .pointer (some ⟨bx, 5, none⟩)
  | 1, v, _ => v = av
  | 2, v, _ => v = .pointer (some ⟨rb, 0, none⟩)
  | 3, v, _ => v = .int .i64 (kn : Int)
  | 4, v, _ => v = .agg a.cells.toArray
  | 5, v, w => ∃ B : Nat, v = .slice (some ⟨B, 0, none⟩) 1 1 ∧ wr.heap.size ≤ B ∧ w.heap[B]? = some (.cells a.cells.toArray 137 (0, 0))
  | 6, v, w => X v w
  | 7, v, _ => v = .pointer (some ⟨bx, 5, none⟩)
  | _, _, _ => True
theorem postE_pure {wr : World} {rb bx kn : Nat} {av : Value} {a : PAct} {X : Value → World → Prop} {i : Nat} {u : Value} {w w' : World} (h5 : i ≠ 5) (h6 : i ≠ 6) (h : postE wr rb bx kn av a X i u w) : postE wr rb bx kn av a X i u w' := by
  unfold postE at h ⊢
  split at h <;> first | exact h | exact absurd rfl h5 | exact absurd rfl h6
set_option maxHeartbeats 4000000 in
set_option maxRecDepth 100000 in
theorem stmt_each (l : List Form) (hwf : WF l) (f : Nat) (w : World) (lo rb : Nat) (S : Nat → Value) (Z : Nat → Prop) (p : Prg) (h : RX w l lo rb S Z p) (n : Nat) (hn : n < l.length) (hkr : ∀ k ∈ tailK l (n : Int), Kin l f k) (hcnt : p.exprs.length + cntL l f (tailK l (n : Int)) ≤ 99999) (hcs : p.stmts.length ≤ 99999)
    (hsp : splitOk l (n : Int) = true) (hw : headW l (n : Int) = wEach) (hc : 1 ≤ (tailK l (n : Int)).length ∧ (tailK l (n : Int)).length ≤ 6) :
    Calls Try.prog 39 #[.pointer (some ⟨rb, 0, none⟩), .int .i64 (n : Int)] w (SP w l lo rb S Z p (eachS l f (tailK l (n : Int)) (p.exprs, p.stmts))) := by
  obtain ⟨kids, hkd⟩ : ∃ kids, tailK l (n : Int) = kids := ⟨_, rfl⟩
  rw [hkd] at hkr hcnt hc ⊢
  generalize hgr : eachS l f kids (p.exprs, p.stmts) = R
  have hA := hgr.symm
  have hlow := h.size.2
  have H := hid h; have HSP := hid hsp; have HW := hid hw; have HKD := hid hkd; have HKR := hid hkr; have HWF := hid hwf
  have HRR := hid hA
  clear h hsp hw hkd hkr hgr hA
  go_enter Try.func39, Try.ntmps39
  go_upto_region 2 with (go_at_call 37; refine (split_yes l HWF.out rb _ _ (by exact H.out.rf) n hn HSP.out).mono ?_; rintro e w2 ⟨tv, rfl, htv, hb2⟩; rw [HW.out]; rw [HKD.out] at htv)
  have hX2 := H.out.below hb2
  have hS2 := RStep.of_below (rb := rb) (S := S) (Z := Z) hb2
  have hz2 := hb2.size
  obtain ⟨kb, ko, kc, rfl, hle, hcap, hkD, hkb, hc0⟩ := htv.at_ 0 (by omega)
  have hw0 : (wEach.toList == [115, 101, 116]) = false := by rw [ByteArray.toList_eq]; rfl
  have hw1 : (wEach.toList == [102, 111, 108, 100]) = false := by rw [ByteArray.toList_eq]; rfl
  have hw2 : (wEach.toList == [101, 97, 99, 104]) = true := by rw [ByteArray.toList_eq]; rfl
  have hge : (1 : Int) ≤ (kids.length : Int) := by omega
  have hle6 : (kids.length : Int) ≤ 6 := by omega
  have hb0 := BX.new hX2 hS2 #[.int .u8 0, .string ⟨#[]⟩, .int .u8 0, .int .i64 (-1), .int .i64 (-1), .slice none 0 0, .slice none 0 0, .slice none 0 0] 77
  have hA := HRR.out
  unfold eachS at hA
  simp only at hA
  obtain ⟨R2, hR2⟩ : ∃ R2, seqS (actS l f) kids p.exprs = R2 := ⟨_, rfl⟩
  rw [hR2] at hA
  have z0 := blk_cell hb0.blk 0; have zf := blk_free hb0.blk
  have HA := hid hA; have HR2 := hid hR2; have HB0 := hid hb0; have HTV := hid htv; have HB2 := hid hb2
  clear hX2 hS2 hb0 htv hA hR2 hb2 hc0
  go_wp2_with fail
  have hb1 : BX w (w2.alloc (.cells (boxE (.slice none 0 0)) 77 (0, 0))) l lo rb S Z S Z p w2.heap.size 77 (boxE (.slice none 0 0)) := BX.new (H.out.below HB2.out) (RStep.of_below HB2.out) _ _
  have HEX := hid (show EX w (w2.alloc (.cells (boxE (.slice none 0 0)) 77 (0, 0))) l lo rb S Z S Z { p with exprs := p.exprs } w2.heap.size (.slice none 0 0) [] from ⟨hb1, Own.nil _ _ _ _, ⟨fun b hb => by cases hb⟩, by simp [Value.ownBlock]⟩)
  clear hb1 z0 zf HB0 hw0 hw1 hw2
  go_loopw [10, 91] (fun s10 s91 wr => ∃ (k : Nat) (al : List PAct) (av : Value) (S1 : Nat → Value) (Z1 : Nat → Prop) (es1 : List Expr), s91 = .int .i64 (k : Int) ∧ k ≤ kids.length ∧ Hid (EX w wr l lo rb S Z S1 Z1 { p with exprs := es1 } w2.heap.size av al) ∧ es1.length + cntL l f (kids.drop k) ≤ 99999 ∧ Hid (al.length = k) ∧
    Hid (R2 = match seqS (actS l f) (kids.drop k) es1 with | .inr e => .inr e | .inl (ps, es2) => .inl (al ++ ps, es2))) (fun s10 s91 wr => kids.length - cnt s91)
  case atStart =>
    refine ⟨0, [], _, S, Z, p.exprs, rfl, Nat.zero_le _, HEX, by simpa using hcnt, hid rfl, hid ?_⟩
    simp only [List.drop_zero]
    rw [HR2.out]
    rcases R2 with ⟨ps, es2⟩ | e <;> rfl
  case round =>
    obtain ⟨k, al, av, S1, Z1, es1, rfl, hk, hX, hcn, hal, hR⟩ := hrel
    by_cases hlt : k < kids.length
    · obtain ⟨eb, eo, ec, hev, _, _, hDb, hbs, hcell⟩ := HTV.out.at_ k hlt
      simp only [Value.slice.injEq] at hev
      obtain ⟨hev, h00, rfl⟩ := hev
      cases hev
      obtain ⟨kn, hkn, hknl, hknf⟩ := HKR.out _ (nth_mem hlt)
      rw [hkn] at hcell
      have hcr : wr.cell? ⟨kb, ko + k, none⟩ = some (.int .i64 (kn : Int)) := (World.cell?_of_block (a := ⟨kb, ko + k, none⟩) ((hX.out.b.old H.out hDb).trans (HB2.out.block kb (Nat.lt_of_lt_of_le hDb hlow)).symm)).trans hcell
      have hki : Kin l f (kn : Int) := ⟨kn, rfl, hknl, hknf⟩
      have hin := cntL_in HWF.out hki
      have hdr : kids.drop k = (kn : Int) :: kids.drop (k + 1) := by rw [drop_nth hlt, hkn]
      rw [hdr, cntL_cons] at hcn
      have hR2 := hR.out
      rw [hdr] at hR2
      simp only [seqS] at hR2
      obtain ⟨AA, ac, hav, _, _⟩ := Own.slice hX.out.o
      subst hav
      have hall : al.length ≤ 6 := by have := hal.out; omega
      have HC := hid (show es1.length + cntL l f (tailK l (kn : Int)) ≤ 99999 by omega)
      have HKI := hid hki; have HDR := hid hdr
      have c5 := blk_cell hX.out.b.blk 5; have cf := blk_free hX.out.b.blk
      have hrb := hX.out.b.x.size.1
      clear hcell hR hkn hdr hki
      rcases hrr : actS l f (kn : Int) es1 with ⟨v, es2⟩ | wr2
      · rw [hrr] at hR2
        simp only at hR2
        have hlen := actS_len l f _ _ _ hrr
        simp only at hlen
        have HR3 := hid hR2; have HRR2 := hid hrr; have HC2 := hid (show es2.length + cntL l f (kids.drop (k + 1)) ≤ 99999 by omega)
        clear hR2 hrr hlen hcn hin
        go_upto_region 17 with fail
        obtain ⟨av, hav⟩ : ∃ av, Value.slice AA al.length ac = av := ⟨_, rfl⟩
        have HX := hX
        rw [hav] at HX
        have hXd : EX w wr.drew l lo rb S Z S1 Z1 { p with exprs := es1 } w2.heap.size av al := HX.out.below ⟨rfl, rfl, rfl, Nat.le_refl _, fun _ _ => rfl⟩
        have hax : ∀ b, av.ownBlock = some b → b < wr.heap.size := fun b hb => Own.blk HX.out.o b hb
        have hna := HX.out.n
        refine wp_region_rg2 8 (fun dn w' => wr.heap.size ≤ w'.heap.size ∧ ∃ S' Z', BX w w' l lo rb S Z S' Z' { p with exprs := if dn 4 then es2 else es1 } w2.heap.size 77 (boxE av) ∧ Apart w w' rb S' Z' av ∧ (dn 6 = false → Own w' 137 6 ActV av al)) (postE wr rb w2.heap.size kn av v (fun u w' => PX2 w w' l lo rb S Z { p with exprs := es2 } w2.heap.size av (al ++ [v]) u)) (by kernel_rfl) (by kernel_rfl) (by rfl) ⟨Nat.le_refl _, S1, Z1, hXd.b, hXd.a, fun _ => hXd.o⟩ ?rgO ?rgE
        case rgO =>
          refine ⟨?_, ?_, ?_, ?_, ?_, ?_, ?_, ?_, trivial⟩
          · refine RgOk2.val rfl (fun dn w h => by simpa [dn1] using h) fun a wq dn hI hD hF => ⟨?_, ?_, ?_⟩
            rotate_left 2
            · exact rfl
            · have s7 : a.tmps.getD 7 undef = _ := hF.get 7 rfl; simp [execOp, go_sem, Act.eval, s7]
          · refine RgOk2.val rfl (fun dn w h => by simpa [dn1] using h) fun a wq dn hI hD hF => ⟨?_, ?_, ?_⟩
            rotate_left 2
            · exact rfl
            · have d0 : a.tmps.getD 95 undef = _ := hD.get 0 rfl rfl rfl; simp [execOp, go_sem, Act.eval, d0, (blk_cell (hI.2.choose_spec.choose_spec.1).blk 5), boxE]
          · refine RgOk2.val rfl (fun dn w h => by simpa [dn1] using h) fun a wq dn hI hD hF => ⟨?_, ?_, ?_⟩
            rotate_left 2
            · exact rfl
            · have s0 : a.tmps.getD 0 undef = _ := hF.get 0 rfl; simp [execOp, go_sem, Act.eval, s0]
          · refine RgOk2.val rfl (fun dn w h => by simpa [dn1] using h) fun a wq dn hI hD hF => ⟨?_, ?_, ?_⟩
            rotate_left 2
            · exact rfl
            · have s10 : a.tmps.getD 10 undef = _ := hF.get 10 rfl; simp [execOp, go_sem, Act.eval, s10]
          · refine RgOk2.call rfl 65 fun a wq dn h0 hcl hI hD hF => ⟨#[.pointer (some ⟨rb, 0, none⟩), .int .i64 (kn : Int)], ?_, ?_⟩
            rotate_left 1
            obtain ⟨hsz, S', Z', q1, q2, q3⟩ := hI
            have h5 := hcl.no 5 4 rfl rfl h0
            have h6 := hcl.no 6 5 rfl rfl h5
            simp only [h0, if_false, Bool.false_eq_true] at q1
            have E1 : EX w wq l lo rb S Z S' Z' { p with exprs := es1 } w2.heap.size av al := ⟨q1, q3 h6, q2, hna⟩
            refine (act_any l HWF.out f wq lo rb S' Z' { p with exprs := es1 } q1.x kn hknl (kin_in HWF.out HKI.out) HC.out).mono ?_
            rintro e w5 he
            simp only at he
            rw [HRR2.out] at he
            obtain ⟨rfl, S2, Z2, hX2, hSt2⟩ := he
            have E2 := E1.step hX2 hSt2
            exact .inl ⟨_, rfl, ⟨Nat.le_trans hsz hSt2.grow.size, S2, Z2, by simpa [dn1] using E2.b, E2.a, fun _ => E2.o⟩, rfl, fun i u hi hd hp => postE_pure (fun e => by subst e; rw [h5] at hd; cases hd) (fun e => by subst e; rw [h6] at hd; cases hd) hp⟩
            have d2 : a.tmps.getD 97 undef = _ := hD.get 2 rfl rfl rfl
            have d3 : a.tmps.getD 98 undef = _ := hD.get 3 rfl rfl rfl
            simp only [Array.getD_eq_getD_getElem?] at d2 d3
            simp [execOp, go_sem, Act.eval, d2, d3]
          · refine RgOk2.turn rfl fun a wq dn h0 hcl hI hD hF => ?_
            obtain ⟨hsz, S', Z', q1, q2, q3⟩ := hI
            have h6 := hcl.no 6 5 rfl rfl h0
            have d4 : a.tmps.getD 99 undef = _ := hD.get 4 rfl rfl rfl
            simp only [Array.getD_eq_getD_getElem?] at d4
            have hbq := (Below.refl wq.heap.size wq).alloc (Nat.le_refl _) (.cells v.cells.toArray 137)
            refine ⟨_, wq.alloc (.cells v.cells.toArray 137), ?_, ⟨Nat.le_trans hsz hbq.size, S', Z', by simpa [dn1] using q1.below hbq, ⟨q2.out⟩, fun h => (q3 h6).below hbq⟩, ⟨wq.heap.size, rfl, hsz, new_blk _ _⟩, fun i u hi hd hp => postE_pure hi (fun e => by subst e; rw [h6] at hd; cases hd) hp⟩
            simp [execOp, go_sem, Act.eval, d4, PAct.cells]
          · refine RgOk2.append (R := fun _ => ActV) rfl ty_Act (.tmp 96) (.tmp 100) rfl al v v.cells rfl (by simp [PAct.cells, Value.oneCell']) (by omega) (by omega) fun a wq dn h0 hcl hI hD hF => ?_
            obtain ⟨hsz, S', Z', q1, q2, q3⟩ := hI
            have d1 : a.tmps.getD 96 undef = av := hD.get 1 rfl rfl rfl
            obtain ⟨B, d5, hB1, hB2⟩ := hD.get 5 rfl rfl rfl
            have hn4 : dn 4 = true := hcl.yes 4 rfl
            rw [hn4, if_pos rfl] at q1
            have E1 : EX w wq l lo rb S Z S' Z' { p with exprs := es2 } w2.heap.size av al := ⟨q1, q3 h0, q2, hna⟩
            refine ⟨B, av, d1, d5, hB2, q3 h0, rfl, fun g cap w' hG => ?_⟩
            have E2 := E1.grew hlow hG
            have hl1 : (al ++ [v]).length = al.length + 1 := by simp
            refine ⟨⟨Nat.le_trans hsz hG.grown.size, S', Z', by simpa [dn1, hn4] using E2.1, ⟨q2.out⟩, fun h => by simp [dn1] at h⟩, ⟨g, cap, S', Z', by rw [hl1], E2.1, hG.own, E2.2.1, E2.2.2⟩, fun i u hi hd hp => ?_⟩
            by_cases h5 : i = 5
            subst h5
            obtain ⟨B', e1, e2, e3⟩ := hp
            exact ⟨B', e1, e2, hG.keep e3 (fun e => by have := hax _ e; omega)⟩
            exact postE_pure h5 hi hp
          · refine RgOk2.val rfl (fun dn w h => by simpa [dn1] using h) fun a wq dn hI hD hF => ⟨?_, ?_, ?_⟩
            rotate_left 2
            · exact rfl
            · have s7 : a.tmps.getD 7 undef = _ := hF.get 7 rfl; simp [execOp, go_sem, Act.eval, s7]
        case rgE =>
          intro vs w3 hI hP
          obtain ⟨g, cap, S', Z', e6, b6, o6, a6, n6⟩ := hP 6 _ _ (by omega) rfl rfl
          have e7 : vs 7 = _ := hP 7 _ _ (by omega) rfl rfl
          simp only [rgPut, List.take, List.drop, Nat.zero_add, Nat.reduceAdd, e6, e7]
          clear hI hP e6 e7
          have hl1 : (al ++ [v]).length = al.length + 1 := by simp
          have q5 := blk_cell b6.blk 5; have qf := blk_free b6.blk
          have b9 := b6.set 5 (.slice (some ⟨g, 0, none⟩) (al ++ [v]).length cap) (boxE (.slice (some ⟨g, 0, none⟩) (al ++ [v]).length cap)) (by rfl)
          have HE9 := hid (show EX w (w3.setCell ⟨w2.heap.size, 5, none⟩ (.slice (some ⟨g, 0, none⟩) (al ++ [v]).length cap)) l lo rb S Z S' Z' { p with exprs := es2 } w2.heap.size (.slice (some ⟨g, 0, none⟩) (al ++ [v]).length cap) (al ++ [v]) from ⟨b9, o6.setCell _ _ (by simp [Value.ownBlock]; exact n6), ⟨a6.out⟩, by simp [Value.ownBlock]; exact n6⟩)
          clear b6 o6 a6 n6 b9 HX hXd hax hna hav c5 cf hX
          go_wp2_with fail
          go_roundw
          case rel =>
            refine ⟨k + 1, al ++ [v], .slice (some ⟨g, 0, none⟩) (al ++ [v]).length cap, S', Z', es2, by simp, by omega, by have h9 := HE9; rw [hl1] at h9 ⊢; exact h9, HC2.out, hid (by have := hal.out; simp; omega), hid ?_⟩
            rw [HR3.out]
            rcases seqS (actS l f) (kids.drop (k + 1)) es2 with ⟨ps, e2⟩ | e
            · simp
            · rfl
          case measure => simp only [cnt]; omega
      · rw [hrr] at hR2
        simp only at hR2
        have HR3 := hid hR2; have HRR2 := hid hrr
        clear hR2 hrr hcn hin
        go_upto_region 17 with fail
        refine wp_region_rg2 8 (fun dn w' => EX w w' l lo rb S Z S1 Z1 { p with exprs := es1 } w2.heap.size (.slice AA al.length ac) al) (postN rb w2.heap.size kn (.slice AA al.length ac)) (by kernel_rfl) (by kernel_rfl) (by rfl) (hX.out.below ⟨rfl, rfl, rfl, Nat.le_refl _, fun _ _ => rfl⟩) ?rgO ?rgE
        case rgO =>
          refine ⟨?_, ?_, ?_, ?_, ?_, ?_, ?_, ?_, trivial⟩
          · refine RgOk2.val rfl (fun _ _ h => h) fun a wq dn hI hD hF => ⟨?_, ?_, ?_⟩
            rotate_left 2
            · exact rfl
            · have s7 : a.tmps.getD 7 undef = _ := hF.get 7 rfl; simp [execOp, go_sem, Act.eval, s7]
          · refine RgOk2.val rfl (fun _ _ h => h) fun a wq dn hI hD hF => ⟨?_, ?_, ?_⟩
            rotate_left 2
            · exact rfl
            · have d0 : a.tmps.getD 95 undef = _ := hD.get 0 rfl rfl rfl; simp [execOp, go_sem, Act.eval, d0, blk_cell hI.b.blk 5, boxE]
          · refine RgOk2.val rfl (fun _ _ h => h) fun a wq dn hI hD hF => ⟨?_, ?_, ?_⟩
            rotate_left 2
            · exact rfl
            · have s0 : a.tmps.getD 0 undef = _ := hF.get 0 rfl; simp [execOp, go_sem, Act.eval, s0]
          · refine RgOk2.val rfl (fun _ _ h => h) fun a wq dn hI hD hF => ⟨?_, ?_, ?_⟩
            rotate_left 2
            · exact rfl
            · have s10 : a.tmps.getD 10 undef = _ := hF.get 10 rfl; simp [execOp, go_sem, Act.eval, s10]
          · refine RgOk2.call rfl 65 fun a wq dn h0 hcl hI hD hF => ⟨#[.pointer (some ⟨rb, 0, none⟩), .int .i64 (kn : Int)], ?_, ?_⟩
            rotate_left 1
            refine (act_any l HWF.out f wq lo rb S1 Z1 { p with exprs := es1 } hI.b.x kn hknl (kin_in HWF.out HKI.out) HC.out).mono ?_
            rintro e w5 he
            simp only at he
            rw [HRR2.out] at he
            obtain ⟨rfl, hBp⟩ := he
            exact .inr ⟨_, rfl, hF.1, SP.no (by rw [HA.out, HR3.out]) ((RStep.below H.out hI.b.s).trans hBp)⟩
            have d2 : a.tmps.getD 97 undef = _ := hD.get 2 rfl rfl rfl
            have d3 : a.tmps.getD 98 undef = _ := hD.get 3 rfl rfl rfl
            simp only [Array.getD_eq_getD_getElem?] at d2 d3
            simp [execOp, go_sem, Act.eval, d2, d3]
          · exact RgOk2.absurd fun a w hD => hD.get 4 rfl rfl rfl
          · exact RgOk2.absurd fun a w hD => hD.get 5 rfl rfl rfl
          · refine RgOk2.val rfl (fun _ _ h => h) fun a wq dn hI hD hF => ⟨?_, ?_, ?_⟩
            rotate_left 2
            · exact rfl
            · have s7 : a.tmps.getD 7 undef = _ := hF.get 7 rfl; simp [execOp, go_sem, Act.eval, s7]
        case rgE =>
          intro vs w3 hI hP
          exact (hP 4 _ _ (by omega) rfl rfl).elim
    · have hk' : k = kids.length := by omega
      subst hk'
      obtain ⟨AA, ac, hav, _, _⟩ := Own.slice hX.out.o
      subst hav
      rw [List.drop_length] at hR
      have hR2 := hR.out
      simp only [seqS, List.append_nil] at hR2
      have hA2 := HA.out
      rw [hR2] at hA2
      simp only [addS] at hA2
      have hX0 := hX.out
      have hblk : ∀ b, (Value.slice AA al.length ac).ownBlock = some b → b < wr.heap.size := fun b hb => Own.blk hX0.o b hb
      have hXf := hX0.b.x.freeze hX0.a hblk hlow
      have hSf := hX0.b.s.freeze hX0.a
      have hIf : Acts wr (fun b => Z1 b ∨ (Value.slice AA al.length ac).ownBlock = some b) (.slice AA al.length ac) al := hX0.o.row (fun _ _ h => h.len) (fun g hg => .inr hg)
      have hb9 : BX w wr l lo rb S Z S1 (fun b => Z1 b ∨ (Value.slice AA al.length ac).ownBlock = some b) { p with exprs := es1 } w2.heap.size 77 (boxE (.slice AA al.length ac)) := ⟨hXf, hSf, hX0.b.blk, hX0.b.low, hX0.b.nr, fun e => e.elim hX0.b.nz (fun e => hX0.n e), hX0.b.nw⟩
      have HA2 := hid hA2; have HB9 := hid hb9; have HIF := hid hIf
      clear hR hR2 hA2 hX0 hblk hXf hSf hIf hb9 hcn hal hX
      go_upto_region 34 with fail
      have b9 := HB9.out
      have hsl := b9.x.size.1
      obtain ⟨fv, hb, _⟩ := b9.x.blk
      have hV : StmtV wr (fun b => Z1 b ∨ (Value.slice AA al.length ac).ownBlock = some b) { stmt0 with kind := 3, acts := al } (PStmt.cells { stmt0 with kind := 3, acts := al } (.slice AA al.length ac) (.slice none 0 0) (.slice none 0 0)) := ⟨_, _, _, rfl, HIF.out, Row.nil _ _ _ _, Row.nil _ _ _ _⟩
      refine wp_push2 pt_stmts (by kernel_rfl) 0 234 _ (by kernel_rfl) (by rfl) (by rfl) (by rfl) (by omega) (R := StmtV wr (fun b => Z1 b ∨ (Value.slice AA al.length ac).ownBlock = some b)) rb 0 (S1 2) (.agg #[.int .u8 3, .string ⟨#[]⟩, .int .u8 0, .int .i64 (-1), .int .i64 (-1), .slice AA al.length ac, .slice none 0 0, .slice none 0 0]) (PStmt.cells { stmt0 with kind := 3, acts := al } (.slice AA al.length ac) (.slice none 0 0) (.slice none 0 0)) p.stmts { stmt0 with kind := 3, acts := al } rfl (blk_cell hb 3) (blk_free hb 3) (fun e => (b9.x.low 2 rb e).2.1 rfl) b9.x.stmts ?el ?bs hV rfl (by simp [PStmt.cells, Value.oneCell']) (by omega) (by omega) ?q
      case el =>
        intro a w' o6 ho hFr hgr
        have hbb := (hgr.block w2.heap.size (blk_lt b9.blk) (fun e => b9.nr (.inr ⟨2, e.symm⟩))).trans b9.blk
        have hc := blk_cell hbb
        have ht : a.tmps.getD 7 undef = _ := hFr.get 7 (by rfl)
        simp only [Array.getD_eq_getD_getElem?] at ht
        simp [execOp, ho, go_sem, Act.eval, ht, hc, PStmt.cells, boxE]
      case bs => intro w'; simp [go_sem, PStmt.cells, stmt0]
      case q =>
        intro B g cap w1 hG
        obtain ⟨h2, h3⟩ := b9.x.pushS hG
        have h4 := b9.s.trans h3
        simp only [pushAct2, Nat.add_zero, Nat.zero_add, Nat.reduceAdd]
        generalize w1.setCell ⟨rb, 3, none⟩ (.slice (some ⟨g, 0, none⟩) (p.stmts.length + 1) cap) = wz at h2 h4 ⊢
        obtain ⟨fv2, hb2, _⟩ := h2.blk
        simp only [up] at hb2
        have q := blk_cell hb2 3
        have hl2 : (p.stmts.length : Int) + 1 ≤ 200000 := by omega
        have H2 := hid h2; have H4 := hid h4
        clear h2 h4 h3 hG b9 hV hb hb2
        go_wp2
        go_ret
        exact SP.ok HA2.out H2.out H4.out
end Go.Proofs.Ytgaginegcjpddaa
/- The program's reader of forms: a statement, whatever it is. -/
namespace Go.Proofs.Ytgaginegcjpddaa
open Go.RowKit
theorem stmt_step (l : List Form) (hwf : WF l) (hk9 : ∀ k, (fm l k).kids.length ≤ 90000) (f : Nat) (ih : StmtC l f) : StmtC l (f + 1) := by
  intro n w lo rb S Z p hn hf h hc1 hc2
  have hkin : Kin l (f + 1) (n : Int) := ⟨n, rfl, hn, hf⟩
  have hkr : ∀ k ∈ tailK l (n : Int), Kin l f k := fun k hk => kin_tail hwf hkin k (List.mem_of_mem_drop (show k ∈ (fm l (n : Int)).kids.drop 1 from hk))
  have hC : cntE l (f + 1) (n : Int) = 1 + cntL l f (fm l (n : Int)).kids := rfl
  have hD : cntL l f (tailK l (n : Int)) ≤ cntL l f (fm l (n : Int)).kids := cntL_drop l f (fm l (n : Int)).kids 1
  have hcnt : p.exprs.length + cntL l f (tailK l (n : Int)) ≤ 99999 := by omega
  have hcs : p.stmts.length + cntL l f (tailK l (n : Int)) ≤ 99999 := by omega
  have hcs0 : p.stmts.length ≤ 99999 := by omega
  have hkl : (tailK l (n : Int)).length ≤ 90000 := by
    have := hk9 (n : Int)
    have e : tailK l (n : Int) = (fm l (n : Int)).kids.drop 1 := rfl
    rw [e, List.length_drop]; omega
  by_cases hsp : splitOk l (n : Int) = true
  case neg => exact stmt_nosplit l hwf w lo rb S Z p h n hn (by simpa using hsp) _ (by unfold stmtS; rw [if_neg hsp])
  have hE : ∀ k, stmtK (headW l (n : Int)) (tailK l (n : Int)).length = k → stmtS l (f + 1) (n : Int) (p.exprs, p.stmts) = 
      if k = 1 then setS l f (tailK l (n : Int)) (p.exprs, p.stmts)
      else if k = 2 then foldS l f (n : Int) (tailK l (n : Int)) (p.exprs, p.stmts)
      else if k = 3 then eachS l f (tailK l (n : Int)) (p.exprs, p.stmts)
      else if k = 4 then ifS l f (n : Int) (tailK l (n : Int)) (p.exprs, p.stmts)
      else if k = 5 ∨ k = 6 then bodyS l f (stmtS l f) (nth (tailK l (n : Int)) 0) ((tailK l (n : Int)).drop 1) (fun e ps => { stmt0 with kind := k, e := e, thn := ps }) (p.exprs, p.stmts)
      else if k = 7 then (if nameOk l (nth (tailK l (n : Int)) 0) then bodyS l f (stmtS l f) (nth (tailK l (n : Int)) 1) ((tailK l (n : Int)).drop 2) (fun e ps => { stmt0 with kind := 7, name := (fm l (nth (tailK l (n : Int)) 0)).text, e := e, thn := ps }) (p.exprs, p.stmts) else .inr (wrongS l (nth (tailK l (n : Int)) 0)))
      else .inr (wrongS l (n : Int)) := by
    intro k hk
    rw [stmtS, if_pos hsp]
    simp only [hk]
    rfl
  by_cases g1 : headW l (n : Int) = wSet ∧ (tailK l (n : Int)).length = 2
  · have hK : stmtK (headW l (n : Int)) (tailK l (n : Int)).length = 1 := by unfold stmtK; rw [if_pos g1]
    rw [hE 1 hK]
    exact stmt_set l hwf f w lo rb S Z p h n hn hkr hcnt hcs0 hsp g1.1 g1.2
  by_cases g2 : headW l (n : Int) = wFold ∧ ((tailK l (n : Int)).length = 3 ∨ (tailK l (n : Int)).length = 4)
  · have hK : stmtK (headW l (n : Int)) (tailK l (n : Int)).length = 2 := by unfold stmtK; rw [if_neg g1, if_pos g2]
    rw [hE 2 hK]
    exact stmt_fold l hwf f w lo rb S Z p h n hn hkr hcnt hcs0 hsp g2.1 g2.2
  by_cases g3 : headW l (n : Int) = wEach ∧ 1 ≤ (tailK l (n : Int)).length ∧ (tailK l (n : Int)).length ≤ 6
  · have hK : stmtK (headW l (n : Int)) (tailK l (n : Int)).length = 3 := by unfold stmtK; rw [if_neg g1, if_neg g2, if_pos g3]
    rw [hE 3 hK]
    exact stmt_each l hwf f w lo rb S Z p h n hn hkr hcnt hcs0 hsp g3.1 g3.2
  by_cases g4 : headW l (n : Int) = wIf ∧ (tailK l (n : Int)).length = 3
  · have hK : stmtK (headW l (n : Int)) (tailK l (n : Int)).length = 4 := by unfold stmtK; rw [if_neg g1, if_neg g2, if_neg g3, if_pos g4]
    rw [hE 4 hK]
    exact stmt_if l hwf f w lo rb S Z p h n hn hkr ih hcnt hcs hsp g4.1 g4.2 hk9
  by_cases g5 : headW l (n : Int) = wWhile ∧ 1 ≤ (tailK l (n : Int)).length
  · have hK : stmtK (headW l (n : Int)) (tailK l (n : Int)).length = 5 := by unfold stmtK; rw [if_neg g1, if_neg g2, if_neg g3, if_neg g4, if_pos g5]
    rw [hE 5 hK]
    exact stmt_while l hwf f w lo rb S Z p h n hn hkr ih hcnt hcs hsp g5.1 g5.2 hkl
  by_cases g6 : headW l (n : Int) = wLoop ∧ 1 ≤ (tailK l (n : Int)).length
  · have hK : stmtK (headW l (n : Int)) (tailK l (n : Int)).length = 6 := by unfold stmtK; rw [if_neg g1, if_neg g2, if_neg g3, if_neg g4, if_neg g5, if_pos g6]
    rw [hE 6 hK]
    exact stmt_loop l hwf f w lo rb S Z p h n hn hkr ih hcnt hcs hsp g6.1 g6.2 hkl
  by_cases g7 : headW l (n : Int) = wBfs ∧ 2 ≤ (tailK l (n : Int)).length
  · have hK : stmtK (headW l (n : Int)) (tailK l (n : Int)).length = 7 := by unfold stmtK; rw [if_neg g1, if_neg g2, if_neg g3, if_neg g4, if_neg g5, if_neg g6, if_pos g7]
    rw [hE 7 hK]
    exact stmt_bfs l hwf f w lo rb S Z p h n hn hkr ih hcnt hcs hsp g7.1 g7.2 hkl
  have hK : stmtK (headW l (n : Int)) (tailK l (n : Int)).length = 0 := by unfold stmtK; rw [if_neg g1, if_neg g2, if_neg g3, if_neg g4, if_neg g5, if_neg g6, if_neg g7]
  exact stmt_bad l hwf w lo rb S Z p h n hn hsp hK _ (hE 0 hK)
theorem stmt_any (l : List Form) (hwf : WF l) (hk9 : ∀ k, (fm l k).kids.length ≤ 90000) : ∀ f, StmtC l f
  | 0 => fun n w lo rb S Z p hn hf => by omega
  | f + 1 => stmt_step l hwf hk9 f (stmt_any l hwf hk9 f)
end Go.Proofs.Ytgaginegcjpddaa
/- The program's reader of forms: a place more in main, a declaration more. (printed by gen_pushmd.py) -/
namespace Go.Proofs.Ytgaginegcjpddaa
open Go.RowKit
/-- what a line of the reader's may change -/
structure LStep (w : World) (rb : Nat) (S : Nat → Value) (Z : Nat → Prop) (w' : World) (S' : Nat → Value) (Z' : Nat → Prop) : Prop where
  grow : Grow (RB rb S) w w' (RB rb S')
  z : ∀ b, Z b → Z' b
  znew : ∀ b, Z' b → Z b ∨ w.heap.size ≤ b
theorem RStep.l {w w' : World} {rb : Nat} {S S' : Nat → Value} {Z Z' : Nat → Prop} (h : RStep w rb S Z w' S' Z') : LStep w rb S Z w' S' Z' := ⟨h.grow, h.z, h.znew⟩
theorem LStep.refl (w : World) (rb : Nat) (S : Nat → Value) (Z : Nat → Prop) : LStep w rb S Z w S Z := ⟨Grow.refl _ _, fun _ h => h, fun _ h => .inl h⟩
theorem LStep.trans {w w1 w2 : World} {rb : Nat} {S S1 S2 : Nat → Value} {Z Z1 Z2 : Nat → Prop} (h : LStep w rb S Z w1 S1 Z1) (k : LStep w1 rb S1 Z1 w2 S2 Z2) : LStep w rb S Z w2 S2 Z2 :=
  ⟨h.grow.trans k.grow, fun b hb => k.z b (h.z b hb), fun b hb => by
    rcases k.znew b hb with h1 | h1
    · exact h.znew b h1
    · exact .inr (Nat.le_trans h.grow.size h1)⟩
theorem LStep.below {w w' : World} {l : List Form} {lo rb : Nat} {S S' : Nat → Value} {Z Z' : Nat → Prop} {p : Prg} (h : RX w l lo rb S Z p) (k : LStep w rb S Z w' S' Z') : Below lo w w' :=
  k.grow.below_of h.size.2 (fun b hb => by
    rcases hb with rfl | ⟨i, hb⟩
    · exact h.lor
    · exact (h.low i b hb).1)
/-- a place more in main -/
theorem RX.pushM {w w1 : World} {l : List Form} {lo rb : Nat} {S : Nat → Value} {Z : Nat → Prop} {p : Prg} (h : RX w l lo rb S Z p) {x : Int} {g cap : Nat} (hG : Grew w w1 (S 3) 3 1 IntR p.main (p.main ++ [x]) g cap) :
    RX (w1.setCell ⟨rb, 4, none⟩ (.slice (some ⟨g, 0, none⟩) (p.main.length + 1) cap)) l lo rb (up S 3 (.slice (some ⟨g, 0, none⟩) (p.main.length + 1) cap)) Z { p with main := p.main ++ [x] } ∧
    LStep w rb S Z (w1.setCell ⟨rb, 4, none⟩ (.slice (some ⟨g, 0, none⟩) (p.main.length + 1) cap)) (up S 3 (.slice (some ⟨g, 0, none⟩) (p.main.length + 1) cap)) Z := by
  obtain ⟨fv, hb, hf⟩ := h.blk
  have hrb := blk_lt hb
  have hgne : g ≠ rb := hG.ne hb (fun e => (h.low 3 _ e).2.1 rfl)
  have hglo : lo ≤ g ∧ ¬ Z g := by
    rcases hG.lies with h1 | h1
    · exact ⟨(h.low 3 g h1).1, (h.low 3 g h1).2.2⟩
    · exact ⟨Nat.le_trans h.size.2 h1, fun hz => by have := (h.zlow g hz).2.1; omega⟩
  have hk : ∀ b, b < w.heap.size → b ≠ rb → (S 3).ownBlock ≠ some b → (w1.setCell ⟨rb, 4, none⟩ (.slice (some ⟨g, 0, none⟩) (p.main.length + 1) cap)).heap[b]? = w.heap[b]? := fun b hlt h1 h2 =>
    (Below.heap_setCell _ _ _ _ h1).trans (hG.grown.block b hlt (fun e => h2 e.symm))
  have hZ : ∀ b, Z b → b < w.heap.size → Z b ∧ (w1.setCell ⟨rb, 4, none⟩ (.slice (some ⟨g, 0, none⟩) (p.main.length + 1) cap)).heap[b]? = w.heap[b]? := fun b h1 h2 =>
    ⟨h1, hk b h2 (h.zlow b h1).2.2 (fun e => (h.low 3 b e).2.2 h1)⟩
  have hOwn := hG.own
  rw [show (p.main ++ [x]).length = p.main.length + 1 by simp] at hOwn
  refine ⟨⟨⟨fv, ?_, ?_⟩, h.texts, ?_, ?_, ?_, ?_, ?_, ?_, ?_, h.lor, ?_⟩, ⟨⟨hG.grown.os, hG.grown.tape, hG.grown.output, by simpa using hG.grown.size, ?_, ?_⟩, fun _ h => h, fun _ h => .inl h⟩⟩
  · have := hG.keep hb (fun e => (h.low 3 _ e).2.1 rfl)
    rw [blk_set this]; rfl
  · exact Row.imp hf (fun a cs _ hr => by
      obtain ⟨kv, rfl, hk2⟩ := hr
      exact ⟨kv, rfl, hk2.imp fun b hD hlt => ⟨hD, hk b hlt (by have := h.lor; omega) (fun e => by have := (h.low 3 b e).1; omega)⟩⟩) (fun b hD hlt => ⟨hD, hk b hlt (by have := h.lor; omega) (fun e => by have := (h.low 3 b e).1; omega)⟩) (by omega) (fun _ _ h => h.len)
  · rw [up_other (by omega)]
    exact h.decls.imp (fun _ _ _ h => h) fun b hg hlt => hk b hlt (h.low 0 b hg).2.1 (fun e => by have := h.apart 0 3 b hg e; omega)
  · rw [up_other (by omega)]
    exact h.exprs.imp (fun _ _ _ h => h.imp hZ) fun b hg hlt => hk b hlt (h.low 1 b hg).2.1 (fun e => by have := h.apart 1 3 b hg e; omega)
  · rw [up_other (by omega)]
    exact h.stmts.imp (fun _ _ _ h => h.imp hZ) fun b hg hlt => hk b hlt (h.low 2 b hg).2.1 (fun e => by have := h.apart 2 3 b hg e; omega)
  · rw [up_same]
    exact (hOwn.setCell _ _ (by simp [Value.ownBlock]; omega)).imp (fun a cs _ hr => hr) (fun _ _ _ => rfl)
  · refine apart_up h.apart (fun b hb => ?_)
    cases hb
    rcases hG.lies with h1 | h1
    · exact .inl h1
    · exact .inr (fun i e => by have := h.lt i g e; omega)
  · intro i b e
    by_cases hi : i = 3
    · subst hi; rw [up_same] at e; cases e; exact ⟨hglo.1, hgne, hglo.2⟩
    · rw [up_other hi] at e; exact h.low i b e
  · intro b e
    have := h.zlow b e
    have := hG.grown.size
    exact ⟨by omega, by simp; omega, by omega⟩
  · intro i hi; rw [up_other (by omega)]; exact h.out i hi
  · intro b hlt hn
    exact hk b hlt (fun e => hn (.inl e)) (fun e => hn (.inr ⟨3, e⟩))
  · intro b hb
    rcases hb with rfl | ⟨i, hb⟩
    · exact .inl (.inl rfl)
    · by_cases hi : i = 3
      · subst hi; rw [up_same] at hb; cases hb
        rcases hG.lies with h1 | h1
        · exact .inl (.inr ⟨3, h1⟩)
        · exact .inr h1
      · rw [up_other hi] at hb; exact .inl (.inr ⟨i, hb⟩)
/-- a declaration more -/
theorem RX.pushD {w w1 : World} {l : List Form} {lo rb : Nat} {S : Nat → Value} {Z : Nat → Prop} {p : Prg} (h : RX w l lo rb S Z p) {x : PDecl} {g cap : Nat} (hG : Grew w w1 (S 0) 66 3 DeclV p.decls (p.decls ++ [x]) g cap) :
    RX (w1.setCell ⟨rb, 1, none⟩ (.slice (some ⟨g, 0, none⟩) (p.decls.length + 1) cap)) l lo rb (up S 0 (.slice (some ⟨g, 0, none⟩) (p.decls.length + 1) cap)) Z { p with decls := p.decls ++ [x] } ∧
    LStep w rb S Z (w1.setCell ⟨rb, 1, none⟩ (.slice (some ⟨g, 0, none⟩) (p.decls.length + 1) cap)) (up S 0 (.slice (some ⟨g, 0, none⟩) (p.decls.length + 1) cap)) Z := by
  obtain ⟨fv, hb, hf⟩ := h.blk
  have hrb := blk_lt hb
  have hgne : g ≠ rb := hG.ne hb (fun e => (h.low 0 _ e).2.1 rfl)
  have hglo : lo ≤ g ∧ ¬ Z g := by
    rcases hG.lies with h1 | h1
    · exact ⟨(h.low 0 g h1).1, (h.low 0 g h1).2.2⟩
    · exact ⟨Nat.le_trans h.size.2 h1, fun hz => by have := (h.zlow g hz).2.1; omega⟩
  have hk : ∀ b, b < w.heap.size → b ≠ rb → (S 0).ownBlock ≠ some b → (w1.setCell ⟨rb, 1, none⟩ (.slice (some ⟨g, 0, none⟩) (p.decls.length + 1) cap)).heap[b]? = w.heap[b]? := fun b hlt h1 h2 =>
    (Below.heap_setCell _ _ _ _ h1).trans (hG.grown.block b hlt (fun e => h2 e.symm))
  have hZ : ∀ b, Z b → b < w.heap.size → Z b ∧ (w1.setCell ⟨rb, 1, none⟩ (.slice (some ⟨g, 0, none⟩) (p.decls.length + 1) cap)).heap[b]? = w.heap[b]? := fun b h1 h2 =>
    ⟨h1, hk b h2 (h.zlow b h1).2.2 (fun e => (h.low 0 b e).2.2 h1)⟩
  have hOwn := hG.own
  rw [show (p.decls ++ [x]).length = p.decls.length + 1 by simp] at hOwn
  refine ⟨⟨⟨fv, ?_, ?_⟩, h.texts, ?_, ?_, ?_, ?_, ?_, ?_, ?_, h.lor, ?_⟩, ⟨⟨hG.grown.os, hG.grown.tape, hG.grown.output, by simpa using hG.grown.size, ?_, ?_⟩, fun _ h => h, fun _ h => .inl h⟩⟩
  · have := hG.keep hb (fun e => (h.low 0 _ e).2.1 rfl)
    rw [blk_set this]; rfl
  · exact Row.imp hf (fun a cs _ hr => by
      obtain ⟨kv, rfl, hk2⟩ := hr
      exact ⟨kv, rfl, hk2.imp fun b hD hlt => ⟨hD, hk b hlt (by have := h.lor; omega) (fun e => by have := (h.low 0 b e).1; omega)⟩⟩) (fun b hD hlt => ⟨hD, hk b hlt (by have := h.lor; omega) (fun e => by have := (h.low 0 b e).1; omega)⟩) (by omega) (fun _ _ h => h.len)
  · rw [up_same]
    exact (hOwn.setCell _ _ (by simp [Value.ownBlock]; omega)).imp (fun a cs _ hr => hr) (fun _ _ _ => rfl)
  · rw [up_other (by omega)]
    exact h.exprs.imp (fun _ _ _ h => h.imp hZ) fun b hg hlt => hk b hlt (h.low 1 b hg).2.1 (fun e => by have := h.apart 1 0 b hg e; omega)
  · rw [up_other (by omega)]
    exact h.stmts.imp (fun _ _ _ h => h.imp hZ) fun b hg hlt => hk b hlt (h.low 2 b hg).2.1 (fun e => by have := h.apart 2 0 b hg e; omega)
  · rw [up_other (by omega)]
    exact h.main.imp (fun _ _ _ h => h) fun b hg hlt => hk b hlt (h.low 3 b hg).2.1 (fun e => by have := h.apart 3 0 b hg e; omega)
  · refine apart_up h.apart (fun b hb => ?_)
    cases hb
    rcases hG.lies with h1 | h1
    · exact .inl h1
    · exact .inr (fun i e => by have := h.lt i g e; omega)
  · intro i b e
    by_cases hi : i = 0
    · subst hi; rw [up_same] at e; cases e; exact ⟨hglo.1, hgne, hglo.2⟩
    · rw [up_other hi] at e; exact h.low i b e
  · intro b e
    have := h.zlow b e
    have := hG.grown.size
    exact ⟨by omega, by simp; omega, by omega⟩
  · intro i hi; rw [up_other (by omega)]; exact h.out i hi
  · intro b hlt hn
    exact hk b hlt (fun e => hn (.inl e)) (fun e => hn (.inr ⟨0, e⟩))
  · intro b hb
    rcases hb with rfl | ⟨i, hb⟩
    · exact .inl (.inl rfl)
    · by_cases hi : i = 0
      · subst hi; rw [up_same] at hb; cases hb
        rcases hG.lies with h1 | h1
        · exact .inl (.inr ⟨0, h1⟩)
        · exact .inr h1
      · rw [up_other hi] at hb; exact .inl (.inr ⟨i, hb⟩)
theorem pt_decls : PushTy2 Try.prog 54 1 1 27 0 0 22 66 3 24 := ⟨ty_Decl, by intros; simp [go_sem], by intros; simp [go_sem], by intro a v w h; simp [go_sem, h], by intro a p n c w u h1 h2; simp [go_sem, h1, h2]⟩
end Go.Proofs.Ytgaginegcjpddaa
/- The program's declarations' words: a map that a call makes; what is looked up in it. -/
namespace Go.Proofs.Ytgaginegcjpddaa
open Go.RowKit
def declL : List (ByteArray × Int × Int) := [(wInt, 1, 1), (wBool, 1, 2), (wNint, 2, 1), (wNbool, 2, 2), (wEint, 3, 1), (wEbool, 3, 2)]
def declV (k : Int × Int) : Value := .agg #[.string ⟨#[]⟩, .int .u8 k.1, .int .u8 k.2]
def declE (p : (ByteArray × Int × Int) × Nat) : MapEntry := ⟨.string p.1.1, declV p.1.2, p.2⟩
def DeclMap (w : World) (b : Nat) : Prop := ∃ ents : Array MapEntry, ents.toList = declL.zipIdx.map declE ∧ w.heap[b]? = some (.map ents 6)
/-- the map as far as it is made -/
def DeclAt (w : World) (b j : Nat) : Prop := ∃ ents : Array MapEntry, ents.toList = (declL.take j).zipIdx.map declE ∧ w.heap[b]? = some (.map ents j)
theorem decl_put {w : World} {ops : Array Oper} {rest : List Oper} {o : Oper} {a : Act} {Q : Exit → Act → World → Prop} {b j : Nat} (hd : DeclAt w b j) (hg : o.guard = none) (m x v : Operand) (hop : o.op = .insert 102 m x v) (hm : a.eval m = .map (some b))
    (hx : a.eval x = .string (nth declL j).1) (hv : a.eval v = declV (nth declL j).2) (hj : j < 6)
    (hf : Instr.findNow .string (.string (nth declL j).1) ((declL.take j).zipIdx.map declE) 0 = some none)
    (hK : ∀ w', DeclAt w' b (j + 1) → Below b w w' → wpList Try.prog ops Q rest (a.put o.dst undef) w') : wpList Try.prog ops Q (o :: rest) a w := by
  obtain ⟨ents, h1, h2⟩ := hd
  refine wpList_plain hg fun K' hK' => ?_
  have hgt : (getObj b).run Try.prog w = .ok (.map ents j) w := by simp [getObj, Sem.run, h2]
  have hck0 : ∀ n s, (Instr.checkKey false (n + 1) 9 (.string s)).run Try.prog w = .ok () w := fun n s => by
    simp [Instr.checkKey, Go.run_underlying (show Try.prog.underlying 9 = some .string from Try.underlying9), Result.andThen]
  have hck := hck0 9999 (nth declL j).1
  have hfk : (Instr.findKey 9 (.string (nth declL j).1) ents.toList).run Try.prog w = .ok none w := by
    rw [h1]
    simp [Instr.findKey, Go.run_underlying (show Try.prog.underlying 9 = some .string from Try.underlying9), hf, Result.andThen]
  have hu := Go.run_underlying (show Try.prog.underlying 102 = some (.map 9 66) from Try.underlying102) w
  have hrun : (Instr.mapUpdate 102 (.map (some b)) (.string (nth declL j).1) (declV (nth declL j).2)).run Try.prog w = .ok () (Go.ChangeMaps.setBlock w b (.map (ents.push ⟨.string (nth declL j).1, declV (nth declL j).2, j⟩) (j + 1))) := by
    simp [Instr.mapUpdate, hu, hgt, hck, hfk, Result.andThen]
    simp [setObj, Sem.run, h2, Go.ChangeMaps.setBlock]
  unfold Oper.wp
  simp [execOp, hop, hm, hx, hv, hrun, Result.andThen]
  refine hK' _ _ (hK _ ⟨_, ?_, Go.ChangeMaps.heap_setBlock_same h2 _⟩ ⟨rfl, rfl, rfl, by simp [Go.ChangeMaps.setBlock], fun k hk => Go.ChangeMaps.heap_setBlock_other h2 _ (by omega)⟩)
  have hlen : j < declL.length := hj
  rw [Array.toList_push, h1, take_succ_nth hlen, List.zipIdx_append, List.map_append]
  have hl : (declL.take j).length = j := by rw [List.length_take]; omega
  simp [hl, declE]
theorem declAt_new (w : World) : DeclAt (w.alloc (.map #[] 0)) w.heap.size 0 := ⟨#[], rfl, new_blk _ _⟩
set_option maxHeartbeats 1600000 in
set_option maxRecDepth 100000 in
theorem declares_any (w : World) : Calls Try.prog 38 #[] w fun e w' => ∃ b : Nat, e = .returned (.map (some b)) ∧ w.heap.size ≤ b ∧ DeclMap w' b ∧ Below w.heap.size w w' := by
  have h0 := declAt_new w
  have hB0 := (Below.refl w.heap.size w).alloc (Nat.le_refl _) (.map #[] 0)
  obtain ⟨b, hb⟩ : ∃ b, w.heap.size = b := ⟨_, rfl⟩
  rw [hb] at h0 hB0
  have H0 := hid h0; have HB0 := hid hB0
  clear h0 hB0
  have hmm := @run_makeMap Try.prog
  go_enter Try.func38, Try.ntmps38
  go_wp2_with (first
    | (refine decl_put (b := b) (j := 0) H0.out rfl _ _ _ rfl (by rw [← hb]; rfl) rfl rfl (by omega) (by kernel_rfl) ?_; intro w1 hd1 hb1; have H1 := hid hd1; have HB1 := hid (HB0.out.trans hb1); clear hd1 hb1)
    | (refine decl_put (b := b) (j := 1) H1.out rfl _ _ _ rfl (by rw [← hb]; rfl) rfl rfl (by omega) (by kernel_rfl) ?_; intro w2 hd2 hb2; have H2 := hid hd2; have HB2 := hid (HB1.out.trans hb2); clear hd2 hb2)
    | (refine decl_put (b := b) (j := 2) H2.out rfl _ _ _ rfl (by rw [← hb]; rfl) rfl rfl (by omega) (by kernel_rfl) ?_; intro w3 hd3 hb3; have H3 := hid hd3; have HB3 := hid (HB2.out.trans hb3); clear hd3 hb3)
    | (refine decl_put (b := b) (j := 3) H3.out rfl _ _ _ rfl (by rw [← hb]; rfl) rfl rfl (by omega) (by kernel_rfl) ?_; intro w4 hd4 hb4; have H4 := hid hd4; have HB4 := hid (HB3.out.trans hb4); clear hd4 hb4)
    | (refine decl_put (b := b) (j := 4) H4.out rfl _ _ _ rfl (by rw [← hb]; rfl) rfl rfl (by omega) (by kernel_rfl) ?_; intro w5 hd5 hb5; have H5 := hid hd5; have HB5 := hid (HB4.out.trans hb5); clear hd5 hb5)
    | (refine decl_put (b := b) (j := 5) H5.out rfl _ _ _ rfl (by rw [← hb]; rfl) rfl rfl (by omega) (by kernel_rfl) ?_; intro w6 hd6 hb6; have H6 := hid hd6; have HB6 := hid (HB5.out.trans hb6); clear hd6 hb6))
  go_ret
  exact ⟨b, rfl, by omega, H6.out, by rw [hb]; exact HB6.out⟩
theorem decl_find (s : ByteArray) : ∃ r, Instr.findNow .string (.string s) (declL.zipIdx.map declE) 0 = some r ∧ ((r = none ∧ declK s = (0, 0)) ∨ ∃ j, r = some (j, declV (declK s)) ∧ (declK s).1 ≠ 0) := by
  have key : ∀ t : ByteArray, Instr.sameNow .string (.string s) (.string t) = some (decide (s = t)) := fun t => by
    show some (s == t) = _
    congr 1
    rw [Bool.eq_iff_iff, Go.MapKept.bytes_beq, decide_eq_true_eq]
  simp only [declL, List.zipIdx_cons, List.zipIdx_nil, List.map_cons, List.map_nil, declE, Instr.findNow, key]
  unfold declK
  by_cases h0 : s = wInt
  · refine ⟨some (0, declV (1, 1)), by simp only [decide_eq_true h0], .inr ⟨0, by simp [h0], by simp [h0]⟩⟩
  by_cases h1 : s = wBool
  · refine ⟨some (1, declV (1, 2)), by simp only [decide_eq_false h0, decide_eq_true h1], .inr ⟨1, ?_, ?_⟩⟩ <;> rw [if_neg h0, if_pos h1] <;> simp
  by_cases h2 : s = wNint
  · refine ⟨some (2, declV (2, 1)), by simp only [decide_eq_false h0, decide_eq_false h1, decide_eq_true h2], .inr ⟨2, ?_, ?_⟩⟩ <;> rw [if_neg h0, if_neg h1, if_pos h2] <;> simp
  by_cases h3 : s = wNbool
  · refine ⟨some (3, declV (2, 2)), by simp only [decide_eq_false h0, decide_eq_false h1, decide_eq_false h2, decide_eq_true h3], .inr ⟨3, ?_, ?_⟩⟩ <;> rw [if_neg h0, if_neg h1, if_neg h2, if_pos h3] <;> simp
  by_cases h4 : s = wEint
  · refine ⟨some (4, declV (3, 1)), by simp only [decide_eq_false h0, decide_eq_false h1, decide_eq_false h2, decide_eq_false h3, decide_eq_true h4], .inr ⟨4, ?_, ?_⟩⟩ <;> rw [if_neg h0, if_neg h1, if_neg h2, if_neg h3, if_pos h4] <;> simp
  by_cases h5 : s = wEbool
  · refine ⟨some (5, declV (3, 2)), by simp only [decide_eq_false h0, decide_eq_false h1, decide_eq_false h2, decide_eq_false h3, decide_eq_false h4, decide_eq_true h5], .inr ⟨5, ?_, ?_⟩⟩ <;> rw [if_neg h0, if_neg h1, if_neg h2, if_neg h3, if_neg h4, if_pos h5] <;> simp
  · exact ⟨none, by simp only [decide_eq_false h0, decide_eq_false h1, decide_eq_false h2, decide_eq_false h3, decide_eq_false h4, decide_eq_false h5], .inl ⟨rfl, by rw [if_neg h0, if_neg h1, if_neg h2, if_neg h3, if_neg h4, if_neg h5]⟩⟩
set_option maxRecDepth 100000 in
theorem decl_look (w : World) (b : Nat) (h : DeclMap w b) (s : ByteArray) : (Instr.lookup 102 (.map (some b)) (.string s) true).run Try.prog w = .ok (.tuple #[declV (declK s), .bool (decide ((declK s).1 ≠ 0))]) w := by
  obtain ⟨ents, h1, h2⟩ := h
  obtain ⟨r, h3, h4⟩ := decl_find s
  obtain ⟨dl, hdl⟩ : ∃ dl, declL.zipIdx.map declE = dl := ⟨_, rfl⟩
  rw [hdl] at h1 h3
  obtain ⟨kk, hkk⟩ : ∃ kk, declK s = kk := ⟨_, rfl⟩
  rw [hkk] at h4 ⊢
  obtain ⟨dk, hdk⟩ : ∃ dk, declV kk = dk := ⟨_, rfl⟩
  have hg : (getObj b).run Try.prog w = .ok (.map ents 6) w := by simp [getObj, Sem.run, h2]
  have hz : (zeroValue 66).run Try.prog w = .ok (declV (0, 0)) w := by kernel_rfl
  have hck0 : ∀ n, (Instr.checkKey ents.isEmpty (n + 1) 9 (.string s)).run Try.prog w = .ok () w := fun n => by
    simp [Instr.checkKey, Go.run_underlying (show Try.prog.underlying 9 = some .string from Try.underlying9), Result.andThen]
  have hck : (Instr.checkKey ents.isEmpty 10000 9 (.string s)).run Try.prog w = .ok () w := hck0 9999
  have hf : (Instr.findKey 9 (.string s) ents.toList).run Try.prog w = .ok r w := by
    rw [h1]
    simp [Instr.findKey, Go.run_underlying (show Try.prog.underlying 9 = some .string from Try.underlying9), h3, Result.andThen]
  have hu := Go.run_underlying (show Try.prog.underlying 102 = some (.map 9 66) from Try.underlying102) w
  rcases h4 with ⟨rfl, h5⟩ | ⟨j, rfl, h5⟩
  · rw [h5]; simp [Instr.lookup, hu, hg, hck, hf, hz, Result.andThen]
  · simp [Instr.lookup, hu, hg, hck, hf, Result.andThen, h5]
end Go.Proofs.Ytgaginegcjpddaa
