/- Abstract values, an abstract heap, and what ties them to the machine's own. No program in sight. -/
import Derived.RecoverIn
import Derived.RangeFuncLeaves
import Derived.DefersIn
import Derived.OrdersIn
import Derived.KernelRfl
import Derived.Laws.World
set_option linter.unusedVariables false
set_option linter.unusedSimpArgs false
namespace Go.Proofs.Ytlajcmoiopaemaa
/-- A value; blocks are told by places of the abstract heap (with how often the row has been moved), or by what they hold, where they are never written again. -/
inductive AV where
  | any
  | v (x : Value)
  | ptr (id gen off : Nat)
  | cptr (cells : List AV) (off : Nat)
  | sl (id gen off len sz room : Nat)
  | csl (cells : List AV) (off len sz : Nat)
  | esl
  | map (id : Nat)
  | fn (f : Fn) (first caps : List AV)
  | yld (id : Nat)
  | iface (t : TypeId) (x : AV)
  | agg (cs : List AV)
  | tuple (vs : List AV)
  deriving Inhabited
inductive ADef where
  | call (f : Fn) (caps args : List AV)
  | mark (id : Nat)
  deriving Inhabited
/-- a tree by a key's binary digits -/
inductive HT (α : Type) where
  | e
  | n (l : HT α) (o : Option α) (r : HT α)
structure ALoop where
  state : LoopState
  pending : Option Code
  tmps : HT AV
  params : Array Tmp
  assign : Code
  body : Code
  defers : Nat
structure AEnt where
  key : Value
  val : AV
  born : Nat
inductive AObj where
  | dead
  | cells (cs : List AV) (gen x : Nat)
  | map (es : List AEnt) (clock : Nat)
  | strIter (s : ByteArray) (pos : Nat)
  | mapIter (m : Option Nat) (since : Nat) (seen : List Nat) (last : Nat)
  | loop (l : ALoop)
  | deferred (ds : List ADef)
  | mapAt (m : Nat) (born last : Nat)
noncomputable def HT.stepGet {α : Type} (gl gr : Nat → Option α) (o : Option α) (k : Nat) : Option α :=
  @Bool.rec (fun _ => Option α) (@Bool.rec (fun _ => Option α) (gl (Nat.div k 2)) (gr (Nat.sub (Nat.div k 2) 1)) (Nat.beq (Nat.mod k 2) 0)) o (Nat.beq k 0)
noncomputable def HT.get {α : Type} : HT α → Nat → Option α := @HT.rec α (fun _ => Nat → Option α) (fun _ => none) (fun _ o _ gl gr => HT.stepGet gl gr o)
theorem HT.get_e {α : Type} (k : Nat) : (HT.e : HT α).get k = none := rfl
theorem HT.get_zero {α : Type} (l : HT α) (o : Option α) (r : HT α) : (HT.n l o r).get 0 = o := rfl
theorem HT.get_odd {α : Type} {l : HT α} {o : Option α} {r : HT α} {k : Nat} (h : k % 2 = 1) : (HT.n l o r).get k = l.get (k / 2) := by
  show HT.stepGet l.get r.get o k = _
  have h0 : Nat.beq k 0 = false := by
    cases hb : Nat.beq k 0 with
    | false => rfl
    | true => rw [Nat.beq_eq] at hb; subst hb; cases h
  have h1 : Nat.beq (Nat.mod k 2) 0 = false := by show Nat.beq (k % 2) 0 = false; rw [h]; rfl
  unfold HT.stepGet
  rw [h0, h1]
  rfl
theorem HT.get_even {α : Type} {l : HT α} {o : Option α} {r : HT α} {k : Nat} (h : k % 2 = 0) (hk : k ≠ 0) : (HT.n l o r).get k = r.get (k / 2 - 1) := by
  show HT.stepGet l.get r.get o k = _
  have h0 : Nat.beq k 0 = false := by
    cases hb : Nat.beq k 0 with
    | false => rfl
    | true => rw [Nat.beq_eq] at hb; exact absurd hb hk
  have h1 : Nat.beq (Nat.mod k 2) 0 = true := by show Nat.beq (k % 2) 0 = true; rw [h]; rfl
  unfold HT.stepGet
  rw [h0, h1]
  rfl
theorem HT.three (k : Nat) : k = 0 ∨ k % 2 = 1 ∨ (k % 2 = 0 ∧ k ≠ 0) := by omega
noncomputable def HT.putE {α : Type} (ih : HT α → Nat → α → HT α) (k : Nat) (x : α) : HT α :=
  @Bool.rec (fun _ => HT α) (@Bool.rec (fun _ => HT α) (.n (ih .e (Nat.div k 2) x) none .e) (.n .e none (ih .e (Nat.sub (Nat.div k 2) 1) x)) (Nat.beq (Nat.mod k 2) 0)) (.n .e (some x) .e) (Nat.beq k 0)
noncomputable def HT.putN {α : Type} (ih : HT α → Nat → α → HT α) (k : Nat) (x : α) (l : HT α) (o : Option α) (r : HT α) : HT α :=
  @Bool.rec (fun _ => HT α) (@Bool.rec (fun _ => HT α) (.n (ih l (Nat.div k 2) x) o r) (.n l o (ih r (Nat.sub (Nat.div k 2) 1) x)) (Nat.beq (Nat.mod k 2) 0)) (.n l (some x) r) (Nat.beq k 0)
noncomputable def HT.putS {α : Type} (ih : HT α → Nat → α → HT α) (t : HT α) (k : Nat) (x : α) : HT α := @HT.rec α (fun _ => HT α) (HT.putE ih k x) (fun l o r _ _ => HT.putN ih k x l o r) t
noncomputable def HT.put {α : Type} (f : Nat) : HT α → Nat → α → HT α := @Nat.rec (fun _ => HT α → Nat → α → HT α) (fun t _ _ => t) (fun _ ih => HT.putS ih) f
theorem HT.beq_zero {k : Nat} (h : k ≠ 0) : Nat.beq k 0 = false := by
  cases hb : Nat.beq k 0 with
  | false => rfl
  | true => rw [Nat.beq_eq] at hb; exact absurd hb h
theorem HT.put_n {α : Type} (f : Nat) (l : HT α) (o : Option α) (r : HT α) (k : Nat) (x : α) : HT.put (f + 1) (.n l o r) k x = HT.putN (HT.put f) k x l o r := rfl
theorem HT.put_e {α : Type} (f : Nat) (k : Nat) (x : α) : HT.put (f + 1) .e k x = HT.putE (HT.put f) k x := rfl
theorem HT.putN_zero {α : Type} (ih : HT α → Nat → α → HT α) (x : α) (l : HT α) (o : Option α) (r : HT α) : HT.putN ih 0 x l o r = .n l (some x) r := rfl
theorem HT.putN_odd {α : Type} (ih : HT α → Nat → α → HT α) (x : α) (l : HT α) (o : Option α) (r : HT α) {k : Nat} (h : k % 2 = 1) : HT.putN ih k x l o r = .n (ih l (k / 2) x) o r := by
  have h0 : Nat.beq k 0 = false := HT.beq_zero (by omega)
  have h1 : Nat.beq (Nat.mod k 2) 0 = false := by show Nat.beq (k % 2) 0 = false; rw [h]; rfl
  unfold HT.putN; rw [h0, h1]; rfl
theorem HT.putN_even {α : Type} (ih : HT α → Nat → α → HT α) (x : α) (l : HT α) (o : Option α) (r : HT α) {k : Nat} (h : k % 2 = 0) (hk : k ≠ 0) : HT.putN ih k x l o r = .n l o (ih r (k / 2 - 1) x) := by
  have h0 : Nat.beq k 0 = false := HT.beq_zero hk
  have h1 : Nat.beq (Nat.mod k 2) 0 = true := by show Nat.beq (k % 2) 0 = true; rw [h]; rfl
  unfold HT.putN; rw [h0, h1]; rfl
theorem HT.putE_eq {α : Type} (ih : HT α → Nat → α → HT α) (k : Nat) (x : α) : HT.putE ih k x = HT.putN ih k x .e none .e := rfl
theorem HT.get_putN {α : Type} {f : Nat} (ih : ∀ (t : HT α) (k : Nat) (x : α) (j : Nat), k < f → (HT.put f t k x).get j = if j = k then some x else t.get j) (l : HT α) (o : Option α) (r : HT α) (k : Nat) (x : α) (j : Nat) (h : k < f + 1) :
    (HT.putN (HT.put f) k x l o r).get j = if j = k then some x else (HT.n l o r).get j := by
  rcases HT.three k with rfl | hk | ⟨hk, hk0⟩
  · rw [HT.putN_zero]
    rcases HT.three j with rfl | hj | ⟨hj, hj0⟩
    · rfl
    · rw [HT.get_odd hj, HT.get_odd hj, if_neg (by omega)]
    · rw [HT.get_even hj hj0, HT.get_even hj hj0, if_neg hj0]
  · rw [HT.putN_odd _ _ _ _ _ hk]
    rcases HT.three j with rfl | hj | ⟨hj, hj0⟩
    · rw [HT.get_zero, HT.get_zero, if_neg (by omega)]
    · rw [HT.get_odd hj, HT.get_odd hj, ih _ _ _ _ (by omega)]
      by_cases e : j = k
      · subst e; simp
      · rw [if_neg e, if_neg (by omega)]
    · rw [HT.get_even hj hj0, HT.get_even hj hj0, if_neg (by omega)]
  · rw [HT.putN_even _ _ _ _ _ hk hk0]
    rcases HT.three j with rfl | hj | ⟨hj, hj0⟩
    · rw [HT.get_zero, HT.get_zero, if_neg (by omega)]
    · rw [HT.get_odd hj, HT.get_odd hj, if_neg (by omega)]
    · rw [HT.get_even hj hj0, HT.get_even hj hj0, ih _ _ _ _ (by omega)]
      by_cases e : j = k
      · subst e; simp
      · rw [if_neg e, if_neg (by omega)]
theorem HT.get_put {α : Type} : ∀ (f : Nat) (t : HT α) (k : Nat) (x : α) (j : Nat), k < f → (HT.put f t k x).get j = if j = k then some x else t.get j := by
  intro f
  induction f with
  | zero => intro t k x j h; omega
  | succ f ih =>
    intro t k x j h
    cases t with
    | e =>
      rw [HT.put_e, HT.putE_eq, HT.get_putN ih _ _ _ _ _ _ h]
      by_cases e : j = k
      · rw [if_pos e, if_pos e]
      · rw [if_neg e, if_neg e]
        rcases HT.three j with rfl | hj | ⟨hj, hj0⟩
        · rfl
        · rw [HT.get_odd hj]; rfl
        · rw [HT.get_even hj hj0]; rfl
    | n l o r => rw [HT.put_n, HT.get_putN ih _ _ _ _ _ _ h]
/-- what is there already, changed -/
noncomputable def HT.updO {α : Type} (x : α) (o : Option α) : Option α := @Option.rec α (fun _ => Option α) none (fun _ => some x) o
noncomputable def HT.stepUpd {α : Type} (x : α) (l : HT α) (o : Option α) (r : HT α) (ul ur : Nat → HT α) (k : Nat) : HT α :=
  @Bool.rec (fun _ => HT α) (@Bool.rec (fun _ => HT α) (.n (ul (Nat.div k 2)) o r) (.n l o (ur (Nat.sub (Nat.div k 2) 1))) (Nat.beq (Nat.mod k 2) 0)) (.n l (HT.updO x o) r) (Nat.beq k 0)
noncomputable def HT.upd {α : Type} (t : HT α) (k : Nat) (x : α) : HT α := @HT.rec α (fun _ => Nat → HT α) (fun _ => .e) (HT.stepUpd x) t k
theorem HT.upd_n {α : Type} (l : HT α) (o : Option α) (r : HT α) (k : Nat) (x : α) : (HT.n l o r).upd k x = HT.stepUpd x l o r (fun k => l.upd k x) (fun k => r.upd k x) k := rfl
theorem HT.get_upd {α : Type} : ∀ (t : HT α) (k : Nat) (x : α) (j : Nat), (t.upd k x).get j = if j = k then HT.updO x (t.get j) else t.get j := by
  intro t
  induction t with
  | e => intro k x j; show none = _; split <;> rfl
  | n l o r il ir =>
    intro k x j
    rw [HT.upd_n]
    rcases HT.three k with rfl | hk | ⟨hk, hk0⟩
    · show (HT.n l (HT.updO x o) r).get j = _
      rcases HT.three j with rfl | hj | ⟨hj, hj0⟩
      · rfl
      · rw [HT.get_odd hj, HT.get_odd hj, if_neg (by omega)]
      · rw [HT.get_even hj hj0, HT.get_even hj hj0, if_neg hj0]
    · have h0 : Nat.beq k 0 = false := HT.beq_zero (by omega)
      have h1 : Nat.beq (Nat.mod k 2) 0 = false := by show Nat.beq (k % 2) 0 = false; rw [hk]; rfl
      have e : HT.stepUpd x l o r (fun k => l.upd k x) (fun k => r.upd k x) k = .n (l.upd (k / 2) x) o r := by unfold HT.stepUpd; rw [h0, h1]; rfl
      rw [e]
      rcases HT.three j with rfl | hj | ⟨hj, hj0⟩
      · rw [HT.get_zero, HT.get_zero, if_neg (by omega)]
      · rw [HT.get_odd hj, HT.get_odd hj, il]
        by_cases e : j = k
        · subst e; simp
        · rw [if_neg e, if_neg (by omega)]
      · rw [HT.get_even hj hj0, HT.get_even hj hj0, if_neg (by omega)]
    · have h0 : Nat.beq k 0 = false := HT.beq_zero hk0
      have h1 : Nat.beq (Nat.mod k 2) 0 = true := by show Nat.beq (k % 2) 0 = true; rw [hk]; rfl
      have e : HT.stepUpd x l o r (fun k => l.upd k x) (fun k => r.upd k x) k = .n l o (r.upd (k / 2 - 1) x) := by unfold HT.stepUpd; rw [h0, h1]; rfl
      rw [e]
      rcases HT.three j with rfl | hj | ⟨hj, hj0⟩
      · rw [HT.get_zero, HT.get_zero, if_neg (by omega)]
      · rw [HT.get_odd hj, HT.get_odd hj, if_neg (by omega)]
      · rw [HT.get_even hj hj0, HT.get_even hj hj0, ir]
        by_cases e : j = k
        · subst e; simp
        · rw [if_neg e, if_neg (by omega)]
/-- n places, all alike -/
noncomputable def HT.fullS {α : Type} (x : α) (ih : Nat → HT α) (n : Nat) : HT α := @Bool.rec (fun _ => HT α) (.n (ih (Nat.div n 2)) (some x) (ih (Nat.div (Nat.sub n 1) 2))) .e (Nat.beq n 0)
noncomputable def HT.fullF {α : Type} (x : α) (f : Nat) : Nat → HT α := @Nat.rec (fun _ => Nat → HT α) (fun _ => .e) (fun _ ih => HT.fullS x ih) f
noncomputable def HT.full {α : Type} (x : α) (n : Nat) : HT α := HT.fullF x n n
theorem HT.get_fullF {α : Type} (x : α) : ∀ (f n j : Nat), n ≤ f → (HT.fullF x f n).get j = if j < n then some x else none := by
  intro f
  induction f with
  | zero => intro n j h; show none = _; rw [if_neg (by omega)]
  | succ f ih =>
    intro n j h
    show (HT.fullS x (HT.fullF x f) n).get j = _
    by_cases hn : n = 0
    · subst hn; rw [if_neg (by omega)]; rfl
    · have e : HT.fullS x (HT.fullF x f) n = .n (HT.fullF x f (n / 2)) (some x) (HT.fullF x f ((n - 1) / 2)) := by unfold HT.fullS; rw [HT.beq_zero hn]; rfl
      rw [e]
      rcases HT.three j with rfl | hj | ⟨hj, hj0⟩
      · rw [HT.get_zero, if_pos (by omega)]
      · rw [HT.get_odd hj, ih _ _ (by omega)]
        by_cases hl : j < n
        · rw [if_pos hl, if_pos (by omega)]
        · rw [if_neg hl, if_neg (by omega)]
      · rw [HT.get_even hj hj0, ih _ _ (by omega)]
        by_cases hl : j < n
        · rw [if_pos hl, if_pos (by omega)]
        · rw [if_neg hl, if_neg (by omega)]
theorem HT.get_full {α : Type} (x : α) (n j : Nat) : (HT.full x n).get j = if j < n then some x else none := HT.get_fullF x n n j (Nat.le_refl _)
/-- rows into places, one behind the other -/
noncomputable def HT.setAll {α : Type} (xs : List α) : Nat → HT α → HT α := @List.rec α (fun _ => Nat → HT α → HT α) (fun _ t => t) (fun x _ ih k t => ih (Nat.succ k) (t.upd k x)) xs
theorem HT.get_setAll {α : Type} : ∀ (xs : List α) (k : Nat) (t : HT α) (j : Nat), (HT.setAll xs k t).get j = if k ≤ j ∧ j < k + xs.length then (match xs[j - k]?, t.get j with | some x, some _ => some x | _, _ => none) else t.get j := by
  intro xs
  induction xs with
  | nil => intro k t j; show t.get j = _; rw [if_neg (by simp only [List.length_nil]; omega)]
  | cons x xs ih =>
    intro k t j
    show (HT.setAll xs (k + 1) (t.upd k x)).get j = _
    rw [ih, HT.get_upd]
    simp only [List.length_cons]
    by_cases e : j = k
    · subst e
      rw [if_neg (by omega), if_pos rfl, if_pos (by omega)]
      simp only [Nat.sub_self, List.getElem?_cons_zero]
      cases t.get j <;> rfl
    · rw [if_neg e]
      by_cases h : k + 1 ≤ j ∧ j < k + 1 + xs.length
      · rw [if_pos h, if_pos (by omega), show j - k = (j - (k + 1)) + 1 by omega, List.getElem?_cons_succ]
      · rw [if_neg h, if_neg (by omega)]
structure AH where
  t : HT AObj
  n : Nat
noncomputable def AH.optD (o : Option AObj) : AObj := @Option.rec AObj (fun _ => AObj) .dead (fun o => o) o
noncomputable def AH.get (H : AH) (id : Nat) : AObj := @Bool.rec (fun _ => AObj) .dead (AH.optD (H.t.get id)) (Nat.ble (Nat.succ id) H.n)
noncomputable def AH.set (H : AH) (id : Nat) (o : AObj) : AH := { H with t := HT.put (id + 1) H.t id o }
noncomputable def AH.push (H : AH) (o : AObj) : AH := { t := HT.put (H.n + 1) H.t H.n o, n := H.n + 1 }
noncomputable def AH.cut (H : AH) (n : Nat) : AH := { H with n := Nat.min n H.n }
def AH.empty : AH := ⟨.e, 0⟩
theorem AH.get_eq (H : AH) (id : Nat) : H.get id = if id < H.n then (H.t.get id).getD .dead else .dead := by
  unfold AH.get
  by_cases h : id < H.n
  · rw [if_pos h]
    have : Nat.ble (Nat.succ id) H.n = true := by rw [Nat.ble_eq]; exact h
    rw [this]
    show AH.optD _ = _
    cases H.t.get id <;> rfl
  · rw [if_neg h]
    have : Nat.ble (Nat.succ id) H.n = false := by rw [Bool.eq_false_iff]; intro e; rw [Nat.ble_eq] at e; exact h e
    rw [this]
theorem AH.get_set (H : AH) (id j : Nat) (o : AObj) : (H.set id o).get j = if j = id then (if id < H.n then o else .dead) else H.get j := by
  rw [AH.get_eq, AH.get_eq]
  simp only [AH.set, HT.get_put _ _ _ _ _ (Nat.lt_succ_self id)]
  by_cases e : j = id
  · subst e; simp
  · simp [e]
theorem AH.get_set_same {H : AH} {id : Nat} (o : AObj) (h : id < H.n) : (H.set id o).get id = o := by simp [AH.get_set, h]
theorem AH.get_set_ne {H : AH} {id j : Nat} (o : AObj) (h : j ≠ id) : (H.set id o).get j = H.get j := by simp [AH.get_set, h]
theorem AH.set_n (H : AH) (id : Nat) (o : AObj) : (H.set id o).n = H.n := rfl
theorem AH.push_n (H : AH) (o : AObj) : (H.push o).n = H.n + 1 := rfl
theorem AH.get_push (H : AH) (j : Nat) (o : AObj) : (H.push o).get j = if j = H.n then o else H.get j := by
  rw [AH.get_eq, AH.get_eq]
  simp only [AH.push, HT.get_put _ _ _ _ _ (Nat.lt_succ_self H.n)]
  by_cases e : j = H.n
  · subst e; simp
  · by_cases h : j < H.n
    · simp [e, h, Nat.lt_succ_of_lt h]
    · have : ¬ j < H.n + 1 := by omega
      simp [e, h, this]
theorem AH.get_out {H : AH} {id : Nat} (h : ¬ id < H.n) : H.get id = .dead := by rw [AH.get_eq, if_neg h]
theorem AH.lt_of_get {H : AH} {id : Nat} (h : H.get id ≠ .dead) : id < H.n := by
  rcases Nat.lt_or_ge id H.n with h1 | h1
  · exact h1
  · exact absurd (AH.get_out (by omega)) h
theorem AH.get_cut (H : AH) (n j : Nat) : (H.cut n).get j = if j < n then H.get j else .dead := by
  rw [AH.get_eq, AH.get_eq]
  have : (H.cut n).n = min n H.n := rfl
  rw [this]
  simp only [AH.cut]
  by_cases h : j < n
  · by_cases h2 : j < H.n
    · rw [if_pos h, if_pos h2, if_pos (by omega)]
    · rw [if_pos h, if_neg h2, if_neg (by omega)]
  · rw [if_neg h, if_neg (by omega)]
/-! no address in it that the abstract heap knows: the value as it is -/
mutual
def AV.toV : AV → Option Value
  | .v x => some x
  | .agg cs => match AV.toVs cs with | some l => some (.agg ⟨l⟩) | none => none
  | .tuple cs => match AV.toVs cs with | some l => some (.tuple ⟨l⟩) | none => none
  | .iface t x => match AV.toV x with | some y => some (.iface t y) | none => none
  | .fn f a b => match AV.toVs a, AV.toVs b with | some x, some y => some (.func f ⟨x⟩ ⟨y⟩) | _, _ => none
  | _ => none
def AV.toVs : List AV → Option (List Value)
  | [] => some []
  | u :: us => match AV.toV u, AV.toVs us with | some x, some l => some (x :: l) | _, _ => none
end
def AV.norm : AV → AV
  | .v (.agg cs) => .agg (cs.toList.map .v)
  | .v (.tuple cs) => .tuple (cs.toList.map .v)
  | .v (.iface t x) => .iface t (.v x)
  | .v (.func f a b) => .fn f (a.toList.map .v) (b.toList.map .v)
  | u => u
/-- what stands behind the places: how often a row has been moved, where it lies, what lies for good, how long a block is -/
structure Gh where
  n : Nat
  gen : Nat → Nat
  blk : Nat → Nat
  base : Nat → Nat
  z : Nat → Option (List Value)
  room : Nat → Nat
mutual
def VR (G : Gh) : Value → AV → Prop
  | _, .any => True
  | x, .v y => x = y
  | x, .ptr id g off => id < G.n ∧ g ≤ G.gen id ∧ ∃ a, x = .pointer (some a) ∧ (g = G.gen id → a = ⟨G.blk id, G.base id + off, none⟩)
  | x, .cptr cells off => ∃ b base arr, G.z b = some arr ∧ x = .pointer (some ⟨b, base + off, none⟩) ∧ base + cells.length ≤ arr.length ∧ VRs G ((arr.drop base).take cells.length) cells
  | x, .sl id g off len sz rm => id < G.n ∧ g ≤ G.gen id ∧ ∃ a cap, x = .slice (some a) len cap ∧ (len ≤ rm ∧ rm ≤ cap) ∧ (g = G.gen id → a.block = G.blk id ∧ a.spot = none ∧ (cap ≠ 0 → a.off = G.base id + off ∧ a.off + cap * sz ≤ G.room id))
  | x, .csl cells off len sz => ∃ b base arr o cap, G.z b = some arr ∧ x = .slice (some ⟨b, o, none⟩) len cap ∧ len ≤ cap ∧ (len ≠ 0 → o = base + off) ∧ base + cells.length ≤ arr.length ∧ VRs G ((arr.drop base).take cells.length) cells
  | x, .esl => ∃ a, x = .slice (some a) 0 0
  | x, .map id => id < G.n ∧ 1 ≤ G.gen id ∧ ∃ r, x = .map (some r) ∧ (G.gen id = 1 → r = G.blk id)
  | x, .fn f first caps => ∃ a b, x = .func f ⟨a⟩ ⟨b⟩ ∧ VRs G a first ∧ VRs G b caps
  | x, .yld id => id < G.n ∧ 1 ≤ G.gen id ∧ ∃ r, x = .func (.yield r) #[] #[] ∧ (G.gen id = 1 → r = G.blk id)
  | x, .iface t u => ∃ y, x = .iface t y ∧ VR G y u
  | x, .agg us => ∃ cs, x = .agg ⟨cs⟩ ∧ VRs G cs us
  | x, .tuple us => ∃ cs, x = .tuple ⟨cs⟩ ∧ VRs G cs us
def VRs (G : Gh) : List Value → List AV → Prop
  | xs, [] => xs = []
  | xs, u :: us => ∃ y ys, xs = y :: ys ∧ VR G y u ∧ VRs G ys us
end
theorem VRs.length {G : Gh} : ∀ {us : List AV} {xs : List Value}, VRs G xs us → xs.length = us.length
  | [], _, h => by simp only [VRs] at h; subst h; rfl
  | u :: us, _, h => by
    simp only [VRs] at h
    obtain ⟨y, ys, rfl, _, h2⟩ := h
    simp [VRs.length h2]
structure Gh.le (G G' : Gh) : Prop where
  n : G.n ≤ G'.n
  gen : ∀ id, id < G.n → G.gen id ≤ G'.gen id
  same : ∀ id, id < G.n → G.gen id = G'.gen id → G'.blk id = G.blk id ∧ G'.base id = G.base id ∧ G'.room id = G.room id
  z : ∀ b a, G.z b = some a → G'.z b = some a
theorem Gh.le.refl (G : Gh) : G.le G := ⟨Nat.le_refl _, fun _ _ => Nat.le_refl _, fun _ _ _ => ⟨rfl, rfl, rfl⟩, fun _ _ h => h⟩
theorem Gh.le.trans {A B C : Gh} (h : A.le B) (k : B.le C) : A.le C :=
  ⟨Nat.le_trans h.n k.n, fun id hi => Nat.le_trans (h.gen id hi) (k.gen id (Nat.lt_of_lt_of_le hi h.n)), fun id hi he => by
    have h1 := h.gen id hi
    have h2 := k.gen id (Nat.lt_of_lt_of_le hi h.n)
    obtain ⟨a, b, c⟩ := h.same id hi (by omega)
    obtain ⟨a', b', c'⟩ := k.same id (Nat.lt_of_lt_of_le hi h.n) (by omega)
    rw [a] at a'
    exact ⟨a', b'.trans b, c'.trans c⟩, fun b a hb => k.z b a (h.z b a hb)⟩
mutual
theorem VR.mono {G G' : Gh} (h : G.le G') : ∀ (u : AV) (x : Value), VR G x u → VR G' x u
  | .any, x, hx => by simp only [VR]
  | .v y, x, hx => by simp only [VR] at hx ⊢; exact hx
  | .ptr id g off, x, hx => by
    simp only [VR] at hx ⊢
    obtain ⟨h1, h2, a, h3, h4⟩ := hx
    have hg := h.gen id h1
    refine ⟨Nat.lt_of_lt_of_le h1 h.n, Nat.le_trans h2 hg, a, h3, fun e => ?_⟩
    obtain ⟨e1, e2, _⟩ := h.same id h1 (by omega)
    rw [e1, e2]; exact h4 (by omega)
  | .cptr cells off, x, hx => by
    simp only [VR] at hx ⊢
    obtain ⟨b, base, arr, h1, h2, h3, h4⟩ := hx
    exact ⟨b, base, arr, h.z b arr h1, h2, h3, VRs.mono h cells _ h4⟩
  | .sl id g off len sz rm, x, hx => by
    simp only [VR] at hx ⊢
    obtain ⟨h1, h2, a, cap, h3, h4, h5⟩ := hx
    have hg := h.gen id h1
    refine ⟨Nat.lt_of_lt_of_le h1 h.n, Nat.le_trans h2 hg, a, cap, h3, h4, fun e => ?_⟩
    obtain ⟨e1, e2, e3⟩ := h.same id h1 (by omega)
    rw [e1, e2, e3]; exact h5 (by omega)
  | .csl cells off len sz, x, hx => by
    simp only [VR] at hx ⊢
    obtain ⟨b, base, arr, o, cap, h1, h2, h3, h4, h5, h6⟩ := hx
    exact ⟨b, base, arr, o, cap, h.z b arr h1, h2, h3, h4, h5, VRs.mono h cells _ h6⟩
  | .esl, x, hx => by simp only [VR] at hx ⊢; exact hx
  | .map id, x, hx => by
    simp only [VR] at hx ⊢
    obtain ⟨h1, h0, r, h2, h3⟩ := hx
    have hg := h.gen id h1
    refine ⟨Nat.lt_of_lt_of_le h1 h.n, Nat.le_trans h0 hg, r, h2, fun e => ?_⟩
    rw [(h.same id h1 (by omega)).1]; exact h3 (by omega)
  | .fn f a b, x, hx => by
    simp only [VR] at hx ⊢
    obtain ⟨p, q, h1, h2, h3⟩ := hx
    exact ⟨p, q, h1, VRs.mono h a _ h2, VRs.mono h b _ h3⟩
  | .yld id, x, hx => by
    simp only [VR] at hx ⊢
    obtain ⟨h1, h0, r, h2, h3⟩ := hx
    have hg := h.gen id h1
    refine ⟨Nat.lt_of_lt_of_le h1 h.n, Nat.le_trans h0 hg, r, h2, fun e => ?_⟩
    rw [(h.same id h1 (by omega)).1]; exact h3 (by omega)
  | .iface t u, x, hx => by
    simp only [VR] at hx ⊢
    obtain ⟨y, h1, h2⟩ := hx
    exact ⟨y, h1, VR.mono h u _ h2⟩
  | .agg us, x, hx => by
    simp only [VR] at hx ⊢
    obtain ⟨y, h1, h2⟩ := hx
    exact ⟨y, h1, VRs.mono h us _ h2⟩
  | .tuple us, x, hx => by
    simp only [VR] at hx ⊢
    obtain ⟨y, h1, h2⟩ := hx
    exact ⟨y, h1, VRs.mono h us _ h2⟩
theorem VRs.mono {G G' : Gh} (h : G.le G') : ∀ (us : List AV) (xs : List Value), VRs G xs us → VRs G' xs us
  | [], xs, hx => by simp only [VRs] at hx ⊢; exact hx
  | u :: us, xs, hx => by
    simp only [VRs] at hx ⊢
    obtain ⟨y, ys, h1, h2, h3⟩ := hx
    exact ⟨y, ys, h1, VR.mono h u _ h2, VRs.mono h us _ h3⟩
end

theorem VRs.get {G : Gh} : ∀ {us : List AV} {xs : List Value} (i : Nat) (u : AV), VRs G xs us → us[i]? = some u → ∃ x, xs[i]? = some x ∧ VR G x u
  | [], _, i, u, _, h => by simp at h
  | a :: us, xs, i, u, h, hu => by
    simp only [VRs] at h
    obtain ⟨y, ys, rfl, h1, h2⟩ := h
    cases i with
    | zero => simp at hu; subst hu; exact ⟨y, rfl, h1⟩
    | succ i => simp at hu; simpa using VRs.get i u h2 hu
theorem VRs.append {G : Gh} : ∀ {us vs : List AV} {xs ys : List Value}, VRs G xs us → VRs G ys vs → VRs G (xs ++ ys) (us ++ vs)
  | [], vs, xs, ys, h, k => by simp only [VRs] at h; subst h; simpa using k
  | u :: us, vs, xs, ys, h, k => by
    simp only [VRs] at h
    obtain ⟨y, zs, rfl, h1, h2⟩ := h
    simp only [List.cons_append, VRs]
    exact ⟨y, zs ++ ys, rfl, h1, VRs.append h2 k⟩
theorem VRs.take {G : Gh} : ∀ {us : List AV} {xs : List Value} (n : Nat), VRs G xs us → VRs G (xs.take n) (us.take n)
  | _, _, 0, _ => by simp [VRs]
  | [], xs, n + 1, h => by simp only [VRs] at h; subst h; simp [VRs]
  | u :: us, xs, n + 1, h => by
    simp only [VRs] at h
    obtain ⟨y, zs, rfl, h1, h2⟩ := h
    simp only [List.take_succ_cons, VRs]
    exact ⟨y, _, rfl, h1, VRs.take n h2⟩
theorem VRs.drop {G : Gh} : ∀ {us : List AV} {xs : List Value} (n : Nat), VRs G xs us → VRs G (xs.drop n) (us.drop n)
  | _, _, 0, h => by simpa using h
  | [], xs, n + 1, h => by simp only [VRs] at h; subst h; simp [VRs]
  | u :: us, xs, n + 1, h => by
    simp only [VRs] at h
    obtain ⟨y, zs, rfl, h1, h2⟩ := h
    simpa using VRs.drop n h2
theorem VRs.set {G : Gh} : ∀ {us : List AV} {xs : List Value} (i : Nat) {x : Value} {u : AV}, VRs G xs us → VR G x u → VRs G (xs.set i x) (us.set i u)
  | [], xs, i, x, u, h, hu => by simp only [VRs] at h; subst h; simp [VRs]
  | a :: us, xs, 0, x, u, h, hu => by
    simp only [VRs] at h
    obtain ⟨y, zs, rfl, h1, h2⟩ := h
    simp only [List.set_cons_zero, VRs]
    exact ⟨x, zs, rfl, hu, h2⟩
  | a :: us, xs, i + 1, x, u, h, hu => by
    simp only [VRs] at h
    obtain ⟨y, zs, rfl, h1, h2⟩ := h
    simp only [List.set_cons_succ, VRs]
    exact ⟨y, _, rfl, h1, VRs.set i h2 hu⟩
theorem VRs.map_v (G : Gh) : ∀ (xs : List Value), VRs G xs (xs.map .v)
  | [] => by simp [VRs]
  | x :: xs => by simp only [List.map_cons, VRs]; exact ⟨x, xs, rfl, (by simp [VR]), VRs.map_v G xs⟩
theorem VRs.replicate {G : Gh} {x : Value} {u : AV} (h : VR G x u) : ∀ (n : Nat), VRs G (List.replicate n x) (List.replicate n u)
  | 0 => by simp [VRs]
  | n + 1 => by simp only [List.replicate_succ, VRs]; exact ⟨x, _, rfl, h, VRs.replicate h n⟩
theorem VR.norm {G : Gh} {x : Value} {u : AV} (h : VR G x u) : VR G x u.norm := by
  cases u with
  | v y =>
    simp only [VR] at h
    subst h
    cases x with
    | agg cs => simp only [AV.norm, VR]; exact ⟨cs.toList, rfl, VRs.map_v G _⟩
    | tuple cs => simp only [AV.norm, VR]; exact ⟨cs.toList, rfl, VRs.map_v G _⟩
    | iface t y => simp only [AV.norm, VR]; exact ⟨y, rfl, rfl⟩
    | func f a b => simp only [AV.norm, VR]; exact ⟨a.toList, b.toList, rfl, VRs.map_v G _, VRs.map_v G _⟩
    | _ => simp [AV.norm, VR]
  | _ => exact h
mutual
theorem VR.toV {G : Gh} : ∀ (u : AV) (x y : Value), VR G x u → u.toV = some y → x = y
  | .v z, x, y, h, k => by simp only [VR, AV.toV, Option.some.injEq] at h k; exact h.trans k
  | .agg us, x, y, h, k => by
    simp only [VR, AV.toV] at h k
    obtain ⟨cs, rfl, h2⟩ := h
    split at k <;> simp only [Option.some.injEq, reduceCtorEq] at k
    subst k; rw [VRs.toV us _ _ h2 (by assumption)]
  | .tuple us, x, y, h, k => by
    simp only [VR, AV.toV] at h k
    obtain ⟨cs, rfl, h2⟩ := h
    split at k <;> simp only [Option.some.injEq, reduceCtorEq] at k
    subst k; rw [VRs.toV us _ _ h2 (by assumption)]
  | .iface t u, x, y, h, k => by
    simp only [VR, AV.toV] at h k
    obtain ⟨cs, rfl, h2⟩ := h
    split at k <;> simp only [Option.some.injEq, reduceCtorEq] at k
    subst k; rw [VR.toV u _ _ h2 (by assumption)]
  | .fn f a b, x, y, h, k => by
    simp only [VR, AV.toV] at h k
    obtain ⟨p, q, rfl, h2, h3⟩ := h
    split at k <;> simp only [Option.some.injEq, reduceCtorEq] at k
    subst k; rw [VRs.toV a _ _ h2 (by assumption), VRs.toV b _ _ h3 (by assumption)]
  | .any, x, y, h, k => by simp [AV.toV] at k
  | .ptr .., x, y, h, k => by simp [AV.toV] at k
  | .cptr .., x, y, h, k => by simp [AV.toV] at k
  | .sl .., x, y, h, k => by simp [AV.toV] at k
  | .csl .., x, y, h, k => by simp [AV.toV] at k
  | .esl, x, y, h, k => by simp [AV.toV] at k
  | .map .., x, y, h, k => by simp [AV.toV] at k
  | .yld .., x, y, h, k => by simp [AV.toV] at k
theorem VRs.toV {G : Gh} : ∀ (us : List AV) (xs ys : List Value), VRs G xs us → AV.toVs us = some ys → xs = ys
  | [], xs, ys, h, k => by simp only [VRs, AV.toVs, Option.some.injEq] at h k; exact h.trans k
  | u :: us, xs, ys, h, k => by
    simp only [VRs, AV.toVs] at h k
    obtain ⟨y, zs, rfl, h1, h2⟩ := h
    split at k <;> simp only [Option.some.injEq, reduceCtorEq] at k
    subst k; rw [VR.toV u _ _ h1 (by assumption), VRs.toV us _ _ h2 (by assumption)]
end
/-! ### temporaries -/
def TR (G : Gh) (x : Option Value) : Option AV → Prop
  | none => x = none
  | some u => ∃ y, x = some y ∧ VR G y u
def TRel (G : Gh) (xs : List Value) (t : HT AV) : Prop := ∀ i : Nat, TR G xs[i]? (t.get i)
noncomputable def HT.or (t : HT AV) (i : Nat) : AV := @Option.rec AV (fun _ => AV) (.v undef) (fun u => u) (t.get i)
theorem TRel.mono {G G' : Gh} (h : G.le G') {xs : List Value} {t : HT AV} (k : TRel G xs t) : TRel G' xs t := by
  intro i
  have := k i
  cases ht : t.get i with
  | none => rw [ht] at this; exact this
  | some u =>
    rw [ht] at this
    obtain ⟨y, h1, h2⟩ := this
    exact ⟨y, h1, VR.mono h _ _ h2⟩
theorem TRel.set {G : Gh} {xs : List Value} {t : HT AV} (k : TRel G xs t) (i : Nat) {x : Value} {u : AV} (h : VR G x u) : TRel G (xs.set i x) (t.upd i u) := by
  intro j
  rw [HT.get_upd, List.getElem?_set]
  by_cases e : j = i
  · subst e
    rw [if_pos rfl, if_pos rfl]
    have := k j
    cases ht : t.get j with
    | none =>
      rw [ht] at this
      have hlt : ¬ j < xs.length := by have := List.getElem?_eq_none_iff.1 this; omega
      rw [if_neg hlt]
      exact rfl
    | some v =>
      rw [ht] at this
      obtain ⟨y, h1, _⟩ := this
      rw [if_pos (List.getElem?_eq_some_iff.1 h1).1]
      exact ⟨x, rfl, h⟩
  · rw [if_neg e, if_neg (fun e2 => e e2.symm)]
    exact k j
theorem TRel.or {G : Gh} {xs : List Value} {t : HT AV} (k : TRel G xs t) (i : Nat) : VR G (xs[i]?.getD undef) (t.or i) := by
  have := k i
  unfold HT.or
  cases ht : t.get i with
  | none => rw [ht] at this; rw [this]; simp [VR]
  | some u =>
    rw [ht] at this
    obtain ⟨y, h1, h2⟩ := this
    rw [h1]; exact h2
theorem TRel.get {G : Gh} {xs : List Value} {t : HT AV} (k : TRel G xs t) {i : Nat} {u : AV} (h : t.get i = some u) : ∃ y, xs[i]? = some y ∧ VR G y u := by
  have := k i
  rw [h] at this
  exact this
theorem TRel.frame {G : Gh} {xs : List Value} {us : List AV} (h : VRs G xs us) {n : Nat} (hn : us.length ≤ n) : TRel G (xs ++ List.replicate (n - xs.length) undef) (HT.setAll us 0 (HT.full (.v undef) n)) := by
  have hl := h.length
  intro i
  rw [HT.get_setAll, HT.get_full]
  by_cases hi : i < us.length
  · rw [if_pos (by omega), if_pos (by omega), Nat.sub_zero, List.getElem?_eq_getElem hi]
    obtain ⟨y, h1, h2⟩ := h.get i _ (List.getElem?_eq_getElem hi)
    refine ⟨y, ?_, h2⟩
    rw [List.getElem?_append_left (by omega)]; exact h1
  · rw [if_neg (by omega), List.getElem?_append_right (by omega), List.getElem?_replicate]
    by_cases hn' : i < n
    · rw [if_pos hn', if_pos (by omega)]; exact ⟨undef, rfl, by simp [VR]⟩
    · rw [if_neg hn', if_neg (by omega)]; rfl
/-! ### the heap -/
def DR (G : Gh) (d : Deferred) : ADef → Prop
  | .call f caps args => ∃ a b, d = ⟨.fn f ⟨a⟩, ⟨b⟩⟩ ∧ VRs G a caps ∧ VRs G b args
  | .mark id => id < G.n ∧ 1 ≤ G.gen id ∧ (G.gen id = 1 → d = ⟨.collected (G.blk id), #[]⟩)
def DRs (G : Gh) : List Deferred → List ADef → Prop
  | ds, [] => ds = []
  | ds, e :: es => ∃ d r, ds = d :: r ∧ DR G d e ∧ DRs G r es
def ERs (G : Gh) : List MapEntry → List AEnt → Prop
  | ms, [] => ms = []
  | ms, e :: es => ∃ v r, ms = ⟨e.key, v, e.born⟩ :: r ∧ VR G v e.val ∧ ERs G r es
/-- what is known of a block beside what it holds: its type, that it is told from its first cell on (2 t + 1), and to the last (2 t + 2) -/
def XR (x : Nat) (t : TypeId) (base size len : Nat) : Prop := (∀ t' : Nat, x = 2 * t' + 1 ∨ x = 2 * t' + 2 → t = t' ∧ base = 0) ∧ (∀ t' : Nat, x = 2 * t' + 2 → size = len)
theorem XR.zero {t : TypeId} {b s l : Nat} : XR 0 t b s l := ⟨fun t' h => by omega, fun t' h => by omega⟩
theorem XR.at0 {x : Nat} {t : TypeId} {b s l l' : Nat} (h : XR x t 0 s l) (e : b = 0) (e2 : l' = l) : XR x t b s l' := by subst e; subst e2; exact h
theorem XR.key1 : ∀ n m : Nat, 2 * n + 1 = 2 * m + 1 ∨ 2 * n + 1 = 2 * m + 2 → n = m := fun n m h => by omega
theorem XR.key2 : ∀ n m : Nat, 2 * n + 2 = 2 * m + 1 ∨ 2 * n + 2 = 2 * m + 2 → n = m := fun n m h => by omega
theorem XR.key3 : ∀ n m : Nat, 2 * n + 1 = 2 * m + 2 → False := fun n m h => by omega
theorem XR.typ {t : TypeId} {s l : Nat} : XR (2 * t + 1) t 0 s l := ⟨fun t' h => ⟨XR.key1 t t' h, rfl⟩, fun t' h => (XR.key3 t t' h).elim⟩
theorem XR.full {t : TypeId} {s l : Nat} (e : s = l) : XR (2 * t + 2) t 0 s l := ⟨fun t' h => ⟨XR.key2 t t' h, rfl⟩, fun _ _ => e⟩
def OR (w : World) (G : Gh) (id : Nat) : AObj → Prop
  | .dead => True
  | .cells cs g x => g = G.gen id ∧ ∃ arr t fr, w.heap[G.blk id]? = some (.cells arr t fr) ∧ (∀ k, k < arr.size → ¬ (fr.1 ≤ k ∧ k < fr.2)) ∧ G.room id = arr.size ∧ G.base id + cs.length ≤ arr.size ∧ VRs G ((arr.toList.drop (G.base id)).take cs.length) cs ∧ XR x t (G.base id) arr.size cs.length
  | .map es clock => G.gen id = 1 ∧ ∃ ents : Array MapEntry, w.heap[G.blk id]? = some (.map ents clock) ∧ ERs G ents.toList es
  | .strIter s pos => G.gen id = 1 ∧ w.heap[G.blk id]? = some (.stringIter s pos) ∧ G.base id = 0
  | .mapIter m since seen last => G.gen id = 1 ∧ G.base id = 0 ∧ ∃ mm, w.heap[G.blk id]? = some (.mapIter mm since ⟨seen⟩ last) ∧ (match m with | none => mm = none | some k => k < G.n ∧ 1 ≤ G.gen k ∧ (G.gen k = 1 → mm = some (G.blk k)))
  | .loop l => G.gen id = 1 ∧ l.defers < G.n ∧ 1 ≤ G.gen l.defers ∧ ∃ ts dd fn, w.heap[G.blk id]? = some (.loop { state := l.state, pending := l.pending, fn := fn, tmps := ⟨ts⟩, params := l.params, assign := l.assign, body := l.body, defers := dd }) ∧ TRel G ts l.tmps ∧ (G.gen l.defers = 1 → dd = G.blk l.defers)
  | .deferred ds => G.gen id = 1 ∧ ∃ cs, w.heap[G.blk id]? = some (.deferred (some cs)) ∧ DRs G cs ds
  | .mapAt m born last => G.gen id = 1 ∧ G.base id = 0 ∧ ∃ (mm since : Nat) (seen : Array Nat), w.heap[G.blk id]? = some (.mapIter (some mm) since (seen.push born) last) ∧ m < G.n ∧ 1 ≤ G.gen m ∧ (G.gen m = 1 → mm = G.blk m)
def AObj.live : AObj → Bool
  | .dead => false
  | _ => true
structure Rel (w : World) (G : Gh) (H : AH) : Prop where
  n : G.n = H.n
  obj : ∀ id, id < H.n → OR w G id (H.get id)
  born : ∀ id, (H.get id).live = true → 1 ≤ G.gen id
  blt' : ∀ id, id < H.n → 1 ≤ G.gen id → G.blk id < w.heap.size
  inj : ∀ i j, (H.get i).live = true → (H.get j).live = true → G.blk i = G.blk j → i = j
  zout : ∀ i, (H.get i).live = true → G.z (G.blk i) = none
  zin : ∀ b a, G.z b = some a → ∃ t fr, w.heap[b]? = some (.cells ⟨a⟩ t fr)
structure Ext (w : World) (G : Gh) (H : AH) (w' : World) (G' : Gh) (H' : AH) : Prop where
  le : G.le G'
  os : w'.os = w.os
  tape : w'.tape = w.tape
  output : w'.output = w.output
  size : w.heap.size ≤ w'.heap.size
  keep : ∀ b, b < w.heap.size → (∀ id, (H.get id).live = true → G.blk id ≠ b) → w'.heap[b]? = w.heap[b]?
  fresh : ∀ id, (H'.get id).live = true → w.heap.size ≤ G'.blk id ∨ ∃ j, (H.get j).live = true ∧ G.blk j = G'.blk id
  n : H.n ≤ H'.n
  zold : ∀ b, b < w.heap.size → G'.z b = G.z b
  dead : ∀ i, i < H.n → (H.get i).live = false → (H'.get i).live = false ∧ G'.gen i = G.gen i
theorem Ext.refl (w : World) (G : Gh) (H : AH) : Ext w G H w G H := ⟨.refl G, rfl, rfl, rfl, Nat.le_refl _, fun _ _ _ => rfl, fun id h => .inr ⟨id, h, rfl⟩, Nat.le_refl _, fun _ _ => rfl, fun _ _ h => ⟨h, rfl⟩⟩
theorem Ext.trans {w w1 w2 : World} {G G1 G2 : Gh} {H H1 H2 : AH} (a : Ext w G H w1 G1 H1) (b : Ext w1 G1 H1 w2 G2 H2) : Ext w G H w2 G2 H2 := by
  refine ⟨a.le.trans b.le, b.os.trans a.os, b.tape.trans a.tape, b.output.trans a.output, Nat.le_trans a.size b.size, fun k hk hn => ?_, fun id hl => ?_, Nat.le_trans a.n b.n, fun k hk => (b.zold k (Nat.lt_of_lt_of_le hk a.size)).trans (a.zold k hk), fun i hi hd => ?_⟩
  · rw [b.keep k (Nat.lt_of_lt_of_le hk a.size) (fun id hl e => ?_), a.keep k hk hn]
    rcases a.fresh id hl with h | ⟨j, hj, he⟩
    · omega
    · exact hn j hj (he.trans e)
  · rcases b.fresh id hl with h | ⟨j, hj, he⟩
    · exact .inl (Nat.le_trans a.size h)
    · rcases a.fresh j hj with h | ⟨i, hi, he2⟩
      · exact .inl (by omega)
      · exact .inr ⟨i, hi, he2.trans he⟩
  · obtain ⟨h1, h2⟩ := a.dead i hi hd
    obtain ⟨h3, h4⟩ := b.dead i (Nat.lt_of_lt_of_le hi a.n) h1
    exact ⟨h3, h4.trans h2⟩
theorem DR.mono {G G' : Gh} (h : G.le G') {d : Deferred} {e : ADef} (k : DR G d e) : DR G' d e := by
  cases e with
  | call f caps args =>
    obtain ⟨a, b, rfl, h1, h2⟩ := k
    exact ⟨a, b, rfl, VRs.mono h _ _ h1, VRs.mono h _ _ h2⟩
  | mark id =>
    obtain ⟨h1, h0, h2⟩ := k
    have hg := h.gen id h1
    refine ⟨Nat.lt_of_lt_of_le h1 h.n, Nat.le_trans h0 hg, fun e => ?_⟩
    rw [(h.same id h1 (by omega)).1]; exact h2 (by omega)
theorem DRs.mono {G G' : Gh} (h : G.le G') : ∀ {es : List ADef} {ds : List Deferred}, DRs G ds es → DRs G' ds es
  | [], _, k => k
  | e :: es, _, ⟨d, r, h1, h2, h3⟩ => ⟨d, r, h1, h2.mono h, DRs.mono h h3⟩
theorem ERs.mono {G G' : Gh} (h : G.le G') : ∀ {es : List AEnt} {ds : List MapEntry}, ERs G ds es → ERs G' ds es
  | [], _, k => k
  | e :: es, _, ⟨d, r, h1, h2, h4⟩ => ⟨d, r, h1, VR.mono h _ _ h2, ERs.mono h h4⟩
theorem OR.mono {w w' : World} {G G' : Gh} {id : Nat} {o : AObj} (h : G.le G') (hid : id < G.n) (hg : G'.gen id = G.gen id) (hw : w'.heap[G.blk id]? = w.heap[G.blk id]?) (k : OR w G id o) : OR w' G' id o := by
  obtain ⟨hb, hba, hro⟩ := h.same id hid hg.symm
  cases o with
  | dead => trivial
  | cells cs g x =>
    obtain ⟨h1, arr, t, fr, h2, hf, h3, h4, h5, h6⟩ := k
    refine ⟨by rw [hg]; exact h1, arr, t, fr, ?_, hf, ?_, ?_, ?_, by rw [hba]; exact h6⟩
    · rw [hb, hw]; exact h2
    · rw [hro]; exact h3
    · rw [hba]; exact h4
    · rw [hba]; exact VRs.mono h _ _ h5
  | map es clock =>
    obtain ⟨h1, ents, h2, h3⟩ := k
    exact ⟨by rw [hg]; exact h1, ents, by rw [hb, hw]; exact h2, h3.mono h⟩
  | strIter s pos =>
    obtain ⟨h1, h2, h3⟩ := k
    exact ⟨by rw [hg]; exact h1, by rw [hb, hw]; exact h2, by rw [hba]; exact h3⟩
  | mapIter m since seen last =>
    obtain ⟨h1, h3, mm, h2, h4⟩ := k
    refine ⟨by rw [hg]; exact h1, by rw [hba]; exact h3, mm, by rw [hb, hw]; exact h2, ?_⟩
    cases m with
    | none => exact h4
    | some j =>
      obtain ⟨h5, h0, h6⟩ := h4
      have hgj := h.gen j h5
      refine ⟨Nat.lt_of_lt_of_le h5 h.n, Nat.le_trans h0 hgj, fun e => ?_⟩
      rw [(h.same j h5 (by omega)).1]; exact h6 (by omega)
  | loop l =>
    obtain ⟨h1, h2, h0, ts, dd, fn, h3, h4, h5⟩ := k
    have hgj := h.gen _ h2
    refine ⟨by rw [hg]; exact h1, Nat.lt_of_lt_of_le h2 h.n, Nat.le_trans h0 hgj, ts, dd, fn, by rw [hb, hw]; exact h3, h4.mono h, fun e => ?_⟩
    rw [(h.same _ h2 (by omega)).1]; exact h5 (by omega)
  | deferred ds =>
    obtain ⟨h1, cs, h2, h3⟩ := k
    exact ⟨by rw [hg]; exact h1, cs, by rw [hb, hw]; exact h2, h3.mono h⟩
  | mapAt m born last =>
    obtain ⟨h1, h3, mm, since, seen, h2, h5, h0, h6⟩ := k
    have hgj := h.gen m h5
    refine ⟨by rw [hg]; exact h1, by rw [hba]; exact h3, mm, since, seen, by rw [hb, hw]; exact h2, Nat.lt_of_lt_of_le h5 h.n, Nat.le_trans h0 hgj, fun e => ?_⟩
    rw [(h.same m h5 (by omega)).1]; exact h6 (by omega)
theorem OR.dead_of {w : World} {G : Gh} {id : Nat} {o : AObj} (h : o.live = false) : OR w G id o := by cases o <;> first | trivial | cases h
/-- a new block -/
def Gh.new (G : Gh) (b k : Nat) : Gh :=
  { n := G.n + 1, gen := fun i => if i = G.n then 1 else G.gen i, blk := fun i => if i = G.n then b else G.blk i, base := fun i => if i = G.n then 0 else G.base i, z := G.z, room := fun i => if i = G.n then k else G.room i }
theorem Rel.blt {w : World} {G : Gh} {H : AH} (hR : Rel w G H) (id : Nat) (hl : (H.get id).live = true) : G.blk id < w.heap.size :=
  hR.blt' id (AH.lt_of_get (by intro e; rw [e] at hl; cases hl)) (hR.born id hl)
theorem Gh.le_new {w : World} {G : Gh} {H : AH} (hR : Rel w G H) (k : Nat) : G.le (G.new w.heap.size k) := by
  refine ⟨Nat.le_succ _, fun id h => ?_, fun id h _ => ?_, fun b a h => h⟩
  · have : id ≠ G.n := by omega
    simp [Gh.new, this]
  · have h1 : id ≠ G.n := by omega
    simp [Gh.new, h1]
theorem Rel.lt {w : World} {G : Gh} {H : AH} (hR : Rel w G H) {b : Nat} {a : List Value} (h : G.z b = some a) : b < w.heap.size := by
  obtain ⟨t, fr, h1⟩ := hR.zin b a h
  exact (Array.getElem?_eq_some_iff.1 h1).1
theorem push_old {h : Array Obj} {o : Obj} {b : Nat} (hb : b < h.size) : (h.push o)[b]? = h[b]? := by
  rw [Array.getElem?_push]; simp [Nat.ne_of_lt hb]
theorem alloc_sz (w : World) (o : Obj) : (w.alloc o).heap.size = w.heap.size + 1 := by show (w.heap.push o).size = _; simp
theorem push_new (h : Array Obj) (o : Obj) : (h.push o)[h.size]? = some o := by simp
theorem Rel.push {w : World} {G : Gh} {H : AH} (hR : Rel w G H) (o : Obj) (k : Nat) (ao : AObj) {w' : World} (hh : w'.heap = w.heap.push o) (hos : w'.os = w.os) (htp : w'.tape = w.tape) (hou : w'.output = w.output) (ho : OR w' (G.new w.heap.size k) H.n ao) :
    Rel w' (G.new w.heap.size k) (H.push ao) ∧ Ext w G H w' (G.new w.heap.size k) (H.push ao) := by
  have hsz : w'.heap.size = w.heap.size + 1 := by rw [hh]; simp
  have hpo : ∀ b, b < w.heap.size → w'.heap[b]? = w.heap[b]? := fun b hb => by rw [hh]; exact push_old hb
  have hn := hR.n
  have hle := Gh.le_new hR k
  have hbn : ∀ i, i ≠ H.n → (G.new w.heap.size k).blk i = G.blk i := fun i hi => by simp [Gh.new, hn, hi]
  have hbs : (G.new w.heap.size k).blk H.n = w.heap.size := by simp [Gh.new, hn]
  have hlt : ∀ i, i ≠ H.n → (H.get i).live = true → i < H.n := fun i _ hl => AH.lt_of_get (by intro e; rw [e] at hl; cases hl)
  refine ⟨⟨by rw [AH.push_n]; simp [Gh.new, hn], fun id hid => ?_, fun id hl => ?_, fun id hid hg => ?_, fun i j hi hj he => ?_, fun i hi => ?_, fun b a h => ?_⟩, ⟨hle, hos, htp, hou, ?_, fun b hb _ => hpo b hb, fun id hl => ?_, by rw [AH.push_n]; exact Nat.le_succ _, fun _ _ => rfl, fun i hi hd => ?_⟩⟩
  · rw [AH.get_push]
    by_cases e : id = H.n
    · subst e; rw [if_pos rfl]; exact ho
    · rw [if_neg e]
      rw [AH.push_n] at hid
      have h1 : id < H.n := by omega
      by_cases hl : (H.get id).live = true
      · exact (hR.obj id h1).mono hle (by omega) (by simp [Gh.new, hn, e]) (hpo _ (hR.blt id hl))
      · exact OR.dead_of (by simpa using hl)
  · rw [AH.get_push] at hl
    by_cases e : id = H.n
    · subst e; simp [Gh.new, hn]
    · rw [if_neg e] at hl
      have := hR.born id hl
      simpa [Gh.new, hn, e] using this
  · rw [AH.push_n] at hid
    by_cases e : id = H.n
    · subst e; rw [hbs, hsz]; omega
    · rw [hbn id e]
      have := hR.blt' id (by omega) (by simpa [Gh.new, hn, e] using hg)
      rw [hsz]; omega
  · rw [AH.get_push] at hi hj
    by_cases e : i = H.n
    · by_cases e2 : j = H.n
      · omega
      · rw [if_neg e2] at hj
        rw [hbn j e2, e, hbs] at he
        have := hR.blt j hj
        omega
    · rw [if_neg e] at hi
      by_cases e2 : j = H.n
      · rw [hbn i e, e2, hbs] at he
        have := hR.blt i hi
        omega
      · rw [if_neg e2] at hj
        rw [hbn i e, hbn j e2] at he
        exact hR.inj i j hi hj he
  · rw [AH.get_push] at hi
    show G.z _ = none
    by_cases e : i = H.n
    · subst e; rw [hbs]
      cases hz : G.z w.heap.size with
      | none => rfl
      | some a => exact absurd (hR.lt hz) (Nat.lt_irrefl _)
    · rw [if_neg e] at hi; rw [hbn i e]; exact hR.zout i hi
  · obtain ⟨t, fr, h1⟩ := hR.zin b a h
    exact ⟨t, fr, by rw [hpo _ (hR.lt h)]; exact h1⟩
  · rw [hsz]; omega
  · rw [AH.get_push] at hl
    by_cases e : id = H.n
    · subst e; rw [hbs]; exact .inl (Nat.le_refl _)
    · rw [if_neg e] at hl; rw [hbn id e]; exact .inr ⟨id, hl, rfl⟩
  · have e : i ≠ H.n := by omega
    rw [AH.get_push, if_neg e]
    exact ⟨hd, by simp [Gh.new, hn, e]⟩
/-- one block, and what is told of it, changes -/
theorem Rel.update {w w' : World} {G G' : Gh} {H : AH} (hR : Rel w G H) (id : Nat) (hl : (H.get id).live = true) (ao : AObj)
    (ho : w'.os = w.os) (ht : w'.tape = w.tape) (hu : w'.output = w.output) (hs : w.heap.size ≤ w'.heap.size) (hk : ∀ b, b < w.heap.size → b ≠ G.blk id → w'.heap[b]? = w.heap[b]?)
    (hn : G'.n = G.n) (hj : ∀ j, j ≠ id → G'.gen j = G.gen j ∧ G'.blk j = G.blk j ∧ G'.base j = G.base j) (hg : G.gen id ≤ G'.gen id)
    (hsame : G.gen id = G'.gen id → G'.blk id = G.blk id ∧ G'.base id = G.base id) (hz : G'.z = G.z) (hroom : ∀ j, j ≠ id ∨ G.gen id = G'.gen id → G'.room j = G.room j)
    (hb : G'.blk id = G.blk id ∨ w.heap.size ≤ G'.blk id) (hlt : G'.blk id < w'.heap.size) (hO : OR w' G' id ao) :
    Rel w' G' (H.set id ao) ∧ Ext w G H w' G' (H.set id ao) := by
  have hid : id < H.n := AH.lt_of_get (by intro e; rw [e] at hl; cases hl)
  have hGn := hR.n
  have hle : G.le G' := by
    refine ⟨by omega, fun j h => ?_, fun j h he => ?_, fun b a h => by rw [hz]; exact h⟩
    · by_cases e : j = id
      · subst e; exact hg
      · rw [(hj j e).1]; exact Nat.le_refl _
    · by_cases e : j = id
      · subst e; exact ⟨(hsame he).1, (hsame he).2, hroom j (.inr he)⟩
      · exact ⟨(hj j e).2.1, (hj j e).2.2, hroom j (.inl e)⟩
  have hltj : ∀ j, (H.get j).live = true → j < H.n := fun j hj => AH.lt_of_get (by intro e; rw [e] at hj; cases hj)
  have hget : ∀ j, j ≠ id → (H.set id ao).get j = H.get j := fun j h => AH.get_set_ne ao h
  refine ⟨⟨by rw [AH.set_n]; omega, fun j hjn => ?_, fun j hjl => ?_, fun j hjn hjg => ?_, fun i j hi hj' he => ?_, fun i hi => ?_, fun b a h => ?_⟩, ⟨hle, ho, ht, hu, hs, fun b hb' hnb => hk b hb' (fun e => hnb id hl e.symm), fun j hjl => ?_, Nat.le_refl _, fun b _ => by rw [hz], fun i hi hd => ?_⟩⟩
  · rw [AH.set_n] at hjn
    by_cases e : j = id
    · subst e; rw [AH.get_set_same ao hid]; exact hO
    · rw [hget j e]
      by_cases hjl : (H.get j).live = true
      · refine (hR.obj j hjn).mono hle (by omega) (hj j e).1 (hk _ (hR.blt j hjl) (fun e2 => e ((hR.inj j id hjl hl e2))))
      · exact OR.dead_of (by simpa using hjl)
  · by_cases e : j = id
    · subst e; exact Nat.le_trans (hR.born j hl) hg
    · rw [hget j e] at hjl; rw [(hj j e).1]; exact hR.born j hjl
  · rw [AH.set_n] at hjn
    by_cases e : j = id
    · subst e; exact hlt
    · rw [(hj j e).2.1]; rw [(hj j e).1] at hjg; exact Nat.lt_of_lt_of_le (hR.blt' j hjn hjg) hs
  · have key : ∀ i, ((H.set id ao).get i).live = true → i ≠ id → (H.get i).live = true ∧ G'.blk i = G.blk i := fun i h e => by rw [hget i e] at h; exact ⟨h, (hj i e).2.1⟩
    by_cases e : i = id
    · by_cases e2 : j = id
      · omega
      · obtain ⟨h1, h2⟩ := key j hj' e2
        rw [e, h2] at he
        have := hR.blt j h1
        rcases hb with h3 | h3
        · rw [h3] at he; exact absurd (hR.inj id j hl h1 he).symm e2
        · omega
    · obtain ⟨h1, h2⟩ := key i hi e
      by_cases e2 : j = id
      · rw [e2, h2] at he
        have := hR.blt i h1
        rcases hb with h3 | h3
        · rw [h3] at he; exact absurd (hR.inj i id h1 hl he) e
        · omega
      · obtain ⟨h3, h4⟩ := key j hj' e2
        rw [h2, h4] at he
        exact hR.inj i j h1 h3 he
  · rw [hz]
    by_cases e : i = id
    · subst e
      rcases hb with h | h
      · rw [h]; exact hR.zout i hl
      · cases hzz : G.z (G'.blk i) with
        | none => rfl
        | some a => exact absurd (hR.lt hzz) (by omega)
    · rw [hget i e] at hi; rw [(hj i e).2.1]; exact hR.zout i hi
  · rw [hz] at h
    obtain ⟨t, fr, h1⟩ := hR.zin b a h
    refine ⟨t, fr, ?_⟩
    rw [hk b (hR.lt h) (fun e => ?_)]
    · exact h1
    · have := hR.zout id hl
      rw [← e, h] at this; cases this
  · by_cases e : j = id
    · subst e
      rcases hb with h | h
      · exact .inr ⟨j, hl, h.symm⟩
      · exact .inl h
    · rw [hget j e] at hjl; exact .inr ⟨j, hjl, (hj j e).2.1.symm⟩
  · have e : i ≠ id := by rintro rfl; rw [hl] at hd; cases hd
    rw [hget i e]
    exact ⟨hd, (hj i e).1⟩
/-! ### what is left alone -/
theorem Rel.heq {w : World} {G : Gh} {A B : AH} (hR : Rel w G A) (h : ∀ j, B.get j = A.get j) (hn : B.n = A.n) : Rel w G B :=
  ⟨hR.n.trans hn.symm, fun id hid => by rw [h]; exact hR.obj id (by omega), fun id hl => hR.born id (by rw [← h]; exact hl), fun id hid hg => hR.blt' id (by omega) hg, fun i j hi hj he => hR.inj i j (by rw [← h]; exact hi) (by rw [← h]; exact hj) he, fun i hi => hR.zout i (by rw [← h]; exact hi), hR.zin⟩
theorem Ext.heq {w w1 : World} {G G1 : Gh} {H A B : AH} (e : Ext w G H w1 G1 A) (h : ∀ j, B.get j = A.get j) (hn : B.n = A.n) : Ext w G H w1 G1 B :=
  ⟨e.le, e.os, e.tape, e.output, e.size, e.keep, fun id hl => e.fresh id (by rw [← h]; exact hl), by rw [hn]; exact e.n, e.zold, fun i hi hd => by rw [h]; exact e.dead i hi hd⟩
/-- told less -/
theorem Rel.less {w : World} {G : Gh} {A B : AH} (hR : Rel w G A) (h : ∀ j, B.get j = .dead ∨ B.get j = A.get j) (hn : B.n = A.n) : Rel w G B := by
  have k : ∀ {j}, (B.get j).live = true → B.get j = A.get j := fun {j} hl => by
    rcases h j with e | e
    · rw [e] at hl; cases hl
    · exact e
  refine ⟨hR.n.trans hn.symm, fun id hid => ?_, fun id hl => hR.born id (by rw [← k hl]; exact hl), fun id hid hg => hR.blt' id (by omega) hg, fun i j hi hj he => hR.inj i j (by rw [← k hi]; exact hi) (by rw [← k hj]; exact hj) he, fun i hi => hR.zout i (by rw [← k hi]; exact hi), hR.zin⟩
  rcases h id with e | e
  · rw [e]; trivial
  · rw [e]; exact hR.obj id (by omega)
theorem Ext.less {w w1 : World} {G G1 : Gh} {H A B : AH} (e : Ext w G H w1 G1 A) (h : ∀ j, B.get j = .dead ∨ B.get j = A.get j) (hn : B.n = A.n) : Ext w G H w1 G1 B := by
  refine ⟨e.le, e.os, e.tape, e.output, e.size, e.keep, fun id hl => ?_, by rw [hn]; exact e.n, e.zold, fun i hi hd => ⟨?_, (e.dead i hi hd).2⟩⟩
  · rcases h id with k | k
    · rw [k] at hl; cases hl
    · exact e.fresh id (by rw [← k]; exact hl)
  · rcases h i with k | k
    · rw [k]; rfl
    · rw [k]; exact (e.dead i hi hd).1
/-- what a piece was not told of is as it was -/
theorem Rel.frame {w w1 : World} {G G1 : Gh} {A B H1 A1 : AH} (S : Nat → Prop) [DecidablePred S] (hA : Rel w G A) (hB : ∀ j, B.get j = if S j then .dead else A.get j) (hBn : B.n = A.n) (hS : ∀ j, S j → j < A.n)
    (e : Ext w G B w1 G1 H1) (r : Rel w1 G1 H1) (hA1 : ∀ j, A1.get j = if S j then A.get j else H1.get j) (hn1 : A1.n = H1.n) : Rel w1 G1 A1 ∧ Ext w G A w1 G1 A1 := by
  have bl : ∀ {j}, (B.get j).live = true → (A.get j).live = true ∧ ¬ S j := fun {j} h => by
    rw [hB] at h
    split at h
    · cases h
    · exact ⟨h, by assumption⟩
  have sg : ∀ {j}, S j → G1.gen j = G.gen j := fun {j} hs => (e.dead j (by rw [hBn]; exact hS j hs) (by rw [hB, if_pos hs]; rfl)).2
  have sb : ∀ {j}, S j → G1.blk j = G.blk j := fun {j} hs => (e.le.same j (by rw [hA.n]; exact hS j hs) (sg hs).symm).1
  have key : ∀ i j, S i → ¬ S j → (A.get i).live = true → (H1.get j).live = true → G1.blk i = G1.blk j → False := by
    intro i j hi hj li lj he
    rw [sb hi] at he
    have hlt := hA.blt i li
    rcases e.fresh j lj with h | ⟨k, k1, k2⟩
    · omega
    · obtain ⟨k3, k4⟩ := bl k1
      have := hA.inj i k li k3 (by omega)
      subst this
      exact k4 hi
  have l1 : ∀ {j}, (A1.get j).live = true → (S j ∧ (A.get j).live = true) ∨ (¬ S j ∧ (H1.get j).live = true) := fun {j} h => by
    rw [hA1] at h
    split at h
    · exact .inl ⟨by assumption, h⟩
    · exact .inr ⟨by assumption, h⟩
  refine ⟨⟨r.n.trans hn1.symm, fun id hid => ?_, fun id hl => ?_, fun id hid hg => r.blt' id (by omega) hg, fun i j hi hj he => ?_, fun i hi => ?_, r.zin⟩, ⟨e.le, e.os, e.tape, e.output, e.size, fun b hb hn => e.keep b hb (fun id hl => hn id (bl hl).1), fun id hl => ?_, by rw [hn1, ← hBn]; exact e.n, e.zold, fun i hi hd => ?_⟩⟩
  · rw [hA1]
    split
    · rename_i hs
      by_cases hl : (A.get id).live = true
      · refine (hA.obj id (hS id hs)).mono e.le (by rw [hA.n]; exact hS id hs) (sg hs) (e.keep _ (hA.blt id hl) (fun k hk he => ?_))
        obtain ⟨k1, k2⟩ := bl hk
        have := hA.inj k id k1 hl he
        subst this
        exact k2 hs
      · exact OR.dead_of (by simpa using hl)
    · exact r.obj id (by omega)
  · rcases l1 hl with ⟨hs, hl⟩ | ⟨_, hl⟩
    · rw [sg hs]; exact hA.born id hl
    · exact r.born id hl
  · rcases l1 hi with ⟨si, li⟩ | ⟨si, li⟩
    · rcases l1 hj with ⟨sj, lj⟩ | ⟨sj, lj⟩
      · rw [sb si, sb sj] at he; exact hA.inj i j li lj he
      · exact (key i j si sj li lj he).elim
    · rcases l1 hj with ⟨sj, lj⟩ | ⟨sj, lj⟩
      · exact (key j i sj si lj li he.symm).elim
      · exact r.inj i j li lj he
  · rcases l1 hi with ⟨si, li⟩ | ⟨si, li⟩
    · rw [sb si, e.zold _ (hA.blt i li)]; exact hA.zout i li
    · exact r.zout i li
  · rcases l1 hl with ⟨si, li⟩ | ⟨si, li⟩
    · exact .inr ⟨id, li, (sb si).symm⟩
    · rcases e.fresh id li with h | ⟨j, h1, h2⟩
      · exact .inl h
      · exact .inr ⟨j, (bl h1).1, h2⟩
  · have := e.dead i (by rw [hBn]; exact hi) (by rw [hB]; split; rfl; exact hd)
    refine ⟨?_, this.2⟩
    rw [hA1]; split
    · exact hd
    · exact this.1
end Go.Proofs.Ytlajcmoiopaemaa
