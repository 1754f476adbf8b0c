/- The evaluator once more, in a shape that the kernel runs fast; it is the same. No program in sight. -/
import Derived.Test.YtlajcmoiopaemaaAv15
set_option linter.unusedVariables false
set_option linter.unusedSimpArgs false
noncomputable section
namespace Go.Proofs.Ytlajcmoiopaemaa
abbrev OA := Option (AR × AH)
abbrev AopT := Tab → (Operand → AV) → Oper → AH → OA
def one1F (r : Option AV) (H : AH) : OA := @Option.rec AV (fun _ => OA) none (fun u => some (.val u, H)) r
def one2F (r : Option (AV × AH)) : OA := @Option.rec (AV × AH) (fun _ => OA) none (fun p => some (.val p.1, p.2)) r
def oneUF (r : Option AH) : OA := @Option.rec AH (fun _ => OA) none (fun H => some (.skip, H)) r
theorem one1F_eq (r : Option AV) (H : AH) : one1F r H = one1 r H := by cases r <;> rfl
theorem one2F_eq (r : Option (AV × AH)) : one2F r = one2 r := by cases r <;> rfl
theorem oneUF_eq (r : Option AH) : oneUF r = oneU r := by cases r <;> rfl
def mapR {α β : Type} (f : α → β) (l : List α) : List β := @List.rec α (fun _ => List β) [] (fun x _ ih => f x :: ih) l
def appR {α : Type} (l : List α) (k : List α) : List α := @List.rec α (fun _ => List α) k (fun x _ ih => x :: ih) l
theorem mapR_eq {α β : Type} (f : α → β) (l : List α) : mapR f l = l.map f := by induction l with | nil => rfl | cons x l ih => simp only [List.map_cons, ← ih]; rfl
theorem appR_eq {α : Type} (l k : List α) : appR l k = l ++ k := by induction l with | nil => rfl | cons x l ih => simp only [List.cons_append, ← ih]; rfl
def pairF (ρ : Operand → AV) (p : Nat × Operand) : Nat × AV := (p.1, ρ p.2)
def mapP (ρ : Operand → AV) (l : List (Nat × Operand)) : List (Nat × AV) := mapR (pairF ρ) l
theorem mapP_eq (ρ : Operand → AV) (l : List (Nat × Operand)) : mapP ρ l = l.map fun (i, x) => (i, ρ x) := by unfold mapP; rw [mapR_eq]; rfl
def vF {α : Type} (d : α) (f : Value → α) (u : AV) : α := @AV.casesOn (fun _ => α) u d f (fun _ _ _ => d) (fun _ _ => d) (fun _ _ _ _ _ _ => d) (fun _ _ _ _ => d) d (fun _ => d) (fun _ _ _ => d) (fun _ => d) (fun _ _ => d) (fun _ => d) (fun _ => d)
def intVF {α : Type} (d : α) (f : IntKind → Int → α) (x : Value) : α := @Value.casesOn (fun _ => α) x (fun _ => d) f (fun _ _ => d) (fun _ _ _ => d) (fun _ => d) (fun _ => d) (fun _ _ _ => d) (fun _ => d) (fun _ => d) (fun _ _ _ => d) d (fun _ _ => d) d (fun _ => d) (fun _ => d)
def boolVF {α : Type} (d f t : α) (x : Value) : α := @Value.casesOn (fun _ => α) x (fun b => @Bool.rec (fun _ => α) f t b) (fun _ _ => d) (fun _ _ => d) (fun _ _ _ => d) (fun _ => d) (fun _ => d) (fun _ _ _ => d) (fun _ => d) (fun _ => d) (fun _ _ _ => d) d (fun _ _ => d) d (fun _ => d) (fun _ => d)
def pickF (T : Tab) (ρ : Operand → AV) (o : Oper) (H : AH) (a b : Operand) (c : AV) : OA := vF (aop T ρ o H) (boolVF (aop T ρ o H) (some (.val (ρ b), H)) (some (.val (ρ a), H))) c
def nilF (T : Tab) (ρ : Operand → AV) (o : Oper) (H : AH) (u : AV) : OA := @AV.casesOn (fun _ => OA) u (aop T ρ o H) (fun _ => aop T ρ o H) (fun a b c => some (.val (.ptr a b c), H)) (fun a b => some (.val (.cptr a b), H)) (fun _ _ _ _ _ _ => aop T ρ o H) (fun _ _ _ _ => aop T ρ o H) (aop T ρ o H) (fun _ => aop T ρ o H) (fun _ _ _ => aop T ρ o H) (fun _ => aop T ρ o H) (fun _ _ => aop T ρ o H) (fun _ => aop T ρ o H) (fun _ => aop T ρ o H)
def maxK : IntKind → Nat := @IntKind.rec (fun _ => Nat) 0 0 2147483647 9223372036854775807 255 0 0 18446744073709551615
def kOk : IntKind → IntKind → Bool := @IntKind.rec (fun _ => IntKind → Bool) (fun _ => false) (fun _ => false) (@IntKind.rec (fun _ => Bool) false false true false false false false false) (@IntKind.rec (fun _ => Bool) false false false true false false false false) (@IntKind.rec (fun _ => Bool) false false false false true false false false) (fun _ => false) (fun _ => false) (@IntKind.rec (fun _ => Bool) false false false false false false false true)
def mkI (k : IntKind) (r : Nat) : Option Value := @Bool.rec (fun _ => Option Value) none (some (.int k (.ofNat r))) (Nat.ble r (maxK k))
def subI (k : IntKind) (m n : Nat) : Option Value := @Bool.rec (fun _ => Option Value) none (mkI k (Nat.sub m n)) (Nat.ble n m)
def notF (b : Bool) : Bool := @Bool.rec (fun _ => Bool) true false b
def opNN : BinOp → IntKind → Nat → Nat → Option Value := @BinOp.rec (fun _ => IntKind → Nat → Nat → Option Value)
  (fun k m n => mkI k (Nat.add m n)) (fun k m n => subI k m n) (fun k m n => mkI k (Nat.mul m n)) (fun _ _ _ => none) (fun _ _ _ => none) (fun _ _ _ => none) (fun _ _ _ => none) (fun _ _ _ => none) (fun _ _ _ => none) (fun _ _ _ => none) (fun _ _ _ => none)
  (fun _ m n => some (.bool (Nat.beq m n))) (fun _ m n => some (.bool (notF (Nat.beq m n)))) (fun _ m n => some (.bool (Nat.ble (Nat.succ m) n))) (fun _ m n => some (.bool (Nat.ble m n))) (fun _ m n => some (.bool (Nat.ble (Nat.succ n) m))) (fun _ m n => some (.bool (Nat.ble n m)))
def binV (H : AH) (slow : OA) (r : Option Value) : OA := @Option.rec Value (fun _ => OA) slow (fun v => some (.val (.v v), H)) r
def bin4 (b : BinOp) (H : AH) (slow : OA) (k j : IntKind) (m n : Nat) : OA := @Bool.rec (fun _ => OA) slow (binV H slow (opNN b k m n)) (kOk k j)
def bin3 (b : BinOp) (H : AH) (slow : OA) (k : IntKind) (m : Nat) (j : IntKind) (c : Int) : OA := @Int.rec (fun _ => OA) (bin4 b H slow k j m) (fun _ => slow) c
def bin2 (b : BinOp) (H : AH) (slow : OA) (v : AV) (k : IntKind) (m : Nat) : OA := vF slow (intVF slow (bin3 b H slow k m)) v
def bin1 (b : BinOp) (H : AH) (slow : OA) (v : AV) (k : IntKind) (a : Int) : OA := @Int.rec (fun _ => OA) (bin2 b H slow v k) (fun _ => slow) a
def binF (b : BinOp) (y : Operand) (T : Tab) (ρ : Operand → AV) (o : Oper) (H : AH) (u : AV) : OA := vF (aop T ρ o H) (intVF (aop T ρ o H) (bin1 b H (aop T ρ o H) (ρ y))) u
def callOkG (o : Option Func) : Bool := @Option.rec Func (fun _ => Bool) false (fun fn => @Option.rec Code (fun _ => Bool) false (fun _ => true) fn.body) o
def callG (T : Tab) (ρ : Operand → AV) (H : AH) (slow : OA) (args : Array Operand) (first caps : List AV) (g : FuncId) : OA := @Bool.rec (fun _ => OA) slow (some (.call g (appR first (appR (mapR ρ args.toList) caps)), H)) (callOkG (T.fn.get g))
def callFn (T : Tab) (ρ : Operand → AV) (H : AH) (slow : OA) (args : Array Operand) (f : Fn) (first caps : List AV) : OA := @Fn.casesOn (fun _ => OA) f (callG T ρ H slow args first caps) (fun _ => slow) (fun _ _ => slow) (fun _ _ _ _ => slow) (fun _ => slow)
def callV (T : Tab) (ρ : Operand → AV) (H : AH) (slow : OA) (args : Array Operand) (u : AV) : OA := @AV.casesOn (fun _ => OA) u slow (fun _ => slow) (fun _ _ _ => slow) (fun _ _ => slow) (fun _ _ _ _ _ _ => slow) (fun _ _ _ _ => slow) slow (fun _ => slow) (callFn T ρ H slow args) (fun _ => slow) (fun _ _ => slow) (fun _ => slow) (fun _ => slow)
def list1 {α β : Type} (d : β) (f : α → β) (l : List α) : β := @List.rec α (fun _ => β) d (fun x t _ => @List.rec α (fun _ => β) (f x) (fun _ _ _ => d) t) l
def isLenB : Builtin → Bool
  | .len => true
  | _ => false
def lenV (H : AH) (slow : OA) (r : Option AV) : OA := @Option.rec AV (fun _ => OA) slow (fun u => some (.val u, H)) r
def callB (T : Tab) (ρ : Operand → AV) (o : Oper) (H : AH) (c : Call) (b : Builtin) : OA := @Bool.rec (fun _ => OA) (aop T ρ o H) (list1 (aop T ρ o H) (fun t => list1 (aop T ρ o H) (fun x => lenV H (aop T ρ o H) (aLen T t (ρ x) H)) c.args.toList) c.argTypes.toList) (isLenB b)
def callF (T : Tab) (ρ : Operand → AV) (o : Oper) (H : AH) (c : Call) (k : Callee) : OA := @Callee.rec (fun _ => OA) (fun f => callV T ρ H (aop T ρ o H) c.args (ρ f)) (fun _ _ => aop T ρ o H) (fun b => callB T ρ o H c b) k
def f_move : Operand → AopT := fun x T ρ o H => some (.val (ρ x), H)
def f_assign : Operand → AopT := fun x T ρ o H => some (.val (ρ x), H)
def f_pick : Operand → Operand → Operand → AopT := fun c a b T ρ o H => pickF T ρ o H a b (ρ c)
def f_alloc : TypeId → AopT := fun e T ρ o H => one2F (aAlloc T e H)
def f_box : TypeId → Operand → AopT := fun e v T ρ o H => one2F (aBox (ρ v) H)
def f_build : TypeId → Array (Nat × Operand) → AopT := fun t ps T ρ o H => one1F (aBuild T t (mapP ρ ps.toList)) H
def f_buildSlice : TypeId → Nat → Array (Nat × Operand) → AopT := fun t n ps T ρ o H => one2F (aBuildSlice T t n (mapP ρ ps.toList) H)
def f_insert : TypeId → Operand → Operand → Operand → AopT := fun m a b c T ρ o H => oneUF (aMapUpdate T m (ρ a) (ρ b) (ρ c) H)
def f_load : TypeId → Operand → AopT := fun t a T ρ o H => one1F (aLoad T t (ρ a) H) H
def f_store : TypeId → Operand → Operand → AopT := fun t a v T ρ o H => oneUF (aStore T t (ρ a) (ρ v) H)
def f_nilCheck : Operand → AopT := fun x T ρ o H => nilF T ρ o H (ρ x)
def f_binOp : BinOp → TypeId → Operand → Operand → TypeId → AopT := fun b t x y u T ρ o H => binF b y T ρ o H (ρ x)
def f_unOp : UnOp → TypeId → Operand → AopT := fun o1 t x T ρ o H => aPur T ρ o H
def f_makeInterface : TypeId → Operand → AopT := fun t x T ρ o H => one1F (aMakeIface T t (ρ x)) H
def f_makeFunc : Fn → Array Operand → Array Operand → AopT := fun f a b T ρ o H => @Bool.rec (fun _ => Option (AR × AH)) none (some (.val (.fn f (mapR ρ a.toList) (mapR ρ b.toList)), H)) (fnOk f)
def f_makeSlice : TypeId → Operand → Operand → AopT := fun t l c T ρ o H => one2F (aMakeSlice T t (ρ l) (ρ c) H)
def f_fieldAddr : TypeId → Operand → Nat → AopT := fun t x f T ρ o H => one1F (aFieldAddr T t (ρ x) f) H
def f_field : TypeId → Operand → Nat → AopT := fun t x f T ρ o H => one1F (aField T t (ρ x) f) H
def f_indexAddr : TypeId → Operand → Operand → AopT := fun t x i T ρ o H => one1F (aIndexAddr T t (ρ x) (ρ i)) H
def f_lookup : TypeId → Operand → Operand → Bool → AopT := fun t x i k T ρ o H => one1F (aLookup T t (ρ x) (ρ i) k H) H
def f_mapUpdate : TypeId → Operand → Operand → Operand → AopT := fun t m k v T ρ o H => oneUF (aMapUpdate T t (ρ m) (ρ k) (ρ v) H)
def f_mapEntry : TypeId → Operand → Operand → AopT := fun t m k T ρ o H => one2F (aMapEntry T t (ρ m) (ρ k) H)
def f_entryStore : TypeId → Operand → Operand → Operand → AopT := fun t m s v T ρ o H => oneUF (aEntryStore (ρ m) (ρ s) (ρ v) H)
def f_range : TypeId → Operand → AopT := fun t x T ρ o H => one2F (aRange T t (ρ x) H)
def f_next : Operand → Bool → AopT := fun i s T ρ o H => one2F (aNext (ρ i) s H)
def f_entry : Operand → AopT := fun i T ρ o H => one1F (aEntry (ρ i) H) H
def f_extract : Operand → Nat → AopT := fun t i T ρ o H => one1F (aExtract (ρ t) i) H
def f_call : Call → AopT := fun c T ρ o H => callF T ρ o H c c.callee
def aopTab : Op → AopT := @Op.rec (fun _ => AopT) f_move f_assign f_pick f_alloc f_box f_build f_buildSlice f_insert f_load f_store (fun _ T ρ o H => aop T ρ o H) (fun _ T ρ o H => aop T ρ o H) f_nilCheck f_binOp f_unOp (fun _ _ _ T ρ o H => aop T ρ o H) (fun _ _ T ρ o H => aop T ρ o H) f_makeInterface f_makeFunc (fun _ _ T ρ o H => aop T ρ o H) (fun _ _ T ρ o H => aop T ρ o H) f_makeSlice (fun _ _ _ _ _ T ρ o H => aop T ρ o H) f_fieldAddr f_field f_indexAddr (fun _ _ _ T ρ o H => aop T ρ o H) f_lookup f_mapUpdate f_mapEntry f_entryStore f_range f_next f_entry (fun _ _ _ _ T ρ o H => aop T ρ o H) f_extract f_call (fun _ T ρ o H => aop T ρ o H) (fun _ T ρ o H => aop T ρ o H) (fun _ T ρ o H => aop T ρ o H) (fun _ _ T ρ o H => aop T ρ o H) (fun _ _ _ T ρ o H => aop T ρ o H) (fun _ _ T ρ o H => aop T ρ o H)
section
variable {T : Tab} {ρ : Operand → AV} {o : Oper} {H : AH}
theorem vF_eq {α : Type} {d : α} {f : Value → α} {u : AV} {r : α} (h0 : d = r) (h : ∀ x, u = .v x → f x = r) : vF d f u = r := by
  cases u <;> first | exact h0 | exact h _ rfl
theorem intVF_eq {α : Type} {d : α} {f : IntKind → Int → α} {x : Value} {r : α} (h0 : d = r) (h : ∀ k n, x = .int k n → f k n = r) : intVF d f x = r := by
  cases x <;> first | exact h0 | exact h _ _ rfl
theorem boolVF_eq {α : Type} {d a b : α} {x : Value} {r : α} (h0 : d = r) (h : ∀ c, x = .bool c → (@Bool.rec (fun _ => α) a b c) = r) : boolVF d a b x = r := by
  cases x <;> first | exact h0 | exact h _ rfl
theorem wrap_le {k : IntKind} {r : Nat} (hk : kOk k k = true) (h : Nat.ble r (maxK k) = true) : k.wrap (Int.ofNat r) = Int.ofNat r := by
  rw [Nat.ble_eq] at h
  cases k <;> first | (cases hk; done) | skip
  all_goals
    simp only [maxK] at h
    simp [IntKind.wrap, IntKind.bits, IntKind.signed]
    omega
theorem mkI_some {k : IntKind} {r : Nat} {v : Value} (h : mkI k r = some v) : Nat.ble r (maxK k) = true ∧ v = .int k (.ofNat r) := by
  unfold mkI at h
  cases hb : Nat.ble r (maxK k) with
  | false => rw [hb] at h; cases h
  | true => rw [hb] at h; exact ⟨rfl, (Option.some.inj h).symm⟩
theorem kOk_eq {k j : IntKind} (h : kOk k j = true) : k = j := by cases k <;> cases j <;> first | rfl | cases h
theorem fastBin_same {b : BinOp} {k : IntKind} {x y : Int} (hk : kOk k k = true) : fastBin b k x k y = fastBin b .i64 x .i64 y ∨ True := .inr trivial
theorem opNN_ok {b : BinOp} {k j : IntKind} {m n : Nat} {v : Value} (hk : kOk k j = true) (h : opNN b k m n = some v) : fastBin b k (.ofNat m) j (.ofNat n) = some v := by
  obtain rfl := kOk_eq hk
  have arith : ∀ {op : Int → Int → Int} {r : Nat}, op (.ofNat m) (.ofNat n) = .ofNat r → mkI k r = some v → some (Value.int k (k.wrap (op (.ofNat m) (.ofNat n)))) = some v := by
    intro op r e h
    obtain ⟨h1, rfl⟩ := mkI_some h
    rw [e, wrap_le hk h1]
  have cmp : ∀ {p q : Bool}, p = q → some (Value.bool q) = some v → some (Value.bool p) = some v := by rintro p q rfl h; exact h
  have hb : ∀ {p q : Bool}, (p = true ↔ q = true) → p = q := fun h => Bool.eq_iff_iff.2 h
  cases b
  case add =>
    have := arith (op := (· + ·)) (r := m + n) rfl h
    cases k <;> first | (cases hk; done) | exact this
  case sub =>
    change subI k m n = some v at h
    unfold subI at h
    cases hle : Nat.ble n m with
    | false => rw [hle] at h; cases h
    | true =>
      rw [hle] at h
      rw [Nat.ble_eq] at hle
      have := arith (op := (· - ·)) (r := m - n) (by simp only [Int.ofNat_eq_natCast]; omega) h
      cases k <;> first | (cases hk; done) | exact this
  case mul =>
    have := arith (op := (· * ·)) (r := m * n) rfl h
    cases k <;> first | (cases hk; done) | exact this
  case eql =>
    have := cmp (p := (Int.ofNat m == Int.ofNat n)) (q := Nat.beq m n) (hb (by rw [Nat.beq_eq]; simp; omega)) h
    cases k <;> first | (cases hk; done) | exact this
  case neq =>
    have := cmp (p := (Int.ofNat m != Int.ofNat n)) (q := notF (Nat.beq m n)) (by
      cases hq : Nat.beq m n with
      | true => rw [Nat.beq_eq] at hq; subst hq; simp [notF]
      | false =>
        have : m ≠ n := fun e => by rw [← Nat.beq_eq, hq] at e; cases e
        simp [notF]; omega) h
    cases k <;> first | (cases hk; done) | exact this
  case lss =>
    have := cmp (p := decide (Int.ofNat m < Int.ofNat n)) (q := Nat.ble (Nat.succ m) n) (hb (by rw [Nat.ble_eq]; simp; omega)) h
    cases k <;> first | (cases hk; done) | exact this
  case leq =>
    have := cmp (p := decide (Int.ofNat m ≤ Int.ofNat n)) (q := Nat.ble m n) (hb (by rw [Nat.ble_eq]; simp)) h
    cases k <;> first | (cases hk; done) | exact this
  case gtr =>
    have := cmp (p := decide (Int.ofNat m > Int.ofNat n)) (q := Nat.ble (Nat.succ n) m) (hb (by rw [Nat.ble_eq]; simp; omega)) h
    cases k <;> first | (cases hk; done) | exact this
  case geq =>
    have := cmp (p := decide (Int.ofNat m ≥ Int.ofNat n)) (q := Nat.ble n m) (hb (by rw [Nat.ble_eq]; simp)) h
    cases k <;> first | (cases hk; done) | exact this
  all_goals cases h
theorem binF_eq {b : BinOp} {t : TypeId} {x y : Operand} {z : TypeId} (ho : o.op = .binOp b t x y z) : binF b y T ρ o H (ρ x) = aop T ρ o H := by
  refine vF_eq rfl (fun v hv => intVF_eq rfl (fun k a hk => ?_))
  subst hk
  cases a with
  | negSucc _ => rfl
  | ofNat m =>
    refine vF_eq rfl (fun v2 hv2 => intVF_eq rfl (fun j c hj => ?_))
    subst hj
    cases c with
    | negSucc _ => rfl
    | ofNat n =>
      show bin4 b H (aop T ρ o H) k j m n = aop T ρ o H
      unfold bin4
      cases hk : kOk k j with
      | false => rfl
      | true =>
        show binV H (aop T ρ o H) (opNN b k m n) = _
        cases hr : opNN b k m n with
        | none => rfl
        | some v =>
          have := opNN_ok hk hr
          show some (AR.val (.v v), H) = aop T ρ o H
          simp only [aop, ho, hv, hv2, this]
theorem callOkG_eq (g : FuncId) : callOkG (T.fn.get g) = callOk T g := by
  unfold callOk callOkG
  cases T.fn.get g with
  | none => rfl
  | some fn => cases h : fn.body <;> simp [h]
theorem callF_eq {c : Call} (ho : o.op = .call c) : callF T ρ o H c c.callee = aop T ρ o H := by
  cases hc : c.callee with
  | invoke _ _ => rfl
  | builtin b =>
    show callB T ρ o H c b = _
    unfold callB
    cases hb : isLenB b with
    | false => rfl
    | true =>
      cases b <;> first | (cases hb; done) | skip
      show list1 _ _ _ = _
      cases ht : c.argTypes.toList with
      | nil => rfl
      | cons t l =>
        cases l with
        | cons _ _ => rfl
        | nil =>
          show list1 _ _ _ = _
          cases hx : c.args.toList with
          | nil => rfl
          | cons x k =>
            cases k with
            | cons _ _ => rfl
            | nil =>
              show lenV H _ (aLen T t (ρ x) H) = _
              cases hr : aLen T t (ρ x) H with
              | none => rfl
              | some u =>
                show some (AR.val u, H) = _
                simp only [aop, ho, aCall, hc, ht, hx, hr, one1, orElse']
  | value f =>
    show callV T ρ H (aop T ρ o H) c.args (ρ f) = _
    cases hu : ρ f <;> try rfl
    rename_i fn first caps
    show callFn T ρ H (aop T ρ o H) c.args fn first caps = _
    cases fn <;> try rfl
    rename_i g
    show callG T ρ H (aop T ρ o H) c.args first caps g = _
    unfold callG
    rw [callOkG_eq]
    cases hk : callOk T g with
    | false => rfl
    | true =>
      show some (AR.call g (appR first (appR (mapR ρ c.args.toList) caps)), H) = _
      simp only [aop, ho, aCall, hc, hu, AV.norm, hk, orElse', appR_eq, mapR_eq, List.append_assoc]
theorem nilF_eq {x : Operand} (ho : o.op = .nilCheck x) : nilF T ρ o H (ρ x) = aop T ρ o H := by
  cases hu : ρ x <;> try rfl
  · show some _ = _
    simp only [aop, ho, hu, AV.norm]
  · show some _ = _
    simp only [aop, ho, hu, AV.norm]
theorem pickF_eq {c a b : Operand} (ho : o.op = .pick c a b) : pickF T ρ o H a b (ρ c) = aop T ρ o H := by
  refine vF_eq rfl (fun v hv => boolVF_eq rfl (fun d hd => ?_))
  subst hd
  cases d <;> simp only [aop, ho, hv]
theorem aopTab_eq (T : Tab) (ρ : Operand → AV) (o : Oper) (H : AH) : aopTab o.op T ρ o H = aop T ρ o H := by
  cases ho : o.op
  case binOp => exact binF_eq ho
  case call => exact callF_eq ho
  case nilCheck => exact nilF_eq ho
  case pick => exact pickF_eq ho
  case makeFunc f a b =>
    show @Bool.rec (fun _ => OA) none (some (.val (.fn f (mapR ρ a.toList) (mapR ρ b.toList)), H)) (fnOk f) = _
    simp only [aop, ho, mapR_eq]
    cases fnOk f <;> rfl
  all_goals first
    | rfl
    | (simp only [aop, ho]; first | rfl | exact one1F_eq _ _ | exact one2F_eq _ | exact oneUF_eq _)
    | (simp only [aop, ho]; rw [← mapP_eq]; first | exact one1F_eq _ _ | exact one2F_eq _)
end
end Go.Proofs.Ytlajcmoiopaemaa
