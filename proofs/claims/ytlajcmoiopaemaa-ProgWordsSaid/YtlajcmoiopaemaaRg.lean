/- A region that draws its order, proved operation by operation: each from what it waits for, in whatever world keeps what all keep. No program in sight. -/
import Derived.StillTail
import Derived.KernelRfl
import Derived.Test.YtlajcmoiopaemaaLib
set_option linter.unusedVariables false
namespace Go.Proofs.Ytlajcmoiopaemaa
section
variable {P : Program} {Q : Exit → Act → World → Prop}
/-- What an operation waits for is there. -/
def RgDep (ops : Array Oper) (post : Nat → Value → World → Prop) (o : Oper) (a : Act) (w : World) : Prop :=
  ∀ e ∈ o.after, Region.binds .any e = true → ∀ o', ops[e.on]? = some o' → ∀ d, o'.dst = some d → post e.on (a.tmps.getD d undef) w
/-- The slots that no head writes are as they were. -/
def RgFrame (heads : List Oper) (a0 a : Act) : Prop := a.defers = a0.defers ∧ a.tmps.size = a0.tmps.size ∧ ∀ d, (∀ o ∈ heads, o.dst ≠ some d) → a.tmps.getD d undef = a0.tmps.getD d undef
def RgOk (P : Program) (Q : Exit → Act → World → Prop) (ops : Array Oper) (heads : List Oper) (a0 : Act) (Inv : World → Prop) (post : Nat → Value → World → Prop) (j : Nat) (o : Oper) : Prop :=
  ∀ a w K, Inv w → RgDep ops post o a w → RgFrame heads a0 a →
    (∀ v w', Inv w' → post j v w' → (∀ i u, i ≠ j → post i u w → post i u w') → K (a.put o.dst v) w') →
    if Region.wanted o (yielded ops a.tmps) then o.wp P a w K Q ∨ (o.asks P a w ∧ LetsOut Q) else K (a.put o.dst undef) w
def RgAll (P : Program) (Q : Exit → Act → World → Prop) (ops : Array Oper) (heads : List Oper) (a0 : Act) (Inv : World → Prop) (post : Nat → Value → World → Prop) : Nat → List Oper → Prop
  | _, [] => True
  | j, o :: r => RgOk P Q ops heads a0 Inv post j o ∧ RgAll P Q ops heads a0 Inv post (j + 1) r
theorem RgAll.at_ {ops : Array Oper} {heads : List Oper} {a0 : Act} {Inv : World → Prop} {post : Nat → Value → World → Prop} : ∀ {l : List Oper} {k : Nat}, RgAll P Q ops heads a0 Inv post k l → ∀ j o, l[j]? = some o → RgOk P Q ops heads a0 Inv post (k + j) o
  | [], _, _, j, o, h => by simp at h
  | x :: r, k, h, 0, o, ho => by simp at ho; subst ho; exact h.1
  | x :: r, k, h, j + 1, o, ho => by
    have := RgAll.at_ h.2 j o (by simpa using ho)
    rwa [Nat.add_assoc, Nat.add_comm 1 j] at this
def rgPut (a : Act) : List Oper → Nat → (Nat → Value) → Act
  | [], _, _ => a
  | o :: l, k, vs => rgPut (a.put o.dst (vs k)) l (k + 1) vs
def rgB (l : List Oper) (n : Nat) : Bool :=
  ((List.range n).all fun j => match l[j]? with | some o => o.after.all fun e => !Region.binds .any e || decide (e.on < j) | none => false) &&
  (decide (n = l.length) || (Region.sinkB .any l.toArray n && Region.chainB .any l.toArray n)) &&
  Region.seqB .any l.toArray (l.length - n) n (Array.replicate n true ++ Array.replicate (l.length - n) false) &&
  decide (((l.take n).filterMap (·.dst)).Nodup) && decide (n ≤ l.length)
theorem put_defers (a : Act) (d : Option Tmp) (v : Value) : (a.put d v).defers = a.defers := by cases d <;> rfl
theorem put_size (a : Act) (d : Option Tmp) (v : Value) : (a.put d v).tmps.size = a.tmps.size := by cases d <;> simp [Act.put]
theorem put_ne (a : Act) (d : Option Tmp) (v : Value) (k : Nat) (h : d ≠ some k) : (a.put d v).tmps.getD k undef = a.tmps.getD k undef := by
  cases d with
  | none => rfl
  | some d =>
    have : d ≠ k := fun e => h (by rw [e])
    simp [Act.put, Array.getD_eq_getD_getElem?, Array.getElem?_setIfInBounds_ne this]
theorem put_eq (a : Act) (d : Nat) (v : Value) (h : d < a.tmps.size) : (a.put (some d) v).tmps.getD d undef = v := by
  simp [Act.put, Array.getD_eq_getD_getElem?, h]
theorem rgPut_defers : ∀ (l : List Oper) (a : Act) (k : Nat) (vs : Nat → Value), (rgPut a l k vs).defers = a.defers
  | [], _, _, _ => rfl
  | o :: l, a, k, vs => by rw [rgPut, rgPut_defers l, put_defers]
theorem rgPut_size : ∀ (l : List Oper) (a : Act) (k : Nat) (vs : Nat → Value), (rgPut a l k vs).tmps.size = a.tmps.size
  | [], _, _, _ => rfl
  | o :: l, a, k, vs => by rw [rgPut, rgPut_size l, put_size]
theorem rgPut_ne : ∀ (l : List Oper) (a : Act) (k : Nat) (vs : Nat → Value) (d : Nat), (∀ o ∈ l, o.dst ≠ some d) → (rgPut a l k vs).tmps.getD d undef = a.tmps.getD d undef
  | [], _, _, _, _, _ => rfl
  | o :: l, a, k, vs, d, h => by rw [rgPut, rgPut_ne l _ _ _ d (fun o' ho' => h o' (by simp [ho'])), put_ne _ _ _ _ (h o (by simp))]
theorem rgPut_eq : ∀ (l : List Oper) (a : Act) (k : Nat) (vs : Nat → Value) (d j : Nat) (o : Oper), (l.filterMap (·.dst)).Nodup → l[j]? = some o → o.dst = some d → d < a.tmps.size → (rgPut a l k vs).tmps.getD d undef = vs (k + j)
  | [], _, _, _, _, j, o, _, h, _, _ => by simp at h
  | x :: l, a, k, vs, d, 0, o, hn, h, hd, hs => by
    simp at h; subst h
    rw [rgPut, rgPut_ne l _ _ _ d (fun o' ho' e => by
      simp only [List.filterMap_cons, hd, List.nodup_cons, List.mem_filterMap] at hn
      exact hn.1 ⟨o', ho', e⟩), hd, put_eq _ _ _ hs, Nat.add_zero]
  | x :: l, a, k, vs, d, j + 1, o, hn, h, hd, hs => by
    have hn' : (l.filterMap (·.dst)).Nodup := by
      cases hx : x.dst with
      | none => simpa [List.filterMap_cons, hx] using hn
      | some y => simp only [List.filterMap_cons, hx, List.nodup_cons] at hn; exact hn.2
    rw [rgPut, rgPut_eq l _ _ _ d j o hn' (by simpa using h) hd (by rw [put_size]; exact hs), Nat.add_assoc, Nat.add_comm 1 j]
theorem act_ext {a b : Act} (hd : a.defers = b.defers) (hs : a.tmps.size = b.tmps.size) (h : ∀ d, a.tmps.getD d undef = b.tmps.getD d undef) : a = b := by
  cases a with | mk ta da => cases b with | mk tb db =>
  simp only at hd hs h
  subst hd
  congr 1
  apply Array.ext hs
  intro i h1 h2
  have := h i
  simpa [Array.getD_eq_getD_getElem?, h1, h2] using this
structure RgG (l : List Oper) (n : Nat) (a0 : Act) (Inv : World → Prop) (post : Nat → Value → World → Prop) (listed : Array Bool) (a : Act) (w : World) : Prop where
  head : HeadInv .any l.toArray n listed
  inv : Inv w
  frame : RgFrame (l.take n) a0 a
  posts : ∀ j o d, j < n → l[j]? = some o → listed.getD j false = true → o.dst = some d → post j (a.tmps.getD d undef) w
def rgLeft (n : Nat) (listed : Array Bool) : Nat := (List.range n).countP fun j => listed.getD j true == false
theorem getD_true_set (listed : Array Bool) (i j : Nat) (hi : i < listed.size) : (listed.setIfInBounds i true).getD j true = if i = j then true else listed.getD j true := by
  by_cases h : i = j
  · subst h; simp [Array.getD_eq_getD_getElem?, hi]
  · simp [Array.getD_eq_getD_getElem?, Array.getElem?_setIfInBounds_ne h, h]
theorem countP_range_change (n i : Nat) (hi : i < n) (p q : Nat → Bool) (hp : p i = true) (hq : q i = false) (hs : ∀ j, j ≠ i → p j = q j) : (List.range n).countP p = (List.range n).countP q + 1 := by
  induction n with
  | zero => omega
  | succ n ih =>
    rw [List.range_succ, List.countP_append, List.countP_append]
    by_cases h : i = n
    · subst h
      have : (List.range i).countP p = (List.range i).countP q := by
        apply List.countP_congr
        intro x hx
        rw [hs x (by have := List.mem_range.1 hx; omega)]
      rw [this]
      simp [hp, hq]
    · rw [ih (by omega)]
      simp only [List.countP_singleton, hs n (Ne.symm h)]
      omega
theorem rgLeft_set (n : Nat) (listed : Array Bool) (i : Nat) (hi : i < n) (hs : i < listed.size) (hl : listed.getD i true = false) : rgLeft n listed = rgLeft n (listed.setIfInBounds i true) + 1 := by
  unfold rgLeft
  refine countP_range_change n i hi _ _ (by simp [hl]) (by rw [getD_true_set _ _ _ hs]; simp) (fun j hj => ?_)
  rw [getD_true_set _ _ _ hs, if_neg (Ne.symm hj)]
theorem rgLeft_zero {n : Nat} {listed : Array Bool} (h : rgLeft n listed = 0) : ∀ j, j < n → listed.getD j true = true := by
  intro j hj
  unfold rgLeft at h
  have := List.countP_eq_zero.1 h j (List.mem_range.2 hj)
  simpa using this
theorem rgLeft_pos {n : Nat} {listed : Array Bool} (h : rgLeft n listed ≠ 0) : ∃ j, j < n ∧ listed.getD j true = false ∧ ∀ i, i < j → listed.getD i true = true := by
  have : ∃ j, j < n ∧ listed.getD j true = false := by
    by_cases hall : ∃ j, j < n ∧ listed.getD j true = false
    · exact hall
    · exfalso; apply h; unfold rgLeft
      rw [List.countP_eq_zero]
      intro j hj hc
      exact hall ⟨j, List.mem_range.1 hj, by simpa using hc⟩
  obtain ⟨j, hj, hl⟩ := this
  induction j using Nat.strongRecOn with
  | _ j ih =>
    by_cases hc : ∃ i, i < j ∧ listed.getD i true = false
    · obtain ⟨i, hi, hli⟩ := hc
      exact ih i hi (by omega) hli
    · refine ⟨j, hj, hl, fun i hi => ?_⟩
      cases he : listed.getD i true with
      | true => rfl
      | false => exact absurd ⟨i, hi, he⟩ hc
theorem getD_false_of {listed : Array Bool} {i : Nat} (h : listed.getD i true = true) (hi : i < listed.size) : listed.getD i false = true := by
  simp [Array.getD_eq_getD_getElem?, hi] at h ⊢; exact h
theorem rg_any {l : List Oper} {n : Nat} {a0 : Act} {Inv : World → Prop} {post : Nat → Value → World → Prop} (hB : rgB l n = true)
    (hsz : ∀ o ∈ l.take n, ∀ d, o.dst = some d → d < a0.tmps.size) (hops : RgAll P Q l.toArray (l.take n) a0 Inv post 0 (l.take n))
    (hend : ∀ vs w, Inv w → (∀ j o d, j < n → l[j]? = some o → o.dst = some d → post j (vs j) w) → wpList P l.toArray Q (l.drop n) (rgPut a0 (l.take n) 0 vs) w) :
    ∀ (m fuel : Nat) (listed : Array Bool) (a : Act) (w : World), rgLeft n listed = m → fuel = m + (l.length - n) → RgG l n a0 Inv post listed a w → wpAny P .any l.toArray Q fuel listed a w := by
  simp only [rgB, Bool.and_eq_true, decide_eq_true_eq, Bool.or_eq_true] at hB
  obtain ⟨⟨⟨⟨hlex, htail⟩, hseq⟩, hnd⟩, hnl⟩ := hB
  intro m
  induction m with
  | zero =>
    intro fuel listed a w hm hf hG
    have hall := rgLeft_zero hm
    have hlist : listed = Array.replicate n true ++ Array.replicate (l.length - n) false := by
      have hs := hG.head.size
      apply Array.ext
      · rw [hs]; simp; omega
      · intro i h1 h2
        rcases Nat.lt_or_ge i n with hi | hi
        · have := hall i hi
          rw [Array.getElem_append_left (by simpa using hi)]
          simpa [Array.getD_eq_getD_getElem?, h1] using this
        · have := hG.head.tail i hi (by rw [← hs]; exact h1)
          rw [Array.getElem_append_right (by simpa using hi)]
          simpa [Array.getD_eq_getD_getElem?, h1] using this
    have hvs := hend (fun j => match l[j]? with | some o => (match o.dst with | some d => a.tmps.getD d undef | none => undef) | none => undef) w hG.inv (fun j o d hj ho hd => by
      simp only [ho, hd]
      exact hG.posts j o d hj ho (getD_false_of (hall j hj) (by rw [hG.head.size]; simp; omega)) hd)
    have ha : a = rgPut a0 (l.take n) 0 (fun j => match l[j]? with | some o => (match o.dst with | some d => a.tmps.getD d undef | none => undef) | none => undef) := by
      apply act_ext
      · rw [rgPut_defers]; exact hG.frame.1
      · rw [rgPut_size]; exact hG.frame.2.1
      · intro d
        by_cases hd : ∃ o ∈ l.take n, o.dst = some d
        · obtain ⟨o, ho, hod⟩ := hd
          obtain ⟨j, hj, hjo⟩ := List.getElem_of_mem ho
          have hjn : j < n := by simp at hj; omega
          have hjo' : (l.take n)[j]? = some o := by rw [List.getElem?_eq_getElem hj, hjo]
          rw [rgPut_eq (l.take n) a0 0 _ d j o hnd hjo' hod (hsz o ho d hod), Nat.zero_add]
          have : l[j]? = some o := by rw [List.getElem?_take] at hjo'; rw [if_pos hjn] at hjo'; exact hjo'
          simp only [this, hod]
        · have hd' : ∀ o ∈ l.take n, o.dst ≠ some d := fun o ho e => hd ⟨o, ho, e⟩
          rw [rgPut_ne _ _ _ _ _ hd']
          exact hG.frame.2.2 d hd'
    rw [← ha] at hvs
    have key := wpAny_of_seq (P := P) (ops := l.toArray) (md := .any) (Q' := Q) (l.drop n) n listed a w (fun j => by simp [List.getElem?_drop]) (by rw [List.length_drop, hlist]; exact hseq) hvs
    rw [List.length_drop] at key
    rw [hf, Nat.zero_add]
    exact key
  | succ m ih =>
    intro fuel listed a w hm hf hG
    obtain ⟨i0, hi0, hl0, hlow⟩ := rgLeft_pos (n := n) (listed := listed) (by omega)
    rw [hf, show m + 1 + (l.length - n) = (m + (l.length - n)) + 1 by omega]
    have hs := hG.head.size
    have hsl : listed.size = l.length := by rw [hs]; simp
    have hmin : i0 ∈ Region.ready .any l.toArray listed := by
      have h1 := List.all_eq_true.1 hlex i0 (List.mem_range.2 hi0)
      cases ho : l[i0]? with
      | none => rw [ho] at h1; cases h1
      | some o =>
        rw [ho] at h1
        refine mem_ready.2 ⟨hl0, o, by simpa using ho, fun e he hb => ?_⟩
        have h2 := Array.all_eq_true'.1 h1 e he
        simp only [hb, Bool.not_true, Bool.false_or, decide_eq_true_eq] at h2
        exact getD_false_of (hlow e.on h2) (by rw [hsl]; omega)
    refine ⟨fun h => (by rw [h] at hmin; cases hmin), fun i hi => ?_⟩
    obtain ⟨hun, oi, hoi, hall⟩ := mem_ready.1 hi
    have hil : i < l.length := by
      have := (Array.getElem?_eq_some_iff.1 hoi).1
      simpa using this
    have hin : i < n := by
      rcases Nat.lt_or_ge i n with h | h
      · exact h
      · exfalso
        rcases htail with h1 | ⟨hsk, hch⟩
        · omega
        · exact tail_waits hsk hch (by simp; omega) hG.head (n - i0) i0 rfl hi0 hl0 i h hi
    have hoi' : l[i]? = some oi := by simpa using hoi
    have hoit : (l.take n)[i]? = some oi := by rw [List.getElem?_take, if_pos hin]; exact hoi'
    have hok := RgAll.at_ hops i oi hoit
    rw [Nat.zero_add] at hok
    have hmem : oi ∈ l.take n := List.mem_of_getElem? hoit
    unfold wpOp
    simp only [hoi]
    refine hok a w _ hG.inv (fun e he hb o' ho' d hd => ?_) hG.frame (fun v w' hI' hp hst => ?_)
    · have hle := hall e he hb
      have hen : e.on < n := by
        rcases Nat.lt_or_ge e.on n with h | h
        · exact h
        · exfalso
          have h3 : e.on < listed.size := by
            rcases Nat.lt_or_ge e.on listed.size with h4 | h4
            · exact h4
            · simp [Array.getD_eq_getD_getElem?, Array.getElem?_eq_none h4] at hle
          have := hG.head.tail e.on h (by rw [← hs]; exact h3)
          simp [Array.getD_eq_getD_getElem?, h3] at this hle
          rw [this] at hle; cases hle
      exact hG.posts e.on o' d hen (by simpa using ho') hle hd
    · refine ih _ _ _ w' (by have := rgLeft_set n listed i hin (by rw [hsl]; exact hil) hun; omega) rfl ⟨hG.head.set hi hin, hI', ⟨by rw [put_defers]; exact hG.frame.1, by rw [put_size]; exact hG.frame.2.1, fun d hd => ?_⟩, fun j o d hj ho hl hd => ?_⟩
      · rw [put_ne _ _ _ _ (hd oi hmem)]
        exact hG.frame.2.2 d hd
      · by_cases hij : i = j
        · subst hij
          have : o = oi := Option.some.inj (ho.symm.trans hoi')
          subst this
          rw [hd, put_eq _ _ _ (by rw [hG.frame.2.1]; exact hsz o hmem d hd)]
          exact hp
        · rw [getD_set_ne false hij] at hl
          have hne : oi.dst ≠ some d := by
            intro e
            have hjt : (l.take n)[j]? = some o := by rw [List.getElem?_take, if_pos hj]; exact ho
            have h1 := rgPut_eq (l.take n) a0 0 (fun x => .int .i64 x) d i oi hnd hoit e (hsz oi hmem d e)
            have h2 := rgPut_eq (l.take n) a0 0 (fun x => .int .i64 x) d j o hnd hjt hd (hsz oi hmem d e)
            rw [h1] at h2
            simp only [Nat.zero_add, Value.int.injEq, true_and] at h2
            omega
          rw [put_ne _ _ _ _ hne]
          exact hst j _ (fun e => hij e.symm) (hG.posts j o d hj ho hl hd)
theorem wp_region_rg {id : Nat} {l : List Oper} (n : Nat) {a0 : Act} {w0 : World} (Inv : World → Prop) (post : Nat → Value → World → Prop) (hm : P.follows .mixedOrders = true) (hB : rgB l n = true)
    (hsz : (l.take n).all (fun o => match o.dst with | some d => decide (d < a0.tmps.size) | none => true) = true) (hI : Inv w0.drew) (hops : RgAll P Q l.toArray (l.take n) a0 Inv post 0 (l.take n))
    (hend : ∀ vs w, Inv w → (∀ j o d, j < n → l[j]? = some o → o.dst = some d → post j (vs j) w) → wpList P l.toArray Q (l.drop n) (rgPut a0 (l.take n) 0 vs) w) : (Code.region id l.toArray true).wp P Q a0 w0 := by
  have hnl : n ≤ l.length := by
    simp only [rgB, Bool.and_eq_true, decide_eq_true_eq] at hB
    exact hB.2
  refine wp_region_any hm ?_
  refine rg_any hB (fun o ho d hd => ?_) hops hend n _ _ a0 w0.drew ?_ (by simp; omega) ⟨⟨by simp, fun j oj _ hl => (by rw [getD_replicate_false] at hl; cases hl), fun t _ ht => getD_in (by simpa using ht) (getD_replicate_false _ _)⟩, hI, ⟨rfl, rfl, fun _ _ => rfl⟩, fun j o d _ _ hl => (by rw [getD_replicate_false] at hl; cases hl)⟩
  · have := List.all_eq_true.1 hsz o ho
    rw [hd] at this
    simpa using this
  · unfold rgLeft
    rw [List.countP_eq_length.2]
    · simp
    · intro j hj
      have : j < l.length := by have := List.mem_range.1 hj; omega
      simp [Array.getD_eq_getD_getElem?, this]
/-- The same obligations, in a region that goes in the text's order. -/
theorem rg_list {l : List Oper} {n : Nat} {a0 : Act} {Inv : World → Prop} {post : Nat → Value → World → Prop} (hB : rgB l n = true)
    (hsz : ∀ o ∈ l.take n, ∀ d, o.dst = some d → d < a0.tmps.size) (hops : RgAll P Q l.toArray (l.take n) a0 Inv post 0 (l.take n))
    (hend : ∀ vs w, Inv w → (∀ j o d, j < n → l[j]? = some o → o.dst = some d → post j (vs j) w) → wpList P l.toArray Q (l.drop n) (rgPut a0 (l.take n) 0 vs) w) :
    ∀ (m j : Nat) (a : Act) (w : World), m = n - j → j ≤ n → Inv w → RgFrame (l.take n) a0 a → (∀ i o d, i < j → l[i]? = some o → o.dst = some d → post i (a.tmps.getD d undef) w) → wpList P l.toArray Q (l.drop j) a w := by
  simp only [rgB, Bool.and_eq_true, decide_eq_true_eq, Bool.or_eq_true] at hB
  obtain ⟨⟨⟨⟨hlex, htail⟩, hseq⟩, hnd⟩, hnl⟩ := hB
  intro m
  induction m with
  | zero =>
    intro j a w hm hj hI hF hp
    have hjn : j = n := by omega
    subst hjn
    have hvs := hend (fun i => match l[i]? with | some o => (match o.dst with | some d => a.tmps.getD d undef | none => undef) | none => undef) w hI (fun i o d hi ho hd => by
      simp only [ho, hd]
      exact hp i o d hi ho hd)
    have ha : a = rgPut a0 (l.take j) 0 (fun i => match l[i]? with | some o => (match o.dst with | some d => a.tmps.getD d undef | none => undef) | none => undef) := by
      apply act_ext
      · rw [rgPut_defers]; exact hF.1
      · rw [rgPut_size]; exact hF.2.1
      · intro d
        by_cases hd : ∃ o ∈ l.take j, o.dst = some d
        · obtain ⟨o, ho, hod⟩ := hd
          obtain ⟨i, hi, hio⟩ := List.getElem_of_mem ho
          have hin : i < j := by simp at hi; omega
          have hio' : (l.take j)[i]? = some o := by rw [List.getElem?_eq_getElem hi, hio]
          rw [rgPut_eq (l.take j) a0 0 _ d i o hnd hio' hod (hsz o ho d hod), Nat.zero_add]
          have : l[i]? = some o := by rw [List.getElem?_take] at hio'; rw [if_pos hin] at hio'; exact hio'
          simp only [this, hod]
        · have hd' : ∀ o ∈ l.take j, o.dst ≠ some d := fun o ho e => hd ⟨o, ho, e⟩
          rw [rgPut_ne _ _ _ _ _ hd']
          exact hF.2.2 d hd'
    rw [← ha] at hvs
    exact hvs
  | succ m ih =>
    intro j a w hm hj hI hF hp
    have hjn : j < n := by omega
    have hjl : j < l.length := by omega
    rw [List.drop_eq_getElem_cons hjl]
    have hoj : l[j]? = some l[j] := by simp [hjl]
    have hojt : (l.take n)[j]? = some l[j] := by rw [List.getElem?_take, if_pos hjn]; exact hoj
    have hok := RgAll.at_ hops j _ hojt
    rw [Nat.zero_add] at hok
    have hmem : l[j] ∈ l.take n := List.mem_of_getElem? hojt
    have h1 := List.all_eq_true.1 hlex j (List.mem_range.2 hjn)
    rw [hoj] at h1
    have := hok a w (wpList P l.toArray Q (l.drop (j + 1))) hI (fun e he hb o' ho' d hd => by
      have h2 := Array.all_eq_true'.1 h1 e he
      simp only [hb, Bool.not_true, Bool.false_or, decide_eq_true_eq] at h2
      exact hp e.on o' d h2 (by simpa using ho') hd) hF (fun v w' hI' hpj hst => by
      refine ih (j + 1) _ w' (by omega) (by omega) hI' ⟨by rw [put_defers]; exact hF.1, by rw [put_size]; exact hF.2.1, fun d hd => ?_⟩ (fun i o d hi ho hd => ?_)
      · rw [put_ne _ _ _ _ (hd _ hmem)]
        exact hF.2.2 d hd
      · by_cases hij : i = j
        · subst hij
          have : o = l[i] := Option.some.inj (ho.symm.trans hoj)
          subst this
          rw [hd, put_eq _ _ _ (by rw [hF.2.1]; exact hsz _ hmem d hd)]
          exact hpj
        · have hne : (l[j]).dst ≠ some d := by
            intro e
            have hit : (l.take n)[i]? = some o := by rw [List.getElem?_take, if_pos (by omega)]; exact ho
            have h1 := rgPut_eq (l.take n) a0 0 (fun x => .int .i64 x) d j _ hnd hojt e (hsz _ hmem d e)
            have h2 := rgPut_eq (l.take n) a0 0 (fun x => .int .i64 x) d i o hnd hit hd (hsz _ hmem d e)
            rw [h1] at h2
            simp only [Nat.zero_add, Value.int.injEq, true_and] at h2
            omega
          rw [put_ne _ _ _ _ hne]
          exact hst i _ (by omega) (hp i o d (by omega) ho hd))
    unfold wpList
    split
    · rename_i hw; rw [if_pos hw] at this; exact this
    · rename_i hw; rw [if_neg hw] at this; exact this
/-- Whether the region draws its order or not. -/
theorem wp_region_rgd {d : Bool} {id : Nat} {l : List Oper} (n : Nat) {a0 : Act} {w0 : World} (Inv : World → Prop) (post : Nat → Value → World → Prop) (hm : P.follows .mixedOrders = true) (hB : rgB l n = true)
    (hsz : (l.take n).all (fun o => match o.dst with | some d => decide (d < a0.tmps.size) | none => true) = true) (hI : Inv w0) (hI' : Inv w0.drew) (hops : RgAll P Q l.toArray (l.take n) a0 Inv post 0 (l.take n))
    (hend : ∀ vs w, Inv w → (∀ j o d, j < n → l[j]? = some o → o.dst = some d → post j (vs j) w) → wpList P l.toArray Q (l.drop n) (rgPut a0 (l.take n) 0 vs) w) : (Code.region id l.toArray d).wp P Q a0 w0 := by
  cases d
  · refine wp_region_lit ?_
    have := rg_list hB (fun o ho d hd => by
      have := List.all_eq_true.1 hsz o ho
      rw [hd] at this
      simpa using this) hops hend n 0 a0 w0 (by omega) (Nat.zero_le _) hI ⟨rfl, rfl, fun _ _ => rfl⟩ (fun i _ _ hi => by omega)
    simpa using this
  · exact wp_region_rg n Inv post hm hB hsz hI' hops hend
theorem RgDep.get {ops : Array Oper} {post : Nat → Value → World → Prop} {o : Oper} {a : Act} {w : World} (h : RgDep ops post o a w) (i : Nat) {o' : Oper} {d : Nat} (hi : (o.after.toList.any fun e => Region.binds .any e && e.on == i) = true) (ho : ops[i]? = some o') (hd : o'.dst = some d) : post i (a.tmps.getD d undef) w := by
  obtain ⟨e, he, hb⟩ := List.any_eq_true.1 hi
  simp only [Bool.and_eq_true, beq_iff_eq] at hb
  obtain ⟨hb, rfl⟩ := hb
  exact h e (by simpa using he) hb o' ho d hd
theorem RgFrame.get {heads : List Oper} {a0 a : Act} (h : RgFrame heads a0 a) (d : Nat) (hd : (heads.all fun o => o.dst != some d) = true) : a.tmps.getD d undef = a0.tmps.getD d undef :=
  h.2.2 d (fun o ho e => by have := List.all_eq_true.1 hd o ho; rw [e] at this; simp at this)
/-- An operation that leaves the world alone. -/
theorem RgOk.val {ops : Array Oper} {heads : List Oper} {a0 : Act} {Inv : World → Prop} {post : Nat → Value → World → Prop} {j : Nat} {o : Oper} (hg : o.guard = none)
    (h : ∀ a w, Inv w → RgDep ops post o a w → RgFrame heads a0 a → ∃ v, (execOp a.eval o).run P w = .ok (.value v) w ∧ post j v w) : RgOk P Q ops heads a0 Inv post j o := by
  intro a w K hI hD hF hK
  rw [if_pos (by simp [Region.wanted, hg])]
  obtain ⟨v, hr, hp⟩ := h a w hI hD hF
  left
  unfold Oper.wp
  rw [hr]
  exact hK v w hI hp (fun _ _ _ h => h)
/-- One that makes a world in which all that is known stays known. -/
theorem RgOk.turn {ops : Array Oper} {heads : List Oper} {a0 : Act} {Inv : World → Prop} {post : Nat → Value → World → Prop} {j : Nat} {o : Oper} (hg : o.guard = none)
    (h : ∀ a w, Inv w → RgDep ops post o a w → RgFrame heads a0 a → ∃ v w', (execOp a.eval o).run P w = .ok (.value v) w' ∧ Inv w' ∧ post j v w' ∧ ∀ i u, i ≠ j → post i u w → post i u w') : RgOk P Q ops heads a0 Inv post j o := by
  intro a w K hI hD hF hK
  rw [if_pos (by simp [Region.wanted, hg])]
  obtain ⟨v, w', hr, hI', hp, hs⟩ := h a w hI hD hF
  left
  unfold Oper.wp
  rw [hr]
  exact hK v w' hI' hp hs
/-- A call of a Go function. -/
theorem RgOk.call {ops : Array Oper} {heads : List Oper} {a0 : Act} {Inv : World → Prop} {post : Nat → Value → World → Prop} {j : Nat} {o : Oper} (hg : o.guard = none) (f : FuncId)
    (h : ∀ a w, Inv w → RgDep ops post o a w → RgFrame heads a0 a → ∃ args, (execOp a.eval o).run P w = .ok (.enter f args) w ∧ Calls P f args w fun e w' => ∃ v, e = .returned v ∧ Inv w' ∧ post j v w' ∧ ∀ i u, i ≠ j → post i u w → post i u w') : RgOk P Q ops heads a0 Inv post j o := by
  intro a w K hI hD hF hK
  rw [if_pos (by simp [Region.wanted, hg])]
  obtain ⟨args, hr, hc⟩ := h a w hI hD hF
  left
  unfold Oper.wp
  rw [hr, Oper.upon_enter]
  refine hc.mono ?_
  rintro e w' ⟨v, rfl, hI', hp, hs⟩
  exact hK v w' hI' hp hs
/-- An append of one element to a row of the call's own. -/
theorem RgOk.append {ops : Array Oper} {heads : List Oper} {a0 : Act} {Inv : World → Prop} {post : Nat → Value → World → Prop} {j : Nat} {o : Oper} (hg : o.guard = none) {t e : TypeId} {size bytes : Nat} (T : AppTy P t e size bytes) (s x : Operand)
    (hop : o.op = Op.call { callee := Callee.builtin Builtin.append, args := #[s, x], argTypes := #[t, t] }) {α : Type} {R : α → List Value → Prop} (v : Value) (l : List α) (y : α) (cs : List Value)
    (hr : R y cs) (hl : cs.length = size) (h1 : ∀ u ∈ cs, u.oneCell' = true) (hn : (l.length + 1) * bytes ≤ 140737488355328) (hn2 : l.length + 1 ≤ 9223372036854775807)
    (h : ∀ a w, Inv w → RgDep ops post o a w → RgFrame heads a0 a → ∃ B, a.eval s = v ∧ a.eval x = .slice (some ⟨B, 0, none⟩) 1 1 ∧ w.heap[B]? = some (.cells cs.toArray e (0, 0)) ∧ Own w e size R v l ∧
      ∀ g cap w', Grew w w' v e size R l (l ++ [y]) g cap → Inv w' ∧ post j (.slice (some ⟨g, 0, none⟩) (l.length + 1) cap) w' ∧ ∀ i u, i ≠ j → post i u w → post i u w') : RgOk P Q ops heads a0 Inv post j o := by
  intro a w K hI hD hF hK
  rw [if_pos (by simp [Region.wanted, hg])]
  obtain ⟨B, hs, hx, hB, hO, hG⟩ := h a w hI hD hF
  obtain ⟨g, cap, w', hrn, hGr⟩ := own_append (W := w) (w := w) (ty := o.type) T B y cs (Nat.le_refl _) rfl rfl rfl (fun _ _ => rfl) hB hO hr hl h1 hn hn2
  obtain ⟨hI', hp, hst⟩ := hG g cap w' hGr
  left
  unfold Oper.wp
  simp only [execOp, hop, resolve, invoke, builtin, Sem.run_bind, Sem.run_pure, Result.andThen_ok, List.map_toArray, List.map_cons, List.map_nil, hs, hx, hrn]
  exact hK _ w' hI' hp hst
end
end Go.Proofs.Ytlajcmoiopaemaa
