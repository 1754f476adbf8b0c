/- A region that draws its order: every order comes to what the pass says. No program in sight. -/
import Derived.Test.YtlajcmoiopaemaaAv11c
set_option linter.unusedVariables false
set_option linter.unusedSimpArgs false
noncomputable section
namespace Go.Proofs.Ytlajcmoiopaemaa
theorem Ver.uniq {H : AH} {rs : List PRec} {n : Nat} {V V' : AH} (h : Ver H rs n V) (h' : Ver H rs n V') : V = V' := by
  rcases h with ⟨rfl, rfl⟩ | ⟨k, y, u, rfl, h1, h2⟩
  · rcases h' with ⟨_, rfl⟩ | ⟨k, y, u, e, _⟩
    · rfl
    · omega
  · rcases h' with ⟨e, _⟩ | ⟨k', y', u', e, h3, h4⟩
    · omega
    · obtain rfl : k = k' := by omega
      rw [h1] at h3
      simp only [Option.some.injEq] at h3
      subst h3
      rw [h2] at h4
      simp only [Option.some.injEq, EOne.heavy.injEq] at h4
      exact h4.2
theorem ver_at {H : AH} {rs p : List PRec} (hp : ∀ (j : Nat) (y : PRec), p[j]? = some y → rs[j]? = some y) : Ver H rs (nOf 0 0 p) (curOf H p) := by
  rcases nOf_at (p := p) (i := 0) (n := 0) with ⟨h1, h2⟩ | ⟨k, y, h1, h2, h3, h4⟩
  · rcases curOf_at (p := p) (H := H) with ⟨c1, c2⟩ | ⟨k, y, u, c1, c2, c3⟩
    · exact .inl ⟨h1, c2⟩
    · have := h2 k y c1
      simp [PRec.isHeavy, c2] at this
  · rcases curOf_at (p := p) (H := H) with ⟨c1, c2⟩ | ⟨k', y', u, c1, c2, c3⟩
    · rw [c1 k y h2] at h3; cases h3
    · have e1 := c3 k y h2 h3
      have e2 := h4 k' y' c1 (by simp [PRec.isHeavy, c2])
      obtain rfl : k = k' := by omega
      exact .inr ⟨k, y', u, by omega, hp _ _ c1, c2⟩
theorem nOf_iff {p : List PRec} {j : Nat} {y : PRec} (hj : p[j]? = some y) (hy : y.isHeavy = true) : j < nOf 0 0 p := by
  rcases nOf_at (p := p) (i := 0) (n := 0) with ⟨h1, h2⟩ | ⟨k, z, h1, h2, h3, h4⟩
  · rw [h2 j y hj] at hy; cases hy
  · have := h4 j y hj hy; omega
theorem nOf_le {p : List PRec} {j : Nat} (h : j < nOf 0 0 p) : j < p.length := by
  rcases nOf_at (p := p) (i := 0) (n := 0) with ⟨h1, h2⟩ | ⟨k, z, h1, h2, h3, h4⟩
  · omega
  · have := (List.getElem?_eq_some_iff.1 h2).1; omega
theorem findBoom_at : ∀ {rs : List PRec} {i : Nat} {x : PRec} {u : AV} {H : AH}, rs[i]? = some x → x.res = some (.boom u H) → (∀ (j : Nat) (y : PRec), j < i → rs[j]? = some y → y.isBoom = false) → findBoom rs = some (u, H)
  | [], i, x, u, H, h, _, _ => by simp at h
  | r :: rs, 0, x, u, H, h, hx, _ => by simp at h; subst h; simp [findBoom, hx]
  | r :: rs, i + 1, x, u, H, h, hx, hb => by
    have h0 := hb 0 r (by omega) (by simp)
    have ih := findBoom_at (rs := rs) (i := i) (by simpa using h) hx (fun j y hj hy => hb (j + 1) y (by omega) (by simpa using hy))
    simp only [findBoom]
    split
    · rename_i he; simp [PRec.isBoom, he] at h0
    · exact ih
theorem findBoom_none : ∀ {rs : List PRec}, (∀ (j : Nat) (y : PRec), rs[j]? = some y → y.isBoom = false) → findBoom rs = none
  | [], _ => rfl
  | r :: rs, h => by
    have h0 := h 0 r (by simp)
    simp only [findBoom]
    split
    · rename_i he; simp [PRec.isBoom, he] at h0
    · exact findBoom_none (fun j y hj => h (j + 1) y (by simpa using hj))
structure Setup (T : Tab) (cf : CallF) (yf : YldF) (ops : Array Oper) (fl : Flt) (ts : HT AV) (df : List ADef) (H : AH) (rs : List PRec) : Prop where
  len : rs.length = ops.size
  at_ : ∀ (i : Nat) (o : Oper), ops[i]? = some o → ∃ (x : PRec) (mk : List Tmp), rs[i]? = some x ∧ x.o = o ∧ Fact T cf yf ops fl df 0 ts 0 H [] none mk (rs.take i) x ∧
    (∀ k, x.m.testBit k = true → ∃ j ∈ afters o, k = j ∨ ∃ (y : PRec), rs[j]? = some y ∧ y.m.testBit k = true) ∧
    (∀ (j : Nat) (y : PRec) (d : Tmp), j < i → rs[j]? = some y → y.o.dst = some d → x.m.testBit j = false → d ∈ mk)
  early : ∀ (i : Nat) (o : Oper), ops[i]? = some o → ∀ j ∈ afters o, j < i
  apart : ∀ (i j : Nat) (x y : PRec) (d : Tmp), rs[i]? = some x → rs[j]? = some y → x.o.dst = some d → y.o.dst = some d → i = j
  ts : ∀ (i : Nat) (x : PRec) (d : Tmp) (u : AV), rs[i]? = some x → x.o.dst = some d → ts.get d = some u → u = .any ∨ ∀ k, k < i → x.m.testBit k = true
  chk : chkAll T cf yf ops fl H rs 0 rs = true
theorem mem_dsts : ∀ {l : List Oper} {i : Nat} {o : Oper} {d : Tmp}, l[i]? = some o → o.dst = some d → d ∈ dsts l
  | [], i, o, d, h, _ => by simp at h
  | x :: l, 0, o, d, h, hd => by simp at h; subst h; simp [dsts, hd]
  | x :: l, i + 1, o, d, h, hd => by
    have := mem_dsts (l := l) (i := i) (by simpa using h) hd
    simp only [dsts]
    split
    · exact List.mem_cons_of_mem _ this
    · exact this
section
variable {T : Tab} {cf : CallF} {yf : YldF} {ops : Array Oper} {fl : Flt} {ts : HT AV} {df : List ADef} {H : AH} {rs : List PRec}
theorem setup_of {ts0 : HT AV} (h1 : planOk ops.toList = true) (hts : ts = maskT (dstsM (planGo ops.toList []) 0) ts0) (h2 : pass T cf yf ops fl df (planGo ops.toList []) 0 ts 0 H [] none = some rs) (h3 : chkAll T cf yf ops fl H rs 0 rs = true) : Setup T cf yf ops fl ts df H rs := by
  simp only [planOk, Bool.and_eq_true] at h1
  obtain ⟨hl, hf⟩ := pass_facts h2
  have hlen : rs.length = ops.size := by rw [hl, planGo_len]; simp
  have tol : ∀ {i : Nat} {o : Oper}, ops[i]? = some o → ops.toList[i]? = some o := fun h => by rw [Array.getElem?_toList]; exact h
  have plan : ∀ {i : Nat} {o : Oper}, ops[i]? = some o → ∃ p, (planGo ops.toList [])[i]? = some p ∧ p.o = o := fun {i o} h => by
    have hi : i < (planGo ops.toList []).length := by
      rw [planGo_len]
      exact (List.getElem?_eq_some_iff.1 (tol h)).1
    refine ⟨_, List.getElem?_eq_getElem hi, ?_⟩
    have := (planGo_at (List.getElem?_eq_getElem hi)).1
    rw [tol h] at this
    simpa using this.symm
  have rsm : ∀ {j : Nat} {p : PL}, (planGo ops.toList [])[j]? = some p → ∃ (y : PRec), rs[j]? = some y ∧ y.o = p.o ∧ y.m = p.m := fun hp => by
    obtain ⟨y, y1, y2, y3, _⟩ := hf _ _ hp
    exact ⟨y, y1, y2, y3⟩
  refine ⟨hlen, fun i o ho => ?_, fun i o ho j hj => ?_, fun i j x y d hx hy hxd hyd => ?_, fun i x d u hx hd hu => ?_, h3⟩
  · obtain ⟨p, hp, rfl⟩ := plan ho
    obtain ⟨x, x1, x2, x3, x4⟩ := hf _ _ hp
    obtain ⟨_, pv, e1, e2, e3⟩ := planGo_at hp
    simp only [List.nil_append] at e1
    have pvat : ∀ (j : Nat) (q : Option Tmp × Nat), pv[j]? = some q → ∃ (y : PRec), rs[j]? = some y ∧ q = (y.o.dst, y.m) := by
      intro j q hq
      rw [e1, List.getElem?_map, Option.map_eq_some_iff] at hq
      obtain ⟨pj, h1, rfl⟩ := hq
      rw [List.getElem?_take] at h1
      split at h1 <;> try (cases h1; done)
      obtain ⟨y, y1, y2, y3⟩ := rsm h1
      exact ⟨y, y1, by rw [y2, y3]⟩
    refine ⟨x, p.ms, x1, x2, x4, fun k hk => ?_, fun j y d hj hy hd hb => ?_⟩
    · rw [x3, e2] at hk
      obtain ⟨j, j1, j2⟩ := testBit_maskOf hk
      refine ⟨j, j1, j2.imp id fun h => ?_⟩
      rw [List.getD_eq_getElem?_getD] at h
      cases hq : pv[j]? with
      | none => rw [hq] at h; simp at h
      | some q =>
        rw [hq, Option.getD_some] at h
        obtain ⟨y, y1, rfl⟩ := pvat j q hq
        exact ⟨y, y1, h⟩
    · have hj' : j < pv.length := by
        rw [e1, List.length_map, List.length_take]
        have := (List.getElem?_eq_some_iff.1 hp).1
        omega
      obtain ⟨y', y1, y2⟩ := pvat j _ (List.getElem?_eq_getElem hj')
      rw [hy] at y1
      simp only [Option.some.injEq] at y1
      subst y1
      rw [e3]
      refine mem_mkOf (k := j) (x := y.m) ?_ (by rw [Nat.zero_add, ← x3]; exact hb)
      rw [List.getElem?_eq_getElem hj', y2, hd]
  · have := earlier_at h1.1 (tol ho) j hj
    omega
  · have conv : ∀ {i : Nat} {x : PRec}, rs[i]? = some x → ops.toList[i]? = some x.o := fun {i x} hx => by
      have hi : i < ops.size := by rw [← hlen]; exact (List.getElem?_eq_some_iff.1 hx).1
      obtain ⟨p, hp, hpo⟩ := plan (Array.getElem?_eq_getElem hi)
      obtain ⟨y, y1, y2, _⟩ := rsm hp
      rw [hx] at y1
      simp only [Option.some.injEq] at y1
      subst y1
      rw [y2, hpo]
      exact tol (Array.getElem?_eq_getElem hi)
    exact apart_at h1.2 (conv hx) (conv hy) hxd hyd
  · rw [hts] at hu
    rcases maskT_keep hu with h | ⟨h, _⟩
    · exact .inl h
    · refine .inr ?_
      have hi : i < ops.size := by rw [← hlen]; exact (List.getElem?_eq_some_iff.1 hx).1
      obtain ⟨p, hp, hpo⟩ := plan (Array.getElem?_eq_getElem hi)
      obtain ⟨y, y1, y2, y3⟩ := rsm hp
      rw [hx] at y1
      simp only [Option.some.injEq] at y1
      subst y1
      rcases mem_dstsM (j := 0) hp (by rw [← y2]; exact hd) with h4 | h4
      · exact absurd h4 h
      · rw [Nat.zero_add] at h4
        intro k hk
        rw [y3]
        exact fullBelow_at h4 hk
structure Inv (T : Tab) (ops : Array Oper) (fl : Flt) (ts : HT AV) (df : List ADef) (H : AH) (rs : List PRec) (w0 : World) (G0 : Gh) (H0 : AH) (rr r : Option Nat) (listed : Array Bool) (ca : Act) (w : World) (G : Gh) (n : Nat) (V W : AH) : Prop where
  ext : Ext w0 G0 H0 w G W
  rel : Rel w G W
  wn : W.n = V.n
  wg : ∀ j : Nat, W.get j = if fl.n0 ≤ j ∧ j < fl.n0 + fl.f ∧ listed.getD (j - fl.n0) true = false then .dead else V.get j
  fn : fl.n0 + fl.f ≤ V.n
  h0 : H0.n ≤ fl.n0
  unb : ∀ i : Nat, i < fl.f → listed.getD i true = false → G.gen (fl.n0 + i) = 0
  nof : ∀ (i : Nat) (o : Oper), i < fl.f → ops[i]? = some o → isFl fl i o = false → V.get (fl.n0 + i) = .dead
  rr : RR G rr r
  ver : Ver H rs n V
  size : listed.size = ops.size
  hv : ∀ (j : Nat) (y : PRec), rs[j]? = some y → y.isHeavy = true → (listed.getD j true = true ↔ j < n)
  ok : ∀ (j : Nat) (y : PRec), rs[j]? = some y → listed.getD j true = true → y.res ≠ none ∧ y.isBoom = false
  cl : ∀ (j : Nat) (y : PRec), rs[j]? = some y → listed.getD j true = true → ∀ k, y.m.testBit k = true → listed.getD k true = true
  dom : ∀ t : Nat, ts.get t = none ↔ ca.tmps[t]? = none
  tm : ∀ (t : Nat) (x : Value), ca.tmps[t]? = some x → (∀ (j : Nat) (y : PRec), rs[j]? = some y → y.o.dst = some t → listed.getD j true = true → VR G x y.u) ∧ ((∀ (j : Nat) (y : PRec), rs[j]? = some y → y.o.dst = some t → listed.getD j true = false) → ∀ (u : AV), ts.get t = some u → VR G x u)
  dfs : DRs G ca.defers df
theorem getD_set_bool {listed : Array Bool} {i j : Nat} : (listed.setIfInBounds i true).getD j true = (if i = j then true else listed.getD j true) := by
  simp only [Array.getD_eq_getD_getElem?, Array.getElem?_setIfInBounds]
  split
  · split <;> simp
  · rfl
variable {w0 : World} {G0 : Gh} {H0 : AH} {rr r : Option Nat} {listed : Array Bool} {ca : Act} {w : World} {G : Gh} {n : Nat} {V W : AH}
theorem Inv.put (S : Setup T cf yf ops fl ts df H rs) (I : Inv T ops fl ts df H rs w0 G0 H0 rr r listed ca w G n V W) {i : Nat} {x : PRec} (hx : rs[i]? = some x) (hi : listed.getD i true = false) (hxo : ops[i]? = some x.o)
    (hanc : ∀ k, x.m.testBit k = true → listed.getD k true = true) (hres : x.res ≠ none) (hnb : x.isBoom = false)
    {w1 : World} {G1 : Gh} {V1 W1 : AH} {n1 : Nat} (hle : G.le G1) (e1 : Ext w0 G0 H0 w1 G1 W1) (r1 : Rel w1 G1 W1) (hwn : W1.n = V1.n) (hwg : ∀ j : Nat, W1.get j = if fl.n0 ≤ j ∧ j < fl.n0 + fl.f ∧ (listed.setIfInBounds i true).getD (j - fl.n0) true = false then .dead else V1.get j)
    (hfn : fl.n0 + fl.f ≤ V1.n) (hunb : ∀ k : Nat, k < fl.f → (listed.setIfInBounds i true).getD k true = false → G1.gen (fl.n0 + k) = 0) (hnof : ∀ (k : Nat) (o : Oper), k < fl.f → ops[k]? = some o → isFl fl k o = false → V1.get (fl.n0 + k) = .dead)
    {y : Value} (hy : VR G1 y x.u) (hver : Ver H rs n1 V1)
    (hhv : ∀ (j : Nat) (z : PRec), rs[j]? = some z → z.isHeavy = true → ((if i = j then true else listed.getD j true) = true ↔ j < n1)) :
    Inv T ops fl ts df H rs w0 G0 H0 rr r (listed.setIfInBounds i true) (ca.put x.o.dst y) w1 G1 n1 V1 W1 := by
  refine ⟨e1, r1, hwn, hwg, hfn, I.h0, hunb, hnof, I.rr.mono hle, hver, by rw [Array.size_setIfInBounds]; exact I.size, fun j z hj hz => ?_, fun j z hj hl => ?_, fun j z hj hl k hk => ?_, ?_, fun t xv ht => ?_, ?_⟩
  · rw [getD_set_bool]; exact hhv j z hj hz
  · rw [getD_set_bool] at hl
    split at hl
    · rename_i e; subst e
      rw [hx] at hj; simp only [Option.some.injEq] at hj; subst hj
      exact ⟨hres, hnb⟩
    · exact I.ok j z hj hl
  · rw [getD_set_bool] at hl ⊢
    split
    · rfl
    · split at hl
      · rename_i e; subst e
        rw [hx] at hj; simp only [Option.some.injEq] at hj; subst hj
        exact hanc k hk
      · exact I.cl j z hj hl k hk
  · intro t
    rw [I.dom t]
    cases x.o.dst with
    | none => exact Iff.rfl
    | some d =>
      simp only [Act.put]
      rw [Array.getElem?_eq_none_iff, Array.getElem?_eq_none_iff, Array.size_setIfInBounds]
  · have base : ∀ {xv : Value}, ca.tmps[t]? = some xv → x.o.dst ≠ some t → (∀ (j : Nat) (z : PRec), rs[j]? = some z → z.o.dst = some t → (listed.setIfInBounds i true).getD j true = true → VR G1 xv z.u) ∧ ((∀ (j : Nat) (z : PRec), rs[j]? = some z → z.o.dst = some t → (listed.setIfInBounds i true).getD j true = false) → ∀ (u : AV), ts.get t = some u → VR G1 xv u) := by
      intro xv hxv hne
      obtain ⟨h1, h2⟩ := I.tm t xv hxv
      refine ⟨fun j z hj hz hl => ?_, fun hno u hu => VR.mono hle _ _ (h2 (fun j z hj hz => by
        have := hno j z hj hz
        rw [getD_set_bool] at this
        split at this
        · cases this
        · exact this) u hu)⟩
      rw [getD_set_bool] at hl
      split at hl
      · rename_i e; subst e
        rw [hx] at hj; simp only [Option.some.injEq] at hj; subst hj
        exact absurd hz hne
      · exact VR.mono hle _ _ (h1 j z hj hz hl)
    cases hd : x.o.dst with
    | none =>
      rw [hd] at ht
      exact base ht (by rw [hd]; simp)
    | some d =>
      rw [hd] at ht
      simp only [Act.put, Array.getElem?_setIfInBounds] at ht
      split at ht
      · rename_i e; subst e
        split at ht <;> simp only [Option.some.injEq, reduceCtorEq] at ht
        subst ht
        refine ⟨fun j z hj hz hl => ?_, fun hno u hu => ?_⟩
        · obtain rfl := S.apart _ _ _ _ _ hj hx hz hd
          rw [hx] at hj; simp only [Option.some.injEq] at hj; subst hj
          exact hy
        · have := hno i x hx hd
          rw [getD_set_bool, if_pos rfl] at this
          cases this
      · rename_i hne
        exact base ht (by rw [hd]; simpa using hne)
  · have := I.dfs.mono hle
    cases x.o.dst <;> simpa [Act.put] using this
theorem Inv.arel (I : Inv T ops fl ts df H rs w0 G0 H0 rr r listed ca w G n V W) {us : HT AV} (hl : ∀ t, us.get t = none ↔ ts.get t = none) (h : ∀ (t : Nat) (u : AV), us.get t = some u → u = .any ∨ (∃ (j : Nat) (y : PRec), rs[j]? = some y ∧ listed.getD j true = true ∧ y.o.dst = some t ∧ u = y.u) ∨ (ts.get t = some u ∧ ∀ (j : Nat) (y : PRec), rs[j]? = some y → y.o.dst = some t → listed.getD j true = false)) : ARel G ca ⟨us, df⟩ := by
  refine ⟨fun t => ?_, I.dfs⟩
  rw [Array.getElem?_toList]
  cases hu : us.get t with
  | none => exact (I.dom t).1 ((hl t).1 hu)
  | some u =>
  obtain ⟨xv, hxv⟩ : ∃ xv, ca.tmps[t]? = some xv := by
    cases hx : ca.tmps[t]? with
    | none => rw [(hl t).2 ((I.dom t).2 hx)] at hu; cases hu
    | some xv => exact ⟨xv, rfl⟩
  refine ⟨xv, hxv, ?_⟩
  obtain ⟨h1, h2⟩ := I.tm t xv hxv
  rcases h t u hu with rfl | ⟨j, y, a, b, c, rfl⟩ | ⟨h, hno⟩
  · simp [VR]
  · exact h1 j y a c b
  · exact h2 hno u h
/-- an operation that is next -/
theorem Inv.step (S : Setup T cf yf ops fl ts df H rs) (hcf : ∀ f args H e H', cf f args H = some (e, H') → CallOk T.P f args H e H') (hyf : ∀ id args H e H', yf id args H = some (e, H') → RoundOk T.P id args H e H')
    {e : AExit} {a' : AAct} {H' : AH} (hend : drawEnd ts df H rs = some (e, a', H')) (I : Inv T ops fl ts df H rs w0 G0 H0 rr r listed ca w G n V W) {i : Nat} (hi : i ∈ Region.ready .any ops listed)
    {K : Act → World → Prop} (hK : ∀ ca' w' G' n' V' W', Inv T ops fl ts df H rs w0 G0 H0 rr r (listed.setIfInBounds i true) ca' w' G' n' V' W' → K ca' w') :
    wpOpIn (FR rr) 0 T.P ops (Next' T.P w0 G0 H0 e a' H') i K ca w := by
  rw [mem_ready] at hi
  obtain ⟨hi0, o, ho, hi1⟩ := hi
  obtain ⟨x, mk, hx, rfl, F, hm, hmk⟩ := S.at_ i o ho
  have hanc : ∀ k, x.m.testBit k = true → listed.getD k true = true := by
    intro k hk
    obtain ⟨j, j1, j2⟩ := hm k hk
    simp only [afters, List.mem_map, List.mem_filter] at j1
    obtain ⟨ed, ⟨he1, he2⟩, rfl⟩ := j1
    have hl := hi1 ed (by simpa using he1) he2
    have hl' : listed.getD ed.on true = true := by
      simp only [Array.getD_eq_getD_getElem?] at hl ⊢
      cases hq : listed[ed.on]? with
      | none => rfl
      | some b => rw [hq] at hl; simpa using hl
    rcases j2 with rfl | ⟨y, y1, y2⟩
    · exact hl'
    · exact I.cl _ y y1 hl' k y2
  have tk : ∀ {j : Nat} {y : PRec}, (rs.take i)[j]? = some y → j < i ∧ rs[j]? = some y := by
    intro j y h
    rw [List.getElem?_take] at h
    split at h
    · exact ⟨by assumption, h⟩
    · cases h
  have tk' : ∀ {j : Nat} {y : PRec}, j < i → rs[j]? = some y → (rs.take i)[j]? = some y := by
    intro j y h1 h2
    rw [List.getElem?_take, if_pos h1]; exact h2
  have noti : ∀ {k : Nat}, listed.getD k true = true → k ≠ i := by rintro k hk rfl; rw [hi0] at hk; cases hk
  cases hres : x.res with
  | none =>
    exfalso
    have hs := F.skip hres
    unfold stopped at hs
    split at hs
    · rename_i p hp
      rcases bOf_at hp with h | ⟨j, y, h1, h2, h3⟩
      · cases h
      · rw [Nat.zero_add] at h3; subst h3
        have := I.ok _ y (tk h1).2 (hanc _ hs)
        rw [h2] at this
        cases this.2
    · cases hs
  | some eo =>
    obtain ⟨hA, hev, hns⟩ := F.run eo hres
    have hARel : ARel G ca x.A := by
      rw [hA]
      refine I.arel (fun t => (maskT_dom t).trans (tsOf_dom t)) (fun t u hu => ?_)
      rcases maskT_keep hu with h | ⟨h1, h2⟩
      · exact .inl h
      · rcases tsOf_at2 h2 with ⟨j, y, y1, y2, y3⟩ | ⟨h, hno⟩
        · refine .inr (.inl ⟨j, y, (tk y1).2, ?_, y2, y3⟩)
          cases hb : x.m.testBit j with
          | true => exact hanc j hb
          | false => exact absurd (hmk j y t (tk y1).1 (tk y1).2 y2 hb) h1
        · by_cases hany : u = .any
          · exact .inl hany
          refine .inr (.inr ⟨h, fun j y hj hy => ?_⟩)
          cases hlj : listed.getD j true with
          | false => rfl
          | true =>
            exfalso
            have hok := I.ok j y hj hlj
            rcases Nat.lt_trichotomy j i with hlt | rfl | hgt
            · rcases hno j y (tk' hlt hj) hy with hn | hn
              · exact hok.1 hn
              · rw [hok.2] at hn; cases hn
            · rw [hi0] at hlj; cases hlj
            · rcases S.ts j y t u hj hy h with h5 | h5
              · exact hany h5
              · have := I.cl j y hj hlj i (h5 i hgt)
                rw [hi0] at this; cases this
    have hown : Ver H rs x.n x.V := by
      rw [F.n, F.V]
      exact ver_at (fun j y h => (tk h).2)
    have hnx : ∀ (j : Nat) (y : PRec), rs[j]? = some y → y.isHeavy = true → (j < x.n ↔ j < i) := by
      intro j y hj hy
      rw [F.n]
      constructor
      · intro h
        have := nOf_le h
        rw [List.length_take] at this
        omega
      · intro h
        exact nOf_iff (tk' h hj) hy
    have hsame : x.isHeavy = true ∨ x.isBoom = true → n = x.n := by
      intro hx'
      obtain ⟨_, ch⟩ := F.chain hx'
      have key : ∀ (j : Nat) (y : PRec), rs[j]? = some y → y.isHeavy = true → (j < n ↔ j < x.n) := by
        intro j y hj hy
        rw [hnx j y hj hy, ← I.hv j y hj hy]
        constructor
        · intro hl
          have hne := noti hl
          rcases Nat.lt_or_ge j i with h | h
          · exact h
          · exfalso
            have hji : i < j := by omega
            have hjo : j < ops.size := by rw [← S.len]; exact (List.getElem?_eq_some_iff.1 hj).1
            obtain ⟨y', mk', hy', _, F', _, _⟩ := S.at_ j _ (Array.getElem?_eq_getElem hjo)
            rw [hj] at hy'
            simp only [Option.some.injEq] at hy'
            subst hy'
            have hb := (F'.chain (.inl hy)).2 i x (by rw [List.getElem?_take, if_pos hji]; exact hx) hx'
            rw [Nat.zero_add] at hb
            have := I.cl j y hj hl i hb
            rw [hi0] at this; cases this
        · intro h
          have hb := ch j y (tk' h hj) (.inl hy)
          rw [Nat.zero_add] at hb
          exact hanc j hb
      have low : ∀ {n : Nat} {V : AH}, Ver H rs n V → n = 0 ∨ ∃ (k : Nat) (y : PRec), n = k + 1 ∧ rs[k]? = some y ∧ y.isHeavy = true := by
        rintro n V (⟨h, _⟩ | ⟨k, y, u, h1, h2, h3⟩)
        · exact .inl h
        · exact .inr ⟨k, y, h1, h2, by simp [PRec.isHeavy, h3]⟩
      apply Nat.le_antisymm
      · rcases low I.ver with h | ⟨k, y, h1, h2, h3⟩
        · omega
        · have := (key k y h2 h3).1 (by omega)
          omega
      · rcases low hown with h | ⟨k, y, h1, h2, h3⟩
        · omega
        · have := (key k y h2 h3).2 (by omega)
          omega
    have hil : i < listed.size := by
      apply Nat.lt_of_not_le
      intro hle
      rw [Array.getD_eq_getD_getElem?, Array.getElem?_eq_none hle] at hi0
      cases hi0
    have hlen : (rs.take i).length = i := by
      rw [List.length_take]
      have := (List.getElem?_eq_some_iff.1 hx).1
      omega
    rw [hlen, Nat.zero_add] at hev
    -- what stands at the places of the blocks that are made at any time
    have loose : ∀ j, Loose x.m fl.n0 fl.f j → j < V.n := fun j h => by have := I.fn; unfold Loose at h; omega
    have bits : ∀ k, listed.getD k true = false → x.m.testBit k = false := fun k hk => by
      cases hb : x.m.testBit k with
      | false => rfl
      | true => rw [hanc k hb] at hk; cases hk
    have kless : ∀ j, (killM x.m fl.n0 fl.f V).get j = .dead ∨ (killM x.m fl.n0 fl.f V).get j = W.get j := fun j => by
      rw [killM_get, I.wg]
      split
      · exact .inl rfl
      · rename_i h
        split
        · rename_i h2
          exact absurd ⟨h2.1, h2.2.1, bits _ h2.2.2⟩ h
        · exact .inr rfl
    have kn : (killM x.m fl.n0 fl.f V).n = W.n := by rw [killM_n, I.wn]
    have krel : Rel w G (killM x.m fl.n0 fl.f V) := I.rel.less kless kn
    have kdead : ∀ j, (killM x.m fl.n0 fl.f V).get j = if Loose x.m fl.n0 fl.f j then .dead else W.get j := fun j => by
      rw [killM_get, I.wg]
      split
      · rfl
      · rename_i h
        rw [if_neg (fun h2 => h ⟨h2.1, h2.2.1, bits _ h2.2.2⟩)]
    have fr : ∀ {w1 : World} {G1 : Gh} {H1 : AH}, Ext w G (killM x.m fl.n0 fl.f V) w1 G1 H1 → Rel w1 G1 H1 →
        Rel w1 G1 (reviveM x.m fl.n0 W fl.f H1) ∧ Ext w G W w1 G1 (reviveM x.m fl.n0 W fl.f H1) ∧ fl.n0 + fl.f ≤ H1.n := by
      intro w1 G1 H1 e1 r1
      have hn1 : fl.n0 + fl.f ≤ H1.n := by
        have h1 := e1.n
        have h2 := I.fn
        rw [killM_n] at h1
        omega
      obtain ⟨a, b⟩ := Rel.frame (fun j => Loose x.m fl.n0 fl.f j) I.rel kdead kn (fun j h => by rw [I.wn]; exact loose j h) e1 r1 (A1 := reviveM x.m fl.n0 W fl.f H1) (fun j => reviveM_get _ _ _ hn1) (reviveM_n _ _ _ _ _)
      exact ⟨a, b, hn1⟩
    have wg1 : ∀ {H1 V1 : AH}, fl.n0 + fl.f ≤ H1.n → (i < fl.f → V.get (fl.n0 + i) = .dead) → (∀ j, V1.get j = if Loose x.m fl.n0 fl.f j then V.get j else H1.get j) →
        ∀ j : Nat, (reviveM x.m fl.n0 W fl.f H1).get j = if fl.n0 ≤ j ∧ j < fl.n0 + fl.f ∧ (listed.setIfInBounds i true).getD (j - fl.n0) true = false then .dead else V1.get j := by
      intro H1 V1 hn1 hif hV1 j
      rw [reviveM_get _ _ _ hn1, hV1, I.wg, getD_set_bool]
      by_cases hr : fl.n0 ≤ j ∧ j < fl.n0 + fl.f
      · by_cases hij : i = j - fl.n0
        · have hj : j = fl.n0 + i := by omega
          have hlo : Loose x.m fl.n0 fl.f j := ⟨hr.1, hr.2, by rw [← hij]; exact bits _ hi0⟩
          rw [if_pos hlo, if_pos ⟨hr.1, hr.2, by rw [← hij]; exact hi0⟩, if_pos hij, if_neg (fun h => by cases h.2.2), if_pos hlo, hj]
          exact (hif (by omega)).symm
        · rw [if_neg (c := i = j - fl.n0) hij]
          by_cases hl : listed.getD (j - fl.n0) true = false
          · have hlo : Loose x.m fl.n0 fl.f j := ⟨hr.1, hr.2, bits _ hl⟩
            rw [if_pos hlo, if_pos ⟨hr.1, hr.2, hl⟩, if_pos ⟨hr.1, hr.2, hl⟩]
          · rw [if_neg (c := fl.n0 ≤ j ∧ j < fl.n0 + fl.f ∧ _) (fun h => hl h.2.2), if_neg (c := fl.n0 ≤ j ∧ j < fl.n0 + fl.f ∧ _) (fun h => hl h.2.2)]
      · have hlo : ¬ Loose x.m fl.n0 fl.f j := fun h => hr ⟨h.1, h.2.1⟩
        rw [if_neg hlo, if_neg (c := fl.n0 ≤ j ∧ j < fl.n0 + fl.f ∧ _) (fun h => hr ⟨h.1, h.2.1⟩), if_neg hlo]
    have ub : ∀ {w1 : World} {G1 : Gh} {H1 : AH}, Ext w G (killM x.m fl.n0 fl.f V) w1 G1 H1 →
        ∀ k : Nat, k < fl.f → (listed.setIfInBounds i true).getD k true = false → G1.gen (fl.n0 + k) = 0 := by
      intro w1 G1 H1 e1 k hk hl
      rw [getD_set_bool] at hl
      split at hl
      · cases hl
      · have g := I.unb k hk hl
        have hlo : Loose x.m fl.n0 fl.f (fl.n0 + k) := ⟨by omega, by omega, by rw [Nat.add_sub_cancel_left]; exact bits _ hl⟩
        rw [(e1.dead (fl.n0 + k) (by rw [killM_n]; exact loose _ hlo) (by rw [killM_get, if_pos hlo]; rfl)).2]
        exact g
    have nf : ∀ {w1 : World} {G1 : Gh} {H1 V1 : AH}, Ext w G (killM x.m fl.n0 fl.f V) w1 G1 H1 → (∀ j, V1.get j = if Loose x.m fl.n0 fl.f j then V.get j else H1.get j) →
        ∀ (k : Nat) (o : Oper), k < fl.f → ops[k]? = some o → isFl fl k o = false → V1.get (fl.n0 + k) = .dead := by
      intro w1 G1 H1 V1 e1 hV1 k o hk ho' hfo
      have hd := I.nof k o hk ho' hfo
      rw [hV1]
      split
      · exact hd
      · have := (e1.dead (fl.n0 + k) (by rw [killM_n]; have := I.fn; omega) (by rw [killM_get]; split; rfl; rw [hd]; rfl)).1
        revert this
        cases H1.get (fl.n0 + k) <;> simp [AObj.live]
    have heavyless : ∀ {k : Nat} {z : PRec}, rs[k]? = some z → z.isHeavy = true → i ≠ k → x.isHeavy = false → ((if i = k then true else listed.getD k true) = true ↔ k < n) := fun hk hz hne _ => by rw [if_neg hne]; exact I.hv _ _ hk hz
    by_cases hif : (Nat.ble (i + 1) fl.f && isFl fl i x.o) = true
    · -- a block that is made
      have hif' := hif
      simp only [Bool.and_eq_true, Nat.ble_eq] at hif'
      obtain ⟨hlf, hfl⟩ := hif'
      simp only [isFl, Bool.and_eq_true] at hfl
      replace hfl := hfl.1
      have unB : ∀ {V' : AH} {e : EOne}, evOneF T cf yf ops fl i x.m x.A x.o V' = some e → ∃ u ao, e = .light u ∧ aBorn T x.A.eval (fl.n0 + i) x.o.op = some (u, ao) ∧ V'.get (fl.n0 + i) = ao := by
        intro V' e h
        unfold evOneF at h
        rw [hif] at h
        simp only [bornE] at h
        split at h <;> try (cases h; done)
        rename_i u ao hb
        split at h <;> simp only [Option.some.injEq, reduceCtorEq] at h
        exact ⟨u, ao, h.symm, hb, AObj.same_eq (by assumption)⟩
      obtain ⟨u, _, rfl, _, _⟩ := unB hev
      have hev' : evOneF T cf yf ops fl i x.m x.A x.o V = some (.light u) := by
        rcases chk_light S.chk hx hres I.ver with h | ⟨k, y, h1, h2, h3, h4⟩ | ⟨j, y, h1, h2, h3, h4⟩ | h
        · subst h
          rw [I.ver.uniq hown]; exact hev
        · exfalso
          have hl := (I.hv k y h2 h3).2 (by omega)
          have := I.cl k y h2 hl i h4
          rw [hi0] at this; cases this
        · exfalso
          have := (I.hv j y h2 h3).1 (hanc j h4)
          omega
        · exact h
      obtain ⟨u', ao, hu', hb, hV0⟩ := unB hev'
      simp only [EOne.light.injEq] at hu'
      subst hu'
      have g0 := I.unb i (by omega) hi0
      have hWd : W.get (fl.n0 + i) = .dead := by rw [I.wg, if_pos ⟨by omega, by omega, by rw [Nat.add_sub_cancel_left]; exact hi0⟩]
      obtain ⟨v, w1, k, hrun, b1, b2, b3⟩ := aBorn_sound hARel.eval I.rel (s := fl.n0 + i) (by rw [I.wn]; have := I.fn; omega) hWd g0 hb
      have hnh : x.isHeavy = false := by simp [PRec.isHeavy, hres]
      have hgd : x.o.guard = none ∧ ∀ c, x.o.op ≠ .defer c := by
        unfold isFloat at hfl
        split at hfl <;> simp only [Bool.and_eq_true, Option.isNone_iff_eq_none, Bool.false_eq_true] at hfl
        all_goals (rename_i hop; exact ⟨hfl.1, fun c hc => by rw [hop] at hc; cases hc⟩)
      simp only [wpOpIn, ho]
      have hw : Region.wanted x.o (yielded ops ca.tmps) = true := by unfold Region.wanted; rw [hgd.1]
      rw [if_pos hw]
      refine ⟨about_wide rr x.o w _, ?_⟩
      have hsem : x.o.semAt (FR rr).round ca.eval = execOp ca.eval x.o := semAt_eq (.inr hgd.2)
      rw [hsem, hrun]
      refine hK _ _ (G.birth (fl.n0 + i) w.heap.size k) n V (W.set (fl.n0 + i) ao) ?_
      refine I.put S hx hi0 ho hanc (by rw [hres]; simp) (by simp [PRec.isBoom, hres]) (Gh.le_birth g0) (b2 I.ext (Nat.le_trans I.h0 (Nat.le_add_right _ _))) b1 (by rw [AH.set_n]; exact I.wn) (fun j => ?_) I.fn (fun k' hk hl => ?_) I.nof (by simpa [PRec.u, hres] using b3) I.ver (fun j zz hj hz' => ?_)
      · rw [AH.get_set, getD_set_bool]
        by_cases e : j = fl.n0 + i
        · subst e
          rw [if_pos rfl, if_pos (by rw [I.wn]; have := I.fn; omega), if_neg (by rw [Nat.add_sub_cancel_left, if_pos rfl]; rintro ⟨_, _, h⟩; cases h), hV0]
        · rw [if_neg e, I.wg]
          by_cases hr : fl.n0 ≤ j
          · rw [if_neg (c := i = j - fl.n0) (by omega)]
          · rw [if_neg (fun h => hr h.1), if_neg (fun h => hr h.1)]
      · rw [getD_set_bool] at hl
        split at hl
        · cases hl
        · rename_i hne
          have g := I.unb k' hk hl
          show (if fl.n0 + k' = fl.n0 + i then 1 else G.gen (fl.n0 + k')) = 0
          rw [if_neg (by omega)]; exact g
      · split
        · rename_i e; subst e
          rw [hx] at hj; simp only [Option.some.injEq] at hj; subst hj
          rw [hnh] at hz'; cases hz'
        · exact I.hv j zz hj hz'
    have hnf : i < fl.f → V.get (fl.n0 + i) = .dead := fun h => I.nof i x.o h ho (by
      cases hq : isFl fl i x.o with
      | false => rfl
      | true => exact absurd (by rw [hq, Bool.and_true, Nat.ble_eq]; omega) hif)
    have hbf : (Nat.ble (i + 1) fl.f && isFl fl i x.o) = false := by
      rw [Bool.eq_false_iff]; exact hif
    have unF : ∀ {V' : AH} {e : EOne}, evOneF T cf yf ops fl i x.m x.A x.o V' = some e → ∃ e0, evOne T cf yf ops x.A x.o (killM x.m fl.n0 fl.f V') = some e0 ∧ e = e0.revive fl x.m V' := by
      intro V' e h
      unfold evOneF at h
      rw [hbf] at h
      simp only [evOneK] at h
      split at h <;> simp only [Option.some.injEq, reduceCtorEq] at h
      exact ⟨_, by assumption, h.symm⟩
    cases eo with
    | light u =>
      have hev' : evOneF T cf yf ops fl i x.m x.A x.o V = some (.light u) := by
        rcases chk_light S.chk hx hres I.ver with h | ⟨k, y, h1, h2, h3, h4⟩ | ⟨j, y, h1, h2, h3, h4⟩ | h
        · subst h
          rw [I.ver.uniq hown]; exact hev
        · exfalso
          have hl := (I.hv k y h2 h3).2 (by omega)
          have := I.cl k y h2 hl i h4
          rw [hi0] at this; cases this
        · exfalso
          have := (I.hv j y h2 h3).1 (hanc j h4)
          omega
        · exact h
      obtain ⟨e0, he0, hee⟩ := unF hev'
      obtain rfl : e0 = .light u := by cases e0 <;> simp [EOne.revive] at hee; rw [hee]
      have hnh : x.isHeavy = false := by simp [PRec.isHeavy, hres]
      refine evOne_wp hcf hyf ho krel hARel I.rr he0 (fun w1 G1 e1 r1 y hy => ?_)
      obtain ⟨f1, f2, f3⟩ := fr e1 r1
      have hV1 : ∀ j, V.get j = if Loose x.m fl.n0 fl.f j then V.get j else (killM x.m fl.n0 fl.f V).get j := fun j => by
        rw [killM_get]; split <;> rfl
      refine hK _ _ G1 n V (reviveM x.m fl.n0 W fl.f (killM x.m fl.n0 fl.f V)) ?_
      refine I.put S hx hi0 ho hanc (by rw [hres]; simp) (by simp [PRec.isBoom, hres]) e1.le (I.ext.trans f2) f1 (by rw [reviveM_n, killM_n]) (wg1 f3 hnf hV1) I.fn (ub e1) (nf e1 hV1) (by simpa [PRec.u, hres] using hy) I.ver (fun j z hj hz => ?_)
      split
      · rename_i e; subst e
        rw [hx] at hj; simp only [Option.some.injEq] at hj; subst hj
        rw [hnh] at hz; cases hz
      · exact I.hv j z hj hz
    | heavy u V1 =>
      have hh : x.isHeavy = true := by simp [PRec.isHeavy, hres]
      obtain rfl := hsame (.inl hh)
      have hVV := I.ver.uniq hown
      rw [← hVV] at hev
      obtain ⟨e0, he0, hee⟩ := unF hev
      obtain ⟨H1, rfl, rfl⟩ : ∃ H1, e0 = .heavy u H1 ∧ V1 = reviveM x.m fl.n0 V fl.f H1 := by
        cases e0 <;> simp [EOne.revive] at hee
        rename_i u' H1
        exact ⟨H1, by rw [hee.1], hee.2⟩
      refine evOne_wp hcf hyf ho krel hARel I.rr he0 (fun w1 G1 e1 r1 y hy => ?_)
      obtain ⟨f1, f2, f3⟩ := fr e1 r1
      have hV1 : ∀ j, (reviveM x.m fl.n0 V fl.f H1).get j = if Loose x.m fl.n0 fl.f j then V.get j else H1.get j := fun j => reviveM_get _ _ _ f3
      refine hK _ _ G1 (i + 1) (reviveM x.m fl.n0 V fl.f H1) (reviveM x.m fl.n0 W fl.f H1) ?_
      refine I.put S hx hi0 ho hanc (by rw [hres]; simp) (by simp [PRec.isBoom, hres]) e1.le (I.ext.trans f2) f1 (by rw [reviveM_n, reviveM_n]) (wg1 f3 hnf hV1) (by rw [reviveM_n]; exact f3) (ub e1) (nf e1 hV1) (by simpa [PRec.u, hres] using hy) (.inr ⟨i, x, u, rfl, hx, hres⟩) (fun j z hj hz => ?_)
      split
      · rename_i e; subst e; simp
      · rename_i hne
        rw [I.hv j z hj hz, hnx j z hj hz]
        omega
    | boom u V1 =>
      have hh : x.isBoom = true := by simp [PRec.isBoom, hres]
      obtain rfl := hsame (.inr hh)
      have hVV := I.ver.uniq hown
      rw [← hVV] at hev
      obtain ⟨e0, he0, hee⟩ := unF hev
      obtain rfl : e0 = .boom u V1 := by cases e0 <;> simp [EOne.revive] at hee; rw [hee.1, hee.2]
      refine evOne_wp hcf hyf ho krel hARel I.rr he0 (fun w1 G1 e1 r1 y hy => ?_)
      have hfb : findBoom rs = some (u, V1) := findBoom_at hx hres (fun j z hj hz => bOf_none (F.boom hh) j z (tk' hj hz))
      unfold drawEnd at hend
      rw [hfb] at hend
      simp only [Option.some.injEq, Prod.mk.injEq] at hend
      obtain ⟨rfl, rfl, rfl⟩ := hend
      exact ⟨G1, (I.ext.less kless kn).trans e1, r1, (I.arel (fun t => maskT_dom t) (fun t u hu => by
        rcases maskT_keep hu with h | ⟨h3, h4⟩
        · exact .inl h
        · exact .inr (.inr ⟨h4, fun j z hj hz => absurd (mem_dstsP hj hz) h3⟩))).mono e1.le, y, rfl, hy⟩
theorem Inv.done (S : Setup T cf yf ops fl ts df H rs) {e : AExit} {a' : AAct} {H' : AH} (hend : drawEnd ts df H rs = some (e, a', H')) (I : Inv T ops fl ts df H rs w0 G0 H0 rr r listed ca w G n V W)
    (hall : ∀ j, listed.getD j true = true) : Next' T.P w0 G0 H0 e a' H' .normal ca w := by
  have hfb : findBoom rs = none := findBoom_none (fun j y hj => (I.ok j y hj (hall j)).2)
  unfold drawEnd at hend
  rw [hfb] at hend
  simp only [Option.some.injEq, Prod.mk.injEq] at hend
  obtain ⟨rfl, rfl, rfl⟩ := hend
  have hv : Ver H rs (nOf 0 0 rs) (curOf H rs) := ver_at (fun _ _ h => h)
  have hn : n = nOf 0 0 rs := by
    apply Nat.le_antisymm
    · rcases I.ver with ⟨h, _⟩ | ⟨k, y, u, h1, h2, h3⟩
      · omega
      · have := nOf_iff h2 (by simp [PRec.isHeavy, h3]); omega
    · rcases hv with ⟨h, _⟩ | ⟨k, y, u, h1, h2, h3⟩
      · omega
      · have := (I.hv k y h2 (by simp [PRec.isHeavy, h3])).1 (hall k); omega
  have hV : V = curOf H rs := by rw [← hn] at hv; exact I.ver.uniq hv
  subst hV
  have hw : ∀ j, (curOf H rs).get j = W.get j := fun j => by
    rw [I.wg, if_neg (fun h => by rw [hall] at h; cases h.2.2)]
  exact ⟨G, I.ext.heq hw I.wn.symm, I.rel.heq hw I.wn.symm, I.arel (fun t => tsOf_dom t) (fun t u hu => by
    rcases tsOf_at2 hu with ⟨j, y, y1, y2, y3⟩ | ⟨h, hno⟩
    · exact .inr (.inl ⟨j, y, y1, hall j, y2, y3⟩)
    · refine .inr (.inr ⟨h, fun j y hj hy => ?_⟩)
      exfalso
      have hok := I.ok j y hj (hall j)
      rcases hno j y hj hy with hn | hn
      · exact hok.1 hn
      · rw [hok.2] at hn; cases hn), trivial⟩
theorem all_listed (S : Setup T cf yf ops fl ts df H rs) (hs : listed.size = ops.size) (h : Region.ready .any ops listed = []) : ∀ j, listed.getD j true = true := by
  intro j
  induction j using Nat.strongRecOn with
  | _ j ih =>
    cases hl : listed.getD j true with
    | true => rfl
    | false =>
      exfalso
      have hj : j < ops.size := by
        rw [← hs]
        apply Nat.lt_of_not_le
        intro hle
        rw [Array.getD_eq_getD_getElem?, Array.getElem?_eq_none hle] at hl
        cases hl
      have : j ∈ Region.ready .any ops listed := by
        rw [mem_ready]
        refine ⟨hl, _, Array.getElem?_eq_getElem hj, fun ed he hb => ?_⟩
        have hlt : ed.on < j := S.early j _ (Array.getElem?_eq_getElem hj) _ (by
          simp only [afters, List.mem_map, List.mem_filter]
          exact ⟨ed, ⟨by simpa using he, hb⟩, rfl⟩)
        have := ih _ hlt
        have hlt' : ed.on < listed.size := by omega
        rw [Array.getD_eq_getD_getElem?, Array.getElem?_eq_getElem hlt'] at this ⊢
        simpa using this
      rw [h] at this
      cases this
theorem count_set : ∀ {l : List Bool} {i : Nat}, l.getD i true = false → (l.set i true).count false + 1 = l.count false
  | [], i, h => by simp at h
  | b :: l, 0, h => by simp at h; subst h; simp
  | b :: l, i + 1, h => by
    have := count_set (l := l) (i := i) (by simpa using h)
    simp only [List.set_cons_succ, List.count_cons]
    omega
theorem Inv.any (S : Setup T cf yf ops fl ts df H rs) (hcf : ∀ f args H e H', cf f args H = some (e, H') → CallOk T.P f args H e H') (hyf : ∀ id args H e H', yf id args H = some (e, H') → RoundOk T.P id args H e H')
    {e : AExit} {a' : AAct} {H' : AH} (hend : drawEnd ts df H rs = some (e, a', H')) : ∀ (fuel : Nat) (listed : Array Bool) (ca : Act) (w : World) (G : Gh) (n : Nat) (V W : AH), listed.toList.count false ≤ fuel →
      Inv T ops fl ts df H rs w0 G0 H0 rr r listed ca w G n V W → wpAnyIn (FR rr) 0 T.P .any ops (Next' T.P w0 G0 H0 e a' H') fuel listed ca w := by
  intro fuel
  induction fuel with
  | zero =>
    intro listed ca w G n V W hc I
    have hall : ∀ j, listed.getD j true = true := by
      intro j
      cases hl : listed.getD j true with
      | true => rfl
      | false =>
        exfalso
        have : listed.toList.getD j true = false := by rw [← hl]; simp [List.getD_eq_getElem?_getD, Array.getD_eq_getD_getElem?]
        have := count_set this
        omega
    refine ⟨?_, I.done S hend hall⟩
    rw [List.eq_nil_iff_forall_not_mem]
    intro i hi
    rw [mem_ready, hall i] at hi
    cases hi.1
  | succ fuel ih =>
    intro listed ca w G n V W hc I
    refine ⟨fun h => I.done S hend (all_listed S I.size h), fun i hi => I.step S hcf hyf hend hi (fun ca' w' G' n' V' W' I' => ih _ _ _ _ _ _ _ ?_ I')⟩
    rw [mem_ready] at hi
    have : listed.toList.getD i true = false := by rw [← hi.1]; simp [List.getD_eq_getElem?_getD, Array.getD_eq_getD_getElem?]
    have := count_set this
    rw [Array.toList_setIfInBounds]
    omega
end
/-! ### places kept free -/
theorem Rel.reserves {w : World} {G : Gh} {H : AH} (hR : Rel w G H) : ∀ f : Nat, ∃ G' W, Rel w G' W ∧ Ext w G H w G' W ∧ W.n = H.n + f ∧ (∀ j, W.get j = H.get j) ∧ ∀ i, i < f → G'.gen (H.n + i) = 0
  | 0 => ⟨G, H, hR, .refl _ _ _, rfl, fun _ => rfl, fun i h => by omega⟩
  | f + 1 => by
    obtain ⟨G1, W1, r1, e1, n1, g1, z1⟩ := Rel.reserves hR f
    obtain ⟨r2, e2⟩ := r1.reserve
    refine ⟨G1.hold, W1.push .dead, r2, e1.trans e2, by rw [AH.push_n, n1]; rfl, fun j => ?_, fun i hi => ?_⟩
    · rw [AH.get_push]
      split
      · rename_i e
        rw [AH.get_out (by omega)]
      · exact g1 j
    · have hn := r1.n
      by_cases e : i = f
      · subst e; simp [Gh.hold, hn, n1]
      · have : H.n + i ≠ G1.n := by omega
        simp only [Gh.hold, this, if_false]
        exact z1 i (by omega)
theorem births_facts {T : Tab} {ops : List Oper} {a : AAct} {H0 : AH} {b : Nat} : ∀ {f s : Nat} {l : List Oper} {H : AH}, (births T ops a H0 b f s l H).n = H.n + f ∧ (∀ j, ¬ (H.n ≤ j ∧ j < H.n + f) → (births T ops a H0 b f s l H).get j = H.get j) ∧
    ∀ (i : Nat) (o : Oper), i < f → l[i]? = some o → (isFloat o && Nat.testBit b (s + i)) = false → (births T ops a H0 b f s l H).get (H.n + i) = .dead
  | 0, s, l, H => ⟨rfl, fun _ _ => rfl, fun i o h => by omega⟩
  | f + 1, s, [], H => by
    simp only [births]
    obtain ⟨h1, h2, h3⟩ := births_facts (T := T) (ops := ops) (a := a) (H0 := H0) (b := b) (f := f) (s := s + 1) (l := []) (H := H.push .dead)
    rw [AH.push_n] at h1 h2 h3
    refine ⟨by omega, fun j hj => ?_, fun i o hi ho => by simp at ho⟩
    rw [h2 j (by omega), AH.get_push, if_neg (by omega)]
  | f + 1, s, o :: l, H => by
    simp only [births]
    obtain ⟨h1, h2, h3⟩ := births_facts (T := T) (ops := ops) (a := a) (H0 := H0) (b := b) (f := f) (s := s + 1) (l := l) (H := H.push (guessO T ops a H0 b s o))
    rw [AH.push_n] at h1 h2 h3
    refine ⟨by omega, fun j hj => ?_, fun i o' hi ho hfo => ?_⟩
    · rw [h2 j (by omega), AH.get_push, if_neg (by omega)]
    · cases i with
      | zero =>
        simp at ho; subst ho
        rw [h2 _ (by omega), AH.get_push, if_pos (by omega)]
        rw [Nat.add_zero] at hfo
        unfold guessO; rw [hfo]
      | succ i =>
        have := h3 i o' (by omega) (by simpa using ho) (by rw [show s + 1 + i = s + (i + 1) by omega]; exact hfo)
        rw [show H.n + (i + 1) = H.n + 1 + i by omega]; exact this
theorem evDraw1_sound {T : Tab} {cf : CallF} {yf : YldF} {r : Option Nat} {ops : Array Oper} {f : Nat} (hcf : ∀ f args H e H', cf f args H = some (e, H') → CallOk T.P f args H e H') (hyf : ∀ id args H e H', yf id args H = some (e, H') → RoundOk T.P id args H e H')
    {a : AAct} {H : AH} {e : AExit} {a' : AAct} {H' : AH} (h : evDraw1 T cf yf ops f a H = some (e, a', H'))
    {w0 w : World} {G0 G : Gh} {H0 : AH} {ca : Act} {rr : Option Nat} (hE : Ext w0 G0 H0 w G H) (hR : Rel w G H) (hA : ARel G ca a) (hr : RR G rr r) :
    wpAnyIn (FR rr) 0 T.P .any ops (Next' T.P w0 G0 H0 e a' H') ops.size (Array.replicate ops.size false) ca w := by
  unfold evDraw1 at h
  split at h <;> try (cases h; done)
  rename_i hp
  simp only [Bool.and_eq_true, Nat.ble_eq] at hp
  obtain ⟨hp, hfo⟩ := hp
  unfold evDrawB at h
  obtain ⟨b, hbm⟩ : ∃ b, toldOf T ops.toList a H ops.toList = b := ⟨_, rfl⟩
  rw [hbm] at h
  obtain ⟨Hf, hHf⟩ : ∃ Hf, births T ops.toList a H b f 0 ops.toList H = Hf := ⟨_, rfl⟩
  rw [hHf] at h
  unfold evDrawGo at h
  split at h <;> try (cases h; done)
  rename_i rs hrs
  split at h <;> try (cases h; done)
  rename_i hchk
  obtain ⟨b1, b2, b3⟩ := births_facts (T := T) (ops := ops.toList) (a := a) (H0 := H) (b := b) (f := f) (s := 0) (l := ops.toList) (H := H)
  rw [hHf] at b1 b2 b3
  have S := setup_of hp rfl hrs hchk
  obtain ⟨G1, W, r1, e1, n1, g1, z1⟩ := hR.reserves f
  have hA1 : ARel G1 ca a := hA.mono e1.le
  have dom : ∀ t : Nat, (maskT (dstsM (planGo ops.toList []) 0) a.tmps).get t = none ↔ ca.tmps[t]? = none := by
    intro t
    rw [maskT_dom]
    have := hA1.1 t
    rw [Array.getElem?_toList] at this
    cases ht : a.tmps.get t with
    | none => rw [ht] at this; exact ⟨fun _ => this, fun _ => rfl⟩
    | some u =>
      rw [ht] at this
      obtain ⟨y, h1, _⟩ := this
      rw [h1]
      simp
  have hff : ∀ i, i < f → (Array.replicate ops.size false).getD i true = false := fun i hi => by
    simp [Array.getD_eq_getD_getElem?, Nat.lt_of_lt_of_le hi hfo]
  refine Inv.any S hcf hyf h (r := r) _ _ ca w G1 0 Hf W ?_ ⟨hE.trans e1, r1, by omega, fun j => ?_, by show H.n + f ≤ Hf.n; omega, hE.n, fun i hi _ => z1 i hi, fun i o hi ho hfo => b3 i o hi (by rw [Array.getElem?_toList]; exact ho) (by rw [Nat.zero_add]; exact hfo), hr.mono e1.le, .inl ⟨rfl, rfl⟩, by simp, fun j y hj hy => ?_, fun j y hj hl => ?_, fun j y hj hl => ?_, dom, fun t x ht => ⟨fun j y hj hd hl => ?_, fun _ u hu => ?_⟩, hA1.2⟩
  · simp only [Array.toList_replicate]
    exact Nat.le_trans (List.count_le_length) (by simp)
  · rw [g1]
    show H.get j = if H.n ≤ j ∧ j < H.n + f ∧ _ then _ else _
    by_cases hj : H.n ≤ j ∧ j < H.n + f
    · rw [if_pos ⟨hj.1, hj.2, hff (j - H.n) (by omega)⟩, AH.get_out (by omega)]
    · rw [if_neg (fun h => hj ⟨h.1, h.2.1⟩), b2 j hj]
  all_goals try
    have hjo : j < ops.size := by rw [← S.len]; exact (List.getElem?_eq_some_iff.1 hj).1
    have hf : (Array.replicate ops.size false).getD j true = false := by simp [Array.getD_eq_getD_getElem?, hjo]
  · rw [hf]; simp
  · rw [hf] at hl; cases hl
  · rw [hf] at hl; cases hl
  · rw [hf] at hl; cases hl
  · rcases maskT_keep hu with rfl | ⟨_, h2⟩
    · simp [VR]
    · obtain ⟨y, y1, y2⟩ := hA1.1.get h2
      rw [Array.getElem?_toList, ht] at y1
      simp only [Option.some.injEq] at y1
      subst y1
      exact y2
end Go.Proofs.Ytlajcmoiopaemaa
