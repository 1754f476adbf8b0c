/- Calls that are run once, each by itself, and laid side by side: what a call was not told of stays as it is, what nobody asks for again is forgotten. No program in sight. -/
import Derived.Test.YtlajcmoiopaemaaAv18
set_option linter.unusedVariables false
set_option linter.unusedSimpArgs false
noncomputable section
namespace Go.Proofs.Ytlajcmoiopaemaa
/-- a call: its arguments and the objects that it is told of, what it comes to and what they are then -/
structure Chunk where
  f : FuncId
  args : List AV
  n : Nat
  pre : List (Nat × AObj)
  r : AEnd
  n' : Nat
  post : List (Nat × AObj)
def putL : List (Nat × AObj) → HT AObj → HT AObj
  | [], t => t
  | p :: l, t => HT.put (p.1 + 1) (putL l t) p.1 p.2
def findL (j : Nat) : List (Nat × AObj) → Option AObj
  | [] => none
  | p :: l => if j = p.1 then some p.2 else findL j l
theorem get_putL (j : Nat) : ∀ (l : List (Nat × AObj)) (t : HT AObj), (putL l t).get j = match findL j l with | some o => some o | none => t.get j
  | [], t => rfl
  | p :: l, t => by
    simp only [putL, findL]
    rw [HT.get_put _ _ _ _ _ (Nat.lt_succ_self p.1), get_putL j l t]
    by_cases h : j = p.1
    · rw [if_pos h, if_pos h]
    · rw [if_neg h, if_neg h]
theorem findL_some {j : Nat} {o : AObj} : ∀ {l : List (Nat × AObj)}, findL j l = some o → (j, o) ∈ l
  | [], h => by cases h
  | p :: l, h => by
    simp only [findL] at h
    split at h
    · rename_i e
      simp only [Option.some.injEq] at h
      subst h; subst e
      simp
    · exact List.mem_cons_of_mem _ (findL_some h)
theorem findL_none {j : Nat} : ∀ {l : List (Nat × AObj)}, findL j l = none → ∀ p ∈ l, p.1 ≠ j
  | [], _, p, hp => by cases hp
  | q :: l, h, p, hp => by
    simp only [findL] at h
    split at h
    · cases h
    · rename_i e
      rcases List.mem_cons.1 hp with rfl | hp
      · exact fun e2 => e e2.symm
      · exact findL_none h p hp
def clean : HT AObj → Nat → Bool
  | .e, _ => true
  | .n l o r, k => (match o with | none => true | some _ => Nat.ble 1 k) && (clean l (Nat.div k 2) && clean r (Nat.div (Nat.sub k 1) 2))
theorem clean_get : ∀ {t : HT AObj} {k : Nat}, clean t k = true → ∀ j, k ≤ j → t.get j = none
  | .e, _, _, _, _ => rfl
  | .n l o r, k, h, j, hj => by
    simp only [clean, Bool.and_eq_true] at h
    obtain ⟨h0, h1, h2⟩ := h
    rcases HT.three j with rfl | hk | ⟨hk, hk0⟩
    · rw [HT.get_zero]
      cases o with
      | none => rfl
      | some o =>
        simp only at h0
        have : 1 ≤ k := by rw [← Nat.ble_eq]; exact h0
        omega
    · rw [HT.get_odd hk]
      have : k / 2 ≤ j / 2 := by omega
      exact clean_get h1 _ this
    · rw [HT.get_even hk hk0]
      have : (k - 1) / 2 ≤ j / 2 - 1 := by omega
      exact clean_get h2 _ this
def preOk (H : AH) : List (Nat × AObj) → Bool
  | [] => true
  | p :: l => AObj.same (H.get p.1) p.2 && preOk H l
theorem preOk_mem {H : AH} : ∀ {l : List (Nat × AObj)}, preOk H l = true → ∀ p ∈ l, H.get p.1 = p.2
  | [], _, p, hp => by cases hp
  | q :: l, h, p, hp => by
    simp only [preOk, Bool.and_eq_true] at h
    rcases List.mem_cons.1 hp with rfl | hp
    · exact AObj.same_eq h.1
    · exact preOk_mem h.2 p hp
def hasId (j : Nat) : List (Nat × AObj) → Bool
  | [] => false
  | p :: l => Nat.beq j p.1 || hasId j l
theorem hasId_mem {j : Nat} : ∀ {l : List (Nat × AObj)}, hasId j l = true ↔ ∃ o, (j, o) ∈ l
  | [] => by simp [hasId]
  | p :: l => by
    simp only [hasId, Bool.or_eq_true, Nat.beq_eq, hasId_mem (l := l), List.mem_cons]
    constructor
    · rintro (rfl | ⟨o, ho⟩)
      · exact ⟨p.2, .inl rfl⟩
      · exact ⟨o, .inr ho⟩
    · rintro ⟨o, rfl | ho⟩
      · exact .inl rfl
      · exact .inr ⟨o, ho⟩
/-- its shape: what was there before is told of afterwards too, and nothing else that was there is -/
def Chunk.shape (c : Chunk) : Bool := c.pre.all (fun p => Nat.ble (p.1 + 1) c.n && hasId p.1 c.post) && (c.post.all (fun p => Nat.ble (p.1 + 1) c.n' && (Nat.ble c.n p.1 || hasId p.1 c.pre)) && Nat.ble c.n c.n')
def Chunk.preH (c : Chunk) : AH := ⟨putL c.pre .e, c.n⟩
def Chunk.postH (c : Chunk) : AH := ⟨putL c.post .e, c.n'⟩
def Chunk.fits (c : Chunk) (args : List AV) (H : AH) : Bool := Nat.beq c.n H.n && (AV.sames args c.args && (preOk H c.pre && clean H.t H.n))
def Chunk.out (c : Chunk) (H : AH) : AH := ⟨putL c.post H.t, c.n'⟩
def chunkC : List Chunk → CallF
  | [], _, _, _ => none
  | c :: l, f, args, H => match Nat.beq c.f f with
    | true => match c.fits args H with
      | true => some (c.r, c.out H)
      | false => chunkC l f args H
    | false => chunkC l f args H
def Chunk.ok (P : Program) (c : Chunk) : Prop := c.shape = true ∧ CallOk P c.f c.args c.preH c.r c.postH
theorem AH.get_putL (l : List (Nat × AObj)) (n j : Nat) : (AH.mk (putL l .e) n).get j = if j < n then (findL j l).getD .dead else .dead := by
  rw [AH.get_eq]
  simp only [_root_.Go.Proofs.Ytlajcmoiopaemaa.get_putL]
  cases findL j l <;> rfl
theorem Chunk.frame {P : Program} {c : Chunk} (h : c.ok P) {args : List AV} {H : AH} (hf : c.fits args H = true) : CallOk P c.f args H c.r (c.out H) := by
  obtain ⟨hsh, hc⟩ := h
  simp only [Chunk.fits, Bool.and_eq_true, Nat.beq_eq] at hf
  obtain ⟨hn, ha, hp, hcl⟩ := hf
  obtain rfl := AV.sames_eq _ _ ha
  have hpre := preOk_mem hp
  have hjunk := clean_get hcl
  simp only [Chunk.shape, Bool.and_eq_true, List.all_eq_true, Nat.ble_eq, Bool.or_eq_true] at hsh
  obtain ⟨s1, s2, s3⟩ := hsh
  have hlive : ∀ j, findL j c.pre = none → c.preH.get j = .dead := fun j h => by
    unfold Chunk.preH; rw [AH.get_putL, h]; simp
  have hhere : ∀ j o, findL j c.pre = some o → c.preH.get j = H.get j ∧ j < c.n := fun j o h => by
    have hm := findL_some h
    have hlt := (s1 _ hm).1
    unfold Chunk.preH; rw [AH.get_putL, h, if_pos (show j < c.n from hlt)]
    exact ⟨(hpre _ hm).symm, hlt⟩
  intro w G cargs hR hv
  have hB : ∀ j, c.preH.get j = if (j < c.n ∧ findL j c.pre = none) then .dead else H.get j := fun j => by
    cases hfj : findL j c.pre with
    | none =>
      rw [hlive j hfj]
      split
      · rfl
      · rename_i hh
        have : ¬ j < H.n := fun h => hh ⟨by omega, rfl⟩
        exact (AH.get_out this).symm
    | some o =>
      rw [if_neg (by simp)]
      exact (hhere j o hfj).1
  have hRB : Rel w G c.preH := hR.less (fun j => by
    rw [hB]; split
    · exact .inl rfl
    · exact .inr rfl) hn
  refine (hc w G cargs hRB hv).mono ?_
  rintro ce w1 ⟨G1, e1, r1, hend⟩
  have := Rel.frame (A := H) (B := c.preH) (A1 := c.out H) (fun j => j < c.n ∧ findL j c.pre = none) hR hB hn (fun j hj => by omega) e1 r1 (fun j => by
    unfold Chunk.out Chunk.postH
    rw [AH.get_putL, AH.get_eq]
    simp only [_root_.Go.Proofs.Ytlajcmoiopaemaa.get_putL]
    cases hp : findL j c.post with
    | some o =>
      have hm := findL_some hp
      obtain ⟨q1, q2⟩ := s2 _ hm
      have : ¬ (j < c.n ∧ findL j c.pre = none) := by
        rintro ⟨h1, h2⟩
        rcases q2 with q2 | q2
        · simp only at q2; omega
        · obtain ⟨o', ho'⟩ := hasId_mem.1 q2
          exact findL_none h2 _ ho' rfl
      rw [if_neg this]
    | none =>
      by_cases hS : j < c.n ∧ findL j c.pre = none
      · rw [if_pos hS, if_pos (by omega), AH.get_eq, if_pos (by omega)]
      · rw [if_neg hS]
        have hge : ¬ j < c.n := by
          intro hlt
          cases hq : findL j c.pre with
          | none => exact hS ⟨hlt, hq⟩
          | some o =>
            obtain ⟨o', ho'⟩ := hasId_mem.1 (s1 _ (findL_some hq)).2
            exact findL_none hp _ ho' rfl
        rw [hjunk j (by omega)]) rfl
  exact ⟨G1, this.2, this.1, hend⟩
theorem chunkC_ok {P : Program} : ∀ {l : List Chunk}, (∀ c ∈ l, c.ok P) → ∀ f args H r H', chunkC l f args H = some (r, H') → CallOk P f args H r H'
  | [], _, _, _, _, _, _, h => by cases h
  | c :: l, hl, f, args, H, r, H', h => by
    simp only [chunkC] at h
    split at h
    · rename_i hf
      rw [Nat.beq_eq] at hf
      subst hf
      split at h
      · rename_i hfit
        simp only [Option.some.injEq, Prod.mk.injEq] at h
        obtain ⟨rfl, rfl⟩ := h
        exact Chunk.frame (hl c (by simp)) hfit
      · exact chunkC_ok (fun c hc => hl c (by simp [hc])) _ _ _ _ _ h
    · exact chunkC_ok (fun c hc => hl c (by simp [hc])) _ _ _ _ _ h
def AEnd.same : AEnd → AEnd → Bool
  | .ret u, .ret v => AV.same u v
  | .panic u, .panic v => AV.same u v
  | _, _ => false
theorem AEnd.same_eq {a b : AEnd} (h : AEnd.same a b = true) : a = b := by
  cases a <;> cases b <;> simp only [AEnd.same, Bool.false_eq_true] at h <;> rw [AV.same_eq _ _ h]
def deadO : AObj → Bool
  | .dead => true
  | _ => false
def postOk (H : AH) : List (Nat × AObj) → Bool
  | [] => true
  | p :: l => (match deadO p.2 with | true => true | false => AObj.same (H.get p.1) p.2) && postOk H l
theorem postOk_mem {H : AH} : ∀ {l : List (Nat × AObj)}, postOk H l = true → ∀ p ∈ l, p.2 = .dead ∨ H.get p.1 = p.2
  | [], _, p, hp => by cases hp
  | q :: l, h, p, hp => by
    simp only [postOk, Bool.and_eq_true] at h
    rcases List.mem_cons.1 hp with rfl | hp
    · have := h.1
      split at this
      · rename_i hd
        refine .inl ?_
        revert hd
        cases p.2 <;> simp [deadO]
      · exact .inr (AObj.same_eq this)
    · exact postOk_mem h.2 p hp
def Chunk.came (c : Chunk) : FRes → Bool
  | some (r, H) => AEnd.same r c.r && (Nat.beq H.n c.n' && postOk H c.post)
  | none => false
theorem Chunk.made {T : Tab} {C : CallF} {n : Nat} (hC : ∀ f args H r H', C f args H = some (r, H') → CallOk T.P f args H r H') (hm : T.P.follows .mixedOrders = true) {c : Chunk} (hs : c.shape = true) (h : c.came ((evF T C (evDrawX T) n).F c.f c.args c.preH) = true) : c.ok T.P := by
  refine ⟨hs, ?_⟩
  rw [evF_eq, evDrawX_eq] at h
  cases hr : (evN T C (evDraw T) n).F c.f c.args c.preH with
  | none => rw [hr] at h; cases h
  | some p =>
    obtain ⟨r, H'⟩ := p
    rw [hr] at h
    simp only [Chunk.came, Bool.and_eq_true, Nat.beq_eq] at h
    obtain ⟨h1, h2, h3⟩ := h
    obtain rfl := AEnd.same_eq h1
    have E := (evN_ok (T := T) (C := C) hC (evDraw_ok hm) n).F _ _ _ _ _ hr
    have hl : ∀ j, c.postH.get j = .dead ∨ c.postH.get j = H'.get j := fun j => by
      unfold Chunk.postH
      rw [AH.get_putL]
      split
      · cases hf : findL j c.post with
        | none => exact .inl rfl
        | some o =>
          rcases postOk_mem h3 _ (findL_some hf) with e | e
          · simp only at e; subst e; exact .inl rfl
          · exact .inr e.symm
      · exact .inl rfl
    intro w G cargs hR hv
    refine (E w G cargs hR hv).mono ?_
    rintro ce w1 ⟨G1, e1, r1, hend⟩
    exact ⟨G1, e1.less hl h2.symm, r1.less hl h2.symm, hend⟩
theorem closed_callC {T : Tab} {C : CallF} (hC : ∀ f args H r H', C f args H = some (r, H') → CallOk T.P f args H r H') (hm : T.P.follows .mixedOrders = true) {n : Nat} {f : FuncId} (h : isTrue ((evF T C (evDrawX T) n).F f [] AH.empty) = true) (w : World) :
    Calls T.P f #[] w fun ce w' => ce = .returned (.bool true) ∧ Go.RowKit.Below w.heap.size w w' := by
  obtain ⟨H', h⟩ := isTrue_some h
  rw [evF_eq, evDrawX_eq] at h
  have E := evN_ok (T := T) (C := C) hC (evDraw_ok hm) n
  refine Calls.mono (E.F _ _ _ _ _ h w Gh.none #[] (Rel.start w) rfl) ?_
  rintro ce w' ⟨G', e1, _, hend⟩
  cases ce <;> simp only [EndRel] at hend
  simp only [VR] at hend
  exact ⟨by rw [hend], e1.os, e1.tape, e1.output, e1.size, fun k hk => e1.keep k hk (fun id hl => by rw [AH.get_out (Nat.not_lt_zero _)] at hl; cases hl)⟩
end Go.Proofs.Ytlajcmoiopaemaa
