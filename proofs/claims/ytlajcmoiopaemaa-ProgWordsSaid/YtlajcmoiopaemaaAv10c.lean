/- What is made on the way, and told of no more. No program in sight. -/
import Derived.Test.YtlajcmoiopaemaaAv10
set_option linter.unusedVariables false
set_option linter.unusedSimpArgs false
noncomputable section
namespace Go.Proofs.Ytlajcmoiopaemaa
/-! ### all places that a value tells of lie below n -/
mutual
def AV.under (n : Nat) : AV → Prop
  | .ptr id _ _ => id < n
  | .sl id _ _ _ _ _ => id < n
  | .map id => id < n
  | .yld id => id < n
  | .cptr cs _ => AV.unders n cs
  | .csl cs _ _ _ => AV.unders n cs
  | .fn _ a b => AV.unders n a ∧ AV.unders n b
  | .iface _ u => AV.under n u
  | .agg us => AV.unders n us
  | .tuple us => AV.unders n us
  | .any => True
  | .v _ => True
  | .esl => True
def AV.unders (n : Nat) : List AV → Prop
  | [] => True
  | u :: us => AV.under n u ∧ AV.unders n us
end
def Gh.cut (G : Gh) (n : Nat) : Gh := { G with n := n }
mutual
theorem VR.under {G : Gh} : ∀ (u : AV) (x : Value), VR G x u → AV.under G.n u
  | .any, x, h => by simp only [AV.under]
  | .v y, x, h => by simp only [AV.under]
  | .esl, x, h => by simp only [AV.under]
  | .ptr .., x, h => by simp only [VR] at h; simp only [AV.under]; exact h.1
  | .sl .., x, h => by simp only [VR] at h; simp only [AV.under]; exact h.1
  | .map .., x, h => by simp only [VR] at h; simp only [AV.under]; exact h.1
  | .yld .., x, h => by simp only [VR] at h; simp only [AV.under]; exact h.1
  | .cptr cs o, x, h => by
    simp only [VR] at h; simp only [AV.under]
    obtain ⟨b, base, arr, h1, h2, h3, h4⟩ := h
    exact VRs.under cs _ h4
  | .csl cs o l s, x, h => by
    simp only [VR] at h; simp only [AV.under]
    obtain ⟨b, base, arr, o, cap, h1, h2, h3, h4, h5, h6⟩ := h
    exact VRs.under cs _ h6
  | .fn f a b, x, h => by
    simp only [VR] at h; simp only [AV.under]
    obtain ⟨p, q, h1, h2, h3⟩ := h
    exact ⟨VRs.under a _ h2, VRs.under b _ h3⟩
  | .iface t u, x, h => by
    simp only [VR] at h; simp only [AV.under]
    obtain ⟨y, h1, h2⟩ := h
    exact VR.under u _ h2
  | .agg us, x, h => by
    simp only [VR] at h; simp only [AV.under]
    obtain ⟨y, h1, h2⟩ := h
    exact VRs.under us _ h2
  | .tuple us, x, h => by
    simp only [VR] at h; simp only [AV.under]
    obtain ⟨y, h1, h2⟩ := h
    exact VRs.under us _ h2
theorem VRs.under {G : Gh} : ∀ (us : List AV) (xs : List Value), VRs G xs us → AV.unders G.n us
  | [], xs, h => by simp only [AV.unders]
  | u :: us, xs, h => by
    simp only [VRs] at h; simp only [AV.unders]
    obtain ⟨y, ys, h1, h2, h3⟩ := h
    exact ⟨VR.under u _ h2, VRs.under us _ h3⟩
end
mutual
theorem VR.cut {G : Gh} {n : Nat} : ∀ (u : AV) (x : Value), VR G x u → AV.under n u → VR (G.cut n) x u
  | .any, x, h, k => by simp only [VR]
  | .v y, x, h, k => by simp only [VR] at h ⊢; exact h
  | .esl, x, h, k => by simp only [VR] at h ⊢; exact h
  | .ptr .., x, h, k => by simp only [VR] at h ⊢; simp only [AV.under] at k; exact ⟨k, h.2⟩
  | .sl .., x, h, k => by simp only [VR] at h ⊢; simp only [AV.under] at k; exact ⟨k, h.2⟩
  | .map .., x, h, k => by simp only [VR] at h ⊢; simp only [AV.under] at k; exact ⟨k, h.2⟩
  | .yld .., x, h, k => by simp only [VR] at h ⊢; simp only [AV.under] at k; exact ⟨k, h.2⟩
  | .cptr cs o, x, h, k => by
    simp only [VR] at h ⊢; simp only [AV.under] at k
    obtain ⟨b, base, arr, h1, h2, h3, h4⟩ := h
    exact ⟨b, base, arr, h1, h2, h3, VRs.cut cs _ h4 k⟩
  | .csl cs o l s, x, h, k => by
    simp only [VR] at h ⊢; simp only [AV.under] at k
    obtain ⟨b, base, arr, o, cap, h1, h2, h3, h4, h5, h6⟩ := h
    exact ⟨b, base, arr, o, cap, h1, h2, h3, h4, h5, VRs.cut cs _ h6 k⟩
  | .fn f a b, x, h, k => by
    simp only [VR] at h ⊢; simp only [AV.under] at k
    obtain ⟨p, q, h1, h2, h3⟩ := h
    exact ⟨p, q, h1, VRs.cut a _ h2 k.1, VRs.cut b _ h3 k.2⟩
  | .iface t u, x, h, k => by
    simp only [VR] at h ⊢; simp only [AV.under] at k
    obtain ⟨y, h1, h2⟩ := h
    exact ⟨y, h1, VR.cut u _ h2 k⟩
  | .agg us, x, h, k => by
    simp only [VR] at h ⊢; simp only [AV.under] at k
    obtain ⟨y, h1, h2⟩ := h
    exact ⟨y, h1, VRs.cut us _ h2 k⟩
  | .tuple us, x, h, k => by
    simp only [VR] at h ⊢; simp only [AV.under] at k
    obtain ⟨y, h1, h2⟩ := h
    exact ⟨y, h1, VRs.cut us _ h2 k⟩
theorem VRs.cut {G : Gh} {n : Nat} : ∀ (us : List AV) (xs : List Value), VRs G xs us → AV.unders n us → VRs (G.cut n) xs us
  | [], xs, h, k => by simp only [VRs] at h ⊢; exact h
  | u :: us, xs, h, k => by
    simp only [VRs] at h ⊢; simp only [AV.unders] at k
    obtain ⟨y, ys, h1, h2, h3⟩ := h
    exact ⟨y, ys, h1, VR.cut u _ h2 k.1, VRs.cut us _ h3 k.2⟩
end
section
variable {w w1 : World} {G G1 : Gh} {A A1 : AH}
theorem TRel.cut {ts ts1 : List Value} {t : HT AV} (h : TRel G ts t) (h1 : TRel G1 ts1 t) : TRel (G1.cut G.n) ts1 t := by
  intro i
  have a := h i
  have b := h1 i
  cases ht : t.get i with
  | none => rw [ht] at b; exact b
  | some u =>
    rw [ht] at a b
    obtain ⟨y, _, a2⟩ := a
    obtain ⟨z, b1, b2⟩ := b
    exact ⟨z, b1, VR.cut u _ b2 (VR.under u _ a2)⟩
theorem DRs.cut : ∀ {es : List ADef} {ds ds1 : List Deferred}, DRs G ds es → DRs G1 ds1 es → DRs (G1.cut G.n) ds1 es
  | [], _, _, _, h => h
  | e :: es, _, _, ⟨d, r, _, a2, a3⟩, ⟨d1, r1, b1, b2, b3⟩ => by
    refine ⟨d1, r1, b1, ?_, DRs.cut a3 b3⟩
    cases e with
    | call f caps args =>
      obtain ⟨a, b, _, h1, h2⟩ := a2
      obtain ⟨a', b', h0, h3, h4⟩ := b2
      exact ⟨a', b', h0, VRs.cut _ _ h3 (VRs.under _ _ h1), VRs.cut _ _ h4 (VRs.under _ _ h2)⟩
    | mark id =>
      obtain ⟨h1, _⟩ := a2
      obtain ⟨_, h2, h3⟩ := b2
      exact ⟨h1, h2, h3⟩
theorem ERs.cut : ∀ {es : List AEnt} {ms ms1 : List MapEntry}, ERs G ms es → ERs G1 ms1 es → ERs (G1.cut G.n) ms1 es
  | [], _, _, _, h => h
  | e :: es, _, _, ⟨v, r, _, a2, a3⟩, ⟨v1, r1, b1, b2, b3⟩ => ⟨v1, r1, b1, VR.cut _ _ b2 (VR.under _ _ a2), ERs.cut a3 b3⟩
/-- an object that is told of as before -/
theorem OR.cut {id : Nat} {o : AObj} (h : OR w G id o) (h1 : OR w1 G1 id o) : OR w1 (G1.cut G.n) id o := by
  cases o with
  | dead => trivial
  | cells cs g x =>
    obtain ⟨_, arr, t, fr, _, _, _, _, a5, _⟩ := h
    obtain ⟨b0, arr1, t1, fr1, b1, b2, b3, b4, b5, b6⟩ := h1
    exact ⟨b0, arr1, t1, fr1, b1, b2, b3, b4, VRs.cut _ _ b5 (VRs.under _ _ a5), b6⟩
  | map es clock =>
    obtain ⟨_, _, _, a3⟩ := h
    obtain ⟨b1, ents, b2, b3⟩ := h1
    exact ⟨b1, ents, b2, ERs.cut a3 b3⟩
  | strIter s pos => exact h1
  | mapIter m since seen last =>
    obtain ⟨_, _, mm, _, a4⟩ := h
    obtain ⟨b1, b2, mm1, b3, b4⟩ := h1
    refine ⟨b1, b2, mm1, b3, ?_⟩
    cases m with
    | none => exact b4
    | some k => exact ⟨a4.1, b4.2⟩
  | loop l =>
    obtain ⟨_, a2, _, ts, dd, fn, _, a4, _⟩ := h
    obtain ⟨b1, _, b3, ts1, dd1, fn1, b4, b5, b6⟩ := h1
    exact ⟨b1, a2, b3, ts1, dd1, fn1, b4, a4.cut b5, b6⟩
  | deferred ds =>
    obtain ⟨_, cs, _, a3⟩ := h
    obtain ⟨b1, cs1, b2, b3⟩ := h1
    exact ⟨b1, cs1, b2, a3.cut b3⟩
  | mapAt m born last =>
    obtain ⟨_, _, _, _, _, _, a5, _⟩ := h
    obtain ⟨b1, b2, mm1, s1, se1, b3, _, b5⟩ := h1
    exact ⟨b1, b2, mm1, s1, se1, b3, a5, b5⟩
theorem Rel.cut (hA : Rel w G A) (hA1 : Rel w1 G1 A1) (e : Ext w G A w1 G1 A1) (h : ∀ j, j < A.n → A1.get j = A.get j) : Rel w1 (G1.cut G.n) A ∧ Ext w G A w1 (G1.cut G.n) A := by
  have hn := hA.n
  have hlt : ∀ {j}, (A.get j).live = true → j < A.n := fun {j} hl => AH.lt_of_get (by intro e; rw [e] at hl; cases hl)
  have up : ∀ {j}, (A.get j).live = true → (A1.get j).live = true := fun {j} hl => by rw [h j (hlt hl)]; exact hl
  refine ⟨⟨hn, fun id hid => ?_, fun id hl => hA1.born id (up hl), fun id hid hg => hA1.blt' id (Nat.lt_of_lt_of_le hid e.n) hg, fun i j hi hj he => hA1.inj i j (up hi) (up hj) he, fun i hi => hA1.zout i (up hi), hA1.zin⟩, ⟨⟨Nat.le_refl _, e.le.gen, e.le.same, e.le.z⟩, e.os, e.tape, e.output, e.size, e.keep, fun id hl => e.fresh id (up hl), Nat.le_refl _, e.zold, fun i hi hd => ⟨hd, (e.dead i hi hd).2⟩⟩⟩
  have := hA1.obj id (Nat.lt_of_lt_of_le hid e.n)
  rw [h id hid] at this
  exact (hA.obj id hid).cut this
end
end Go.Proofs.Ytlajcmoiopaemaa
