/- Calls that are known by what their arguments hold: run once in an empty heap, they serve in every heap, and leave it as it is. No program in sight. -/
import Derived.Test.YtlajcmoiopaemaaAv19
set_option linter.unusedVariables false
set_option linter.unusedSimpArgs false
noncomputable section
namespace Go.Proofs.Ytlajcmoiopaemaa
/-! ### does a value hold this? ids: what stands in an object may be read; con: what never changes may stand for itself -/
mutual
def holds (ids con : Bool) (H : AH) : AV → AV → Bool
  | .any, _ => true
  | .v y, u => match AV.toV u with
    | some x => vsame x y
    | none => false
  | .esl, u => match u with
    | .esl => true
    | _ => false
  | .cptr cs o, u => match u with
    | .cptr us o' => con && (Nat.beq o o' && holdss ids con H cs us)
    | .ptr id g o' => ids && (Nat.beq o o' && match H.get id with
      | .cells us g' _ => Nat.beq g g' && holdss ids con H cs us
      | _ => false)
    | _ => false
  | .csl cs o len sz, u => match u with
    | .csl us o' len' sz' => con && (Nat.beq o o' && Nat.beq len len' && Nat.beq sz sz' && holdss ids con H cs us)
    | .sl id g o' len' sz' rm => ids && (Nat.beq o o' && Nat.beq len len' && Nat.beq sz sz' && match H.get id with
      | .cells us g' _ => Nat.beq g g' && holdss ids con H cs us
      | _ => false)
    | _ => false
  | .iface t c, u => match AV.norm u with
    | .iface t' x => Nat.beq t t' && holds ids con H c x
    | _ => false
  | .agg cs, u => match AV.norm u with
    | .agg us => holdss ids con H cs us
    | _ => false
  | .tuple cs, u => match AV.norm u with
    | .tuple us => holdss ids con H cs us
    | _ => false
  | .fn (.func f) a b, u => match AV.norm u with
    | .fn (.func f') a' b' => Nat.beq f f' && (holdss ids con H a a' && holdss ids con H b b')
    | _ => false
  | _, _ => false
def holdss (ids con : Bool) (H : AH) : List AV → List AV → Bool
  | [], [] => true
  | c :: cs, u :: us => holds ids con H c u && holdss ids con H cs us
  | _, _ => false
end
/-- nothing but what lies for good -/
def Gh.ofZ (Z : Nat → Option (List Value)) : Gh := ⟨0, fun _ => 0, fun _ => 0, fun _ => 0, Z, fun _ => 0⟩
section
variable {w : World} {G : Gh} {H : AH} {ids con : Bool} {Z : Nat → Option (List Value)}
structure Sees (w : World) (G : Gh) (H : AH) (ids con : Bool) (Z : Nat → Option (List Value)) : Prop where
  rel : Rel w G H
  z : con = true → ∀ b a, G.z b = some a → Z b = some a
  o : ids = true → ∀ id cs g x, H.get id = .cells cs g x → ∀ arr t fr, w.heap[G.blk id]? = some (.cells arr t fr) → Z (G.blk id) = some arr.toList
theorem Sees.cells (S : Sees w G H ids con Z) (hi : ids = true) {id g x : Nat} {us : List AV} (hlt : id < G.n) (h : H.get id = .cells us g x) :
    g = G.gen id ∧ ∃ arr : List Value, Z (G.blk id) = some arr ∧ G.base id + us.length ≤ arr.length ∧ VRs G ((arr.drop (G.base id)).take us.length) us := by
  have := S.rel.obj id (by rw [← S.rel.n]; exact hlt)
  rw [h] at this
  obtain ⟨h1, arr, t, fr, h2, _, _, h4, h5, _⟩ := this
  exact ⟨h1, arr.toList, S.o hi id us g x h arr t fr h2, by simpa using h4, h5⟩
mutual
theorem holds_vr (S : Sees w G H ids con Z) : ∀ (c u : AV) (x : Value), VR G x u → holds ids con H c u = true → VR (Gh.ofZ Z) x c
  | .any, u, x, hx, h => by simp only [VR]
  | .v y, u, x, hx, h => by
    simp only [holds] at h
    split at h
    · rename_i z hz
      have := VR.toV u x z hx hz
      rw [vsame_eq h] at this
      simp only [VR]; exact this
    · cases h
  | .esl, u, x, hx, h => by
    simp only [holds] at h
    split at h
    · simp only [VR] at hx ⊢; exact hx
    · cases h
  | .cptr cs o, u, x, hx, h => by
    simp only [holds] at h
    split at h
    · rename_i us o'
      simp only [Bool.and_eq_true, Nat.beq_eq] at h
      obtain ⟨hc, rfl, h⟩ := h
      simp only [VR] at hx ⊢
      obtain ⟨b, base, arr, h1, h2, h3, h4⟩ := hx
      have hv := holdss_vr S cs us _ h4 h
      have hl : us.length = cs.length := by rw [← h4.length, ← hv.length]
      rw [hl] at h3 hv
      exact ⟨b, base, arr, S.z hc b arr h1, h2, h3, hv⟩
    · rename_i id g o'
      simp only [Bool.and_eq_true, Nat.beq_eq] at h
      obtain ⟨hi, rfl, h⟩ := h
      split at h
      · rename_i us g' xx hg
        simp only [Bool.and_eq_true, Nat.beq_eq] at h
        obtain ⟨rfl, h⟩ := h
        simp only [VR] at hx ⊢
        obtain ⟨h1, h2, a, rfl, h4⟩ := hx
        obtain ⟨e1, arr, e2, e3, e4⟩ := S.cells hi h1 hg
        have hv := holdss_vr S cs us _ e4 h
        have hl : us.length = cs.length := by rw [← e4.length, ← hv.length]
        rw [hl] at e3 hv
        exact ⟨G.blk id, G.base id, arr, e2, by rw [h4 e1], e3, hv⟩
      · cases h
    · cases h
  | .csl cs o len sz, u, x, hx, h => by
    simp only [holds] at h
    split at h
    · rename_i us o' len' sz'
      simp only [Bool.and_eq_true, Nat.beq_eq] at h
      obtain ⟨hc, ⟨⟨rfl, rfl⟩, rfl⟩, h⟩ := h
      simp only [VR] at hx ⊢
      obtain ⟨b, base, arr, oo, cap, h1, h2, h3, h4, h5, h6⟩ := hx
      have hv := holdss_vr S cs us _ h6 h
      have hl : us.length = cs.length := by rw [← h6.length, ← hv.length]
      rw [hl] at h5 hv
      exact ⟨b, base, arr, oo, cap, S.z hc b arr h1, h2, h3, h4, h5, hv⟩
    · rename_i id g o' len' sz' rm
      simp only [Bool.and_eq_true, Nat.beq_eq] at h
      obtain ⟨hi, ⟨⟨rfl, rfl⟩, rfl⟩, h⟩ := h
      split at h
      · rename_i us g' xx hg
        simp only [Bool.and_eq_true, Nat.beq_eq] at h
        obtain ⟨rfl, h⟩ := h
        simp only [VR] at hx ⊢
        obtain ⟨h1, h2, a, cap, rfl, h4, h5⟩ := hx
        obtain ⟨e1, arr, e2, e3, e4⟩ := S.cells hi h1 hg
        have hv := holdss_vr S cs us _ e4 h
        have hl : us.length = cs.length := by rw [← e4.length, ← hv.length]
        rw [hl] at e3 hv
        obtain ⟨k1, k2, k3⟩ := h5 e1
        obtain ⟨ab, ao, asp⟩ := a
        simp only at k1 k2 k3
        subst k1; subst k2
        exact ⟨G.blk id, G.base id, arr, ao, cap, e2, rfl, Nat.le_trans h4.1 h4.2, fun hne => (k3 (by omega)).1, e3, hv⟩
      · cases h
    · cases h
  | .iface t c, u, x, hx, h => by
    simp only [holds] at h
    have hn := hx.norm
    split at h
    · rename_i t' x' hu
      simp only [Bool.and_eq_true, Nat.beq_eq] at h
      rw [hu] at hn
      simp only [VR] at hn ⊢
      obtain ⟨y, rfl, h2⟩ := hn
      exact ⟨y, by rw [h.1], holds_vr S c x' y h2 h.2⟩
    · cases h
  | .agg cs, u, x, hx, h => by
    simp only [holds] at h
    have hn := hx.norm
    split at h
    · rename_i us hu
      rw [hu] at hn
      simp only [VR] at hn ⊢
      obtain ⟨y, rfl, h2⟩ := hn
      exact ⟨y, rfl, holdss_vr S cs us y h2 h⟩
    · cases h
  | .tuple cs, u, x, hx, h => by
    simp only [holds] at h
    have hn := hx.norm
    split at h
    · rename_i us hu
      rw [hu] at hn
      simp only [VR] at hn ⊢
      obtain ⟨y, rfl, h2⟩ := hn
      exact ⟨y, rfl, holdss_vr S cs us y h2 h⟩
    · cases h
  | .fn (.func f) a b, u, x, hx, h => by
    simp only [holds] at h
    have hn := hx.norm
    split at h
    · rename_i f' a' b' hu
      simp only [Bool.and_eq_true, Nat.beq_eq] at h
      rw [hu] at hn
      simp only [VR] at hn ⊢
      obtain ⟨p, q, rfl, h2, h3⟩ := hn
      exact ⟨p, q, by rw [h.1], holdss_vr S a a' p h2 h.2.1, holdss_vr S b b' q h3 h.2.2⟩
    · cases h
  | .fn (.method _) a b, u, x, hx, h => by simp [holds] at h
  | .fn (.methodOf _ _) a b, u, x, hx, h => by simp [holds] at h
  | .fn (.via _ _ _ _) a b, u, x, hx, h => by simp [holds] at h
  | .fn (.yield _) a b, u, x, hx, h => by simp [holds] at h
  | .ptr .., u, x, hx, h => by simp [holds] at h
  | .sl .., u, x, hx, h => by simp [holds] at h
  | .map .., u, x, hx, h => by simp [holds] at h
  | .yld .., u, x, hx, h => by simp [holds] at h
theorem holdss_vr (S : Sees w G H ids con Z) : ∀ (cs us : List AV) (xs : List Value), VRs G xs us → holdss ids con H cs us = true → VRs (Gh.ofZ Z) xs cs
  | [], [], xs, hx, h => by simp only [VRs] at hx ⊢; exact hx
  | [], _ :: _, xs, hx, h => by simp [holdss] at h
  | _ :: _, [], xs, hx, h => by simp [holdss] at h
  | c :: cs, u :: us, xs, hx, h => by
    simp only [holdss, Bool.and_eq_true] at h
    simp only [VRs] at hx ⊢
    obtain ⟨y, ys, rfl, h1, h2⟩ := hx
    exact ⟨y, ys, rfl, holds_vr S c u y h1 h.1, holdss_vr S cs us ys h2 h.2⟩
end
end
def holdsE (ids con : Bool) (H : AH) : AEnd → AEnd → Bool
  | .ret c, .ret u => holds ids con H c u
  | .panic c, .panic u => holds ids con H c u
  | _, _ => false
theorem holdsE_end {w : World} {G : Gh} {H : AH} {ids con : Bool} {Z : Nat → Option (List Value)} (S : Sees w G H ids con Z) {c e : AEnd} {ce : Ending} (hx : EndRel G ce e) (h : holdsE ids con H c e = true) : EndRel (Gh.ofZ Z) ce c := by
  cases c <;> cases e <;> simp only [holdsE, Bool.false_eq_true] at h <;> cases ce <;> simp only [EndRel] at hx ⊢
  · exact holds_vr S _ _ _ hx h
  · obtain ⟨x, h1, h2⟩ := hx
    exact ⟨x, h1, holds_vr S _ _ _ h2 h⟩
/-! ### a call that is known -/
/-- al: what it answers may lie in what it is told, which must then be such as never changes -/
structure Known where
  f : FuncId
  args : List AV
  al : Bool
  r : AEnd
def cellsAt (w : World) (b : Nat) : Option (List Value) := match w.heap[b]? with
  | some (.cells arr _ _) => some arr.toList
  | _ => none
theorem cellsAt_some {w : World} {b : Nat} {a : List Value} (h : cellsAt w b = some a) : ∃ t fr, w.heap[b]? = some (.cells ⟨a⟩ t fr) := by
  unfold cellsAt at h
  split at h
  · rename_i arr t fr he
    simp only [Option.some.injEq] at h
    subst h
    exact ⟨t, fr, he⟩
  · cases h
theorem cellsAt_eq {w : World} {b : Nat} {arr : Array Value} {t : TypeId} {fr : Nat × Nat} (h : w.heap[b]? = some (.cells arr t fr)) : cellsAt w b = some arr.toList := by
  unfold cellsAt; rw [h]
def behind (al : Bool) (Z : Nat → Option (List Value)) (w w1 : World) (b : Nat) : Option (List Value) := if b < w.heap.size then (if al then Z b else none) else cellsAt w1 b
def Known.ok (P : Program) (c : Known) : Prop :=
  ∀ (w : World) (Z : Nat → Option (List Value)) (cargs : Array Value), (∀ b a, Z b = some a → ∃ t fr, w.heap[b]? = some (.cells ⟨a⟩ t fr)) → VRs (Gh.ofZ Z) cargs.toList c.args →
    Calls P c.f cargs w fun ce w1 => (w1.os = w.os ∧ w1.tape = w.tape ∧ w1.output = w.output ∧ w.heap.size ≤ w1.heap.size ∧ ∀ b, b < w.heap.size → w1.heap[b]? = w.heap[b]?) ∧ EndRel (Gh.ofZ (behind c.al Z w w1)) ce c.r
theorem ofZ_rel {w : World} {Z : Nat → Option (List Value)} (h : ∀ b a, Z b = some a → ∃ t fr, w.heap[b]? = some (.cells ⟨a⟩ t fr)) : Rel w (Gh.ofZ Z) AH.empty := by
  have out : ∀ i, (AH.empty.get i).live = true → False := fun i h => by rw [AH.get_out (Nat.not_lt_zero _)] at h; cases h
  exact ⟨rfl, fun id h => absurd h (Nat.not_lt_zero _), fun id h => (out id h).elim, fun id h => absurd h (Nat.not_lt_zero _), fun i j h => (out i h).elim, fun i h => (out i h).elim, h⟩
def Known.came (c : Known) : FRes → Bool
  | some (r, H) => holdsE true c.al H c.r r
  | none => false
theorem Known.made {T : Tab} {C : CallF} {n : Nat} (hC : ∀ f args H r H', C f args H = some (r, H') → CallOk T.P f args H r H') (hm : T.P.follows .mixedOrders = true) {c : Known} (h : c.came ((evF T C (evDrawX T) n).F c.f c.args AH.empty) = true) : c.ok T.P := by
  intro w Z cargs hZ hv
  rw [evF_eq, evDrawX_eq] at h
  cases hr : (evN T C (evDraw T) n).F c.f c.args AH.empty with
  | none => rw [hr] at h; cases h
  | some p =>
    obtain ⟨r, H1⟩ := p
    rw [hr] at h
    simp only [Known.came] at h
    have E := (evN_ok (T := T) (C := C) hC (evDraw_ok hm) n).F _ _ _ _ _ hr
    refine (E w (Gh.ofZ Z) cargs (ofZ_rel hZ) hv).mono ?_
    rintro ce w1 ⟨G1, e1, r1, hend⟩
    have none_live : ∀ i, (AH.empty.get i).live = true → False := fun i h => by rw [AH.get_out (Nat.not_lt_zero _)] at h; cases h
    have hb : ∀ b, b < w.heap.size → w1.heap[b]? = w.heap[b]? := fun b hb => e1.keep b hb (fun id hl => (none_live id hl).elim)
    refine ⟨⟨e1.os, e1.tape, e1.output, e1.size, hb⟩, holdsE_end (H := H1) (ids := true) (con := c.al) ⟨r1, fun hal b a ha => ?_, fun _ id cs g x hg arr t fr hh => ?_⟩ hend h⟩
    · unfold behind
      split
      · rename_i hlt
        rw [← ha, e1.zold b hlt]; rfl
      · obtain ⟨t, fr, hh⟩ := r1.zin b a ha
        exact cellsAt_eq hh
    · unfold behind
      have hl : (H1.get id).live = true := by rw [hg]; rfl
      rcases e1.fresh id hl with hge | ⟨j, hj, _⟩
      · rw [if_neg (by omega)]; exact cellsAt_eq hh
      · exact (none_live j hj).elim
def Known.fits (c : Known) (args : List AV) (H : AH) : Bool := holdss (!c.al) true H c.args args
theorem Known.use {P : Program} {c : Known} (h : c.ok P) {args : List AV} {H : AH} (hf : c.fits args H = true) : CallOk P c.f args H c.r H := by
  intro w G cargs hR hv
  have hlt : ∀ {b a}, G.z b = some a → b < w.heap.size := fun h => hR.lt h
  have hmain : ∀ Z : Nat → Option (List Value), (∀ b a, Z b = some a → ∃ t fr, w.heap[b]? = some (.cells ⟨a⟩ t fr)) → Sees w G H (!c.al) true Z → (c.al = true → Z = G.z) →
      Calls P c.f cargs w fun ce w' => ∃ G', Ext w G H w' G' H ∧ Rel w' G' H ∧ EndRel G' ce c.r := by
    intro Z hZ S hal
    refine (h w Z cargs hZ (holdss_vr S _ _ _ hv hf)).mono ?_
    rintro ce w1 ⟨⟨os, tp, ou, sz, hb⟩, hend⟩
    have hle : G.le { G with z := fun b => if b < w.heap.size then G.z b else cellsAt w1 b } :=
      ⟨Nat.le_refl _, fun _ _ => Nat.le_refl _, fun _ _ _ => ⟨rfl, rfl, rfl⟩, fun b a hz => by
        show (if b < w.heap.size then G.z b else cellsAt w1 b) = some a
        rw [if_pos (hlt hz)]; exact hz⟩
    refine ⟨{ G with z := fun b => if b < w.heap.size then G.z b else cellsAt w1 b }, ⟨hle, os, tp, ou, sz, fun b h1 _ => hb b h1, fun id hl => .inr ⟨id, hl, rfl⟩, Nat.le_refl _, fun b h1 => if_pos h1, fun _ _ h => ⟨h, rfl⟩⟩,
      ⟨hR.n, fun id hid => ?_, hR.born, fun id h1 h2 => Nat.lt_of_lt_of_le (hR.blt' id h1 h2) sz, hR.inj, fun i hl => ?_, fun b a hz => ?_⟩, ?_⟩
    · by_cases hl : (H.get id).live = true
      · exact (hR.obj id hid).mono hle (by rw [hR.n]; exact hid) rfl (hb _ (hR.blt id hl))
      · exact OR.dead_of (by simpa using hl)
    · show (if G.blk i < w.heap.size then G.z (G.blk i) else cellsAt w1 (G.blk i)) = none
      rw [if_pos (hR.blt i hl)]; exact hR.zout i hl
    · change (if b < w.heap.size then G.z b else cellsAt w1 b) = some a at hz
      split at hz
      · rename_i h1
        obtain ⟨t, fr, hh⟩ := hR.zin b a hz
        exact ⟨t, fr, by rw [hb b h1]; exact hh⟩
      · exact cellsAt_some hz
    · have hle2 : (Gh.ofZ (behind c.al Z w w1)).le { G with z := fun b => if b < w.heap.size then G.z b else cellsAt w1 b } :=
        ⟨Nat.zero_le _, fun id h => absurd h (Nat.not_lt_zero _), fun id h => absurd h (Nat.not_lt_zero _), fun b a hz => by
          change behind c.al Z w w1 b = some a at hz
          show (if b < w.heap.size then G.z b else cellsAt w1 b) = some a
          unfold behind at hz
          split at hz
          · rename_i h1
            rw [if_pos h1]
            split at hz
            · rename_i h2
              rw [← hal h2]; exact hz
            · cases hz
          · rename_i h1
            rw [if_neg h1]; exact hz⟩
      cases hr : c.r with
      | ret u => rw [hr] at hend; cases ce <;> simp only [EndRel] at hend ⊢; exact VR.mono hle2 _ _ hend
      | panic u =>
        rw [hr] at hend; cases ce <;> simp only [EndRel] at hend ⊢
        obtain ⟨x, h1, h2⟩ := hend
        exact ⟨x, h1, VR.mono hle2 _ _ h2⟩
  cases hal : c.al with
  | true =>
    refine hmain G.z hR.zin ⟨hR, fun _ _ _ h => h, fun hi => ?_⟩ (fun _ => rfl)
    rw [hal] at hi; cases hi
  | false =>
    refine hmain (cellsAt w) (fun b a h => cellsAt_some h) ⟨hR, fun _ b a h => ?_, fun _ id cs g x hg arr t fr hh => cellsAt_eq hh⟩ (fun h => by rw [hal] at h; cases h)
    obtain ⟨t, fr, hh⟩ := hR.zin b a h
    exact cellsAt_eq hh
/-! ### a table of them -/
abbrev KTab := HT (List Known)
def findK (args : List AV) (H : AH) : List Known → FRes := @List.rec Known (fun _ => FRes) none (fun c _ ih => @Bool.rec (fun _ => FRes) ih (some (c.r, H)) (c.fits args H))
def knownC (K : KTab) : CallF := fun f args H => @Option.rec (List Known) (fun _ => FRes) none (findK args H) (K.get f)
def KTab.ok (P : Program) (K : KTab) : Prop := ∀ f l, K.get f = some l → ∀ c ∈ l, c.f = f ∧ c.ok P
def KTab.add (K : KTab) (c : Known) : KTab := HT.put (c.f + 1) K c.f (c :: (K.get c.f).getD [])
theorem KTab.ok_e (P : Program) : KTab.ok P .e := fun f l h => by rw [HT.get_e] at h; cases h
theorem KTab.ok_add {P : Program} {K : KTab} {c : Known} (hK : KTab.ok P K) (hc : c.ok P) : KTab.ok P (KTab.add K c) := by
  intro f l h d hd
  unfold KTab.add at h
  rw [HT.get_put _ _ _ _ _ (Nat.lt_succ_self _)] at h
  split at h
  · rename_i e
    simp only [Option.some.injEq] at h
    subst h
    rcases List.mem_cons.1 hd with rfl | hd
    · exact ⟨e.symm, hc⟩
    · cases hg : HT.get K c.f with
      | none => rw [hg] at hd; cases hd
      | some l => rw [hg] at hd; subst e; exact hK _ l hg d hd
  · exact hK f l h d hd
theorem findK_ok {P : Program} {f : FuncId} {args : List AV} {H : AH} {r : AEnd} {H' : AH} : ∀ {l : List Known}, (∀ c ∈ l, c.f = f ∧ c.ok P) → findK args H l = some (r, H') → CallOk P f args H r H'
  | [], _, h => by cases h
  | c :: l, hl, h => by
    change @Bool.rec (fun _ => FRes) (findK args H l) (some (c.r, H)) (c.fits args H) = _ at h
    cases hf : c.fits args H with
    | true =>
      rw [hf] at h
      simp only [Option.some.injEq, Prod.mk.injEq] at h
      obtain ⟨rfl, rfl⟩ := h
      obtain ⟨rfl, hk⟩ := hl c (by simp)
      exact Known.use hk hf
    | false =>
      rw [hf] at h
      exact findK_ok (fun d hd => hl d (by simp [hd])) h
theorem knownC_ok {P : Program} {K : KTab} (hK : KTab.ok P K) : ∀ f args H r H', knownC K f args H = some (r, H') → CallOk P f args H r H' := by
  intro f args H r H' h
  change @Option.rec (List Known) (fun _ => FRes) none (findK args H) (K.get f) = _ at h
  cases hg : K.get f with
  | none => rw [hg] at h; cases h
  | some l => rw [hg] at h; exact findK_ok (hK f l hg) h
theorem Known.madeK {T : Tab} {K : KTab} {n : Nat} (hK : KTab.ok T.P K) (hm : T.P.follows .mixedOrders = true) {c : Known} (h : c.came ((evF T (knownC K) (evDrawX T) n).F c.f c.args AH.empty) = true) : c.ok T.P := Known.made (knownC_ok hK) hm h
end Go.Proofs.Ytlajcmoiopaemaa
