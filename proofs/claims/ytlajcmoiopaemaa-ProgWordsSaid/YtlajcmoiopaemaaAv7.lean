/- Maps, iterators, bytes over the abstract heap. No program in sight. -/
import Derived.Test.YtlajcmoiopaemaaAv6
set_option linter.unusedVariables false
set_option linter.unusedSimpArgs false
noncomputable section
namespace Go.Proofs.Ytlajcmoiopaemaa
theorem pur_bind {α β : Type} {P : Program} (f : α → Sem β) : ∀ (s : Sem α), pur P (s.bind f) = match pur P s with | some (.ok a) => pur P (f a) | some (.error v) => some (.error v) | none => none
  | .pure a => rfl
  | .program k => by simp only [Sem.bind, pur]; exact pur_bind f (k P)
  | .mark _ k => by simp only [Sem.bind, pur]; exact pur_bind f k
  | .halt x => by cases x <;> rfl
  | .load .. => rfl
  | .store .. => rfl
  | .new .. => rfl
  | .shape .. => rfl
  | .freeze .. => rfl
  | .frozen .. => rfl
  | .getObj .. => rfl
  | .setObj .. => rfl
  | .choose .. => rfl
  | .sys .. => rfl
section
variable {T : Tab} {w : World} {G : Gh} {H : AH}
def fake (es : List AEnt) : List MapEntry := es.map fun e => ⟨e.key, .nilFunc, e.born⟩
theorem fake_keys : ∀ {es : List AEnt} {ms : List MapEntry}, ERs G ms es → ms.map (·.key) = (fake es).map (·.key)
  | [], _, h => by simp only [ERs] at h; subst h; rfl
  | e :: es, _, ⟨v, r, h1, _, h3⟩ => by subst h1; simp only [fake, List.map_cons]; congr 1; exact fake_keys h3
theorem findNow_same (kind : TypeDesc) (k : Value) : ∀ (ms ms' : List MapEntry) (i : Nat), ms.map (·.key) = ms'.map (·.key) →
    (Instr.findNow kind k ms' i = none → Instr.findNow kind k ms i = none) ∧ (Instr.findNow kind k ms' i = some none → Instr.findNow kind k ms i = some none) ∧
      (∀ j v, Instr.findNow kind k ms' i = some (some (j, v)) → ∃ e, i ≤ j ∧ ms[j - i]? = some e ∧ Instr.findNow kind k ms i = some (some (j, e.val)))
  | [], [], i, _ => ⟨fun h => h, fun h => h, fun j v h => by simp [Instr.findNow] at h⟩
  | [], _ :: _, i, h => by simp at h
  | _ :: _, [], i, h => by simp at h
  | a :: ms, b :: ms', i, h => by
    simp only [List.map_cons, List.cons.injEq] at h
    obtain ⟨h1, h2⟩ := h
    obtain ⟨q1, q2, q3⟩ := findNow_same kind k ms ms' (i + 1) h2
    simp only [Instr.findNow, h1]
    cases hs : Instr.sameNow kind k b.key with
    | none => exact ⟨fun _ => rfl, fun h => (by cases h), fun j v h => (by cases h)⟩
    | some t =>
      cases t with
      | true =>
        refine ⟨fun h => (by cases h), fun h => (by cases h), fun j v h => ?_⟩
        simp only [Option.some.injEq, Prod.mk.injEq] at h
        obtain ⟨rfl, rfl⟩ := h
        exact ⟨a, Nat.le_refl _, by simp, rfl⟩
      | false =>
        refine ⟨q1, q2, fun j v h => ?_⟩
        obtain ⟨e, e1, e2, e3⟩ := q3 j v h
        refine ⟨e, by omega, ?_, e3⟩
        rw [show j - i = (j - (i + 1)) + 1 by omega, List.getElem?_cons_succ]; exact e2
theorem findAsking_same (kt : TypeId) (k : Value) : ∀ (ms ms' : List MapEntry) (i : Nat), ms.map (·.key) = ms'.map (·.key) → ∀ r, pur T.P (Instr.findAsking kt k ms' i) = some (.ok r) →
    (r = none → ∀ w, (Instr.findAsking kt k ms i).run T.P w = .ok none w) ∧ (∀ j v, r = some (j, v) → ∃ e, i ≤ j ∧ ms[j - i]? = some e ∧ ∀ w, (Instr.findAsking kt k ms i).run T.P w = .ok (some (j, e.val)) w)
  | [], [], i, _, r, h => by
    simp only [Instr.findAsking] at h
    have h' : some (Except.ok (ε := Value) (none : Option (Nat × Value))) = some (.ok r) := h
    simp only [Option.some.injEq, Except.ok.injEq] at h'
    subst h'
    exact ⟨fun _ w => rfl, fun j v h => by cases h⟩
  | [], _ :: _, i, h, _, _ => by simp at h
  | _ :: _, [], i, h, _, _ => by simp at h
  | a :: ms, b :: ms', i, h, r, hp => by
    simp only [List.map_cons, List.cons.injEq] at h
    obtain ⟨h1, h2⟩ := h
    simp only [Instr.findAsking] at hp
    have hb : pur T.P ((Op.equal kt k b.key).bind fun t => if t = true then Pure.pure (some (i, b.val)) else Instr.findAsking kt k ms' (i + 1)) = some (.ok r) := hp
    rw [pur_bind] at hb
    split at hb <;> try (cases hb; done)
    rename_i t ht
    have hrun := pur_ok ht
    cases t with
    | true =>
      have hb' : some (Except.ok (ε := Value) (some (i, b.val))) = some (.ok r) := hb
      simp only [Option.some.injEq, Except.ok.injEq] at hb'
      subst hb'
      refine ⟨fun h => (by cases h), fun j v h => ?_⟩
      simp only [Option.some.injEq, Prod.mk.injEq] at h
      obtain ⟨rfl, rfl⟩ := h
      refine ⟨a, Nat.le_refl _, by simp, fun w => ?_⟩
      simp [Instr.findAsking, h1, hrun w, Result.andThen]
    | false =>
      have hb' : pur T.P (Instr.findAsking kt k ms' (i + 1)) = some (.ok r) := hb
      obtain ⟨q1, q2⟩ := findAsking_same kt k ms ms' (i + 1) h2 r hb'
      refine ⟨fun h w => ?_, fun j v h => ?_⟩
      · simp [Instr.findAsking, h1, hrun w, q1 h w, Result.andThen]
      · obtain ⟨e, e1, e2, e3⟩ := q2 j v h
        refine ⟨e, by omega, ?_, fun w => ?_⟩
        · rw [show j - i = (j - (i + 1)) + 1 by omega, List.getElem?_cons_succ]; exact e2
        · simp [Instr.findAsking, h1, hrun w, e3 w, Result.andThen]
def findA (T : Tab) (kt : TypeId) (k : Value) (es : List AEnt) : Option (Option Nat) := match T.underlying kt with
  | some d => match Instr.findNow d k (fake es) 0 with
    | some (some (i, _)) => some (some i)
    | some none => some none
    | none => match pur T.P (Instr.findAsking kt k (fake es)) with
      | some (.ok (some (i, _))) => some (some i)
      | some (.ok none) => some none
      | _ => none
  | none => none
theorem findA_sound {kt : TypeId} {k : Value} {es : List AEnt} {ms : List MapEntry} {r : Option Nat} (he : ERs G ms es) (h : findA T kt k es = some r) (w : World) :
    (r = none → (Instr.findKey kt k ms).run T.P w = .ok none w) ∧ (∀ i, r = some i → ∃ e, ms[i]? = some e ∧ (Instr.findKey kt k ms).run T.P w = .ok (some (i, e.val)) w) := by
  have hk := fake_keys he
  unfold findA at h
  split at h <;> try (cases h; done)
  rename_i d hd
  have hrun := run_underlying hd w
  have hrf : (Instr.findKey kt k ms).run T.P w = (match Instr.findNow d k ms 0 with | some r => (Pure.pure r : Sem _) | none => Instr.findAsking kt k ms).run T.P w := by
    have : Instr.findKey kt k ms = underlying kt >>= fun d => match Instr.findNow d k ms 0 with | some r => Pure.pure r | none => Instr.findAsking kt k ms := rfl
    rw [this, Sem.run_bind, hrun]; rfl
  rw [hrf]
  obtain ⟨q1, q2, q3⟩ := findNow_same d k ms (fake es) 0 hk
  split at h
  · rename_i j v hn
    simp only [Option.some.injEq] at h
    subst h
    obtain ⟨e, e1, e2, e3⟩ := q3 j v hn
    rw [e3]
    refine ⟨fun h => (by cases h), fun i h => ?_⟩
    simp only [Option.some.injEq] at h
    subst h
    exact ⟨e, by simpa using e2, rfl⟩
  · rename_i hn
    simp only [Option.some.injEq] at h
    subst h
    rw [q2 hn]
    exact ⟨fun _ => rfl, fun i h => by cases h⟩
  · rename_i hn
    rw [q1 hn]
    split at h <;> simp only [Option.some.injEq, reduceCtorEq] at h <;> subst h
    · rename_i i v hp
      obtain ⟨_, p2⟩ := findAsking_same kt k ms (fake es) 0 hk _ hp
      obtain ⟨e, e1, e2, e3⟩ := p2 _ _ rfl
      refine ⟨fun h => (by cases h), fun i' h => ?_⟩
      simp only [Option.some.injEq] at h
      subst h
      exact ⟨e, by simpa using e2, e3 w⟩
    · rename_i hp
      obtain ⟨p1, _⟩ := findAsking_same kt k ms (fake es) 0 hk _ hp
      exact ⟨fun _ => p1 rfl w, fun i h => by cases h⟩
theorem ERs.get {es : List AEnt} : ∀ {ms : List MapEntry} (i : Nat) (m : MapEntry), ERs G ms es → ms[i]? = some m → ∃ e, es[i]? = some e ∧ m.key = e.key ∧ m.born = e.born ∧ VR G m.val e.val := by
  induction es with
  | nil => intro ms i m h hm; simp only [ERs] at h; subst h; simp at hm
  | cons e es ih =>
    intro ms i m h hm
    obtain ⟨v, r, rfl, h1, h2⟩ := h
    cases i with
    | zero => simp at hm; subst hm; exact ⟨e, rfl, rfl, rfl, h1⟩
    | succ i => simp at hm; simpa using ih i m h2 hm
def mapEnts (u : AV) (H : AH) : Option (List AEnt) := match u with
  | .v (.map none) => some []
  | .map id => match H.get id with
    | .map es _ => some es
    | _ => none
  | _ => none
def aLookup (T : Tab) (t : TypeId) (u k : AV) (ok : Bool) (H : AH) : Option AV :=
  match T.underlying t, k.toV, mapEnts u H with
  | some (.map kt et), some kv, some es => match pur T.P (Instr.checkKey es.isEmpty 10000 kt kv), findA T kt kv es with
    | some (.ok ()), some (some i) => match es[i]?, ok with
      | some e, true => some (.tuple [e.val, .v (.bool true)])
      | some e, false => some e.val
      | none, _ => none
    | some (.ok ()), some none => match T.info? et with
      | some ie => match ie.zero, ok with
        | some z, true => some (.tuple [.v z, .v (.bool false)])
        | some z, false => some (.v z)
        | none, _ => none
      | none => none
    | _, _ => none
  | _, _, _ => none
theorem aLookup_sound (hR : Rel w G H) {t : TypeId} {x y : Value} {u k r : AV} {ok : Bool} (hx : VR G x u) (hy : VR G y k) (h : aLookup T t u k ok H = some r) : RunsV T.P (Instr.lookup t x y ok) w G H r H := by
  unfold aLookup at h
  split at h <;> try (cases h; done)
  rename_i kt et kv es hu hk hes
  obtain rfl := VR.toV k _ _ hy hk
  have hm : ∃ ents : Array MapEntry, ERs G ents.toList es ∧ ((x = .map none ∧ ents = #[]) ∨ ∃ q clock, x = .map (some q) ∧ (getObj q).run T.P w = .ok (.map ents clock) w) := by
    unfold mapEnts at hes
    split at hes
    · simp only [Option.some.injEq] at hes; subst hes
      simp only [VR] at hx; subst hx
      exact ⟨#[], by simp [ERs], .inl ⟨rfl, rfl⟩⟩
    · rename_i id
      split at hes <;> simp only [Option.some.injEq, reduceCtorEq] at hes
      subst hes
      rename_i es clock hget
      obtain ⟨h1, ents, h2, h3⟩ := map_block hR hget
      simp only [VR] at hx
      obtain ⟨_, _, r, rfl, hr⟩ := hx
      obtain rfl := hr h1
      exact ⟨ents, h3, .inr ⟨_, clock, rfl, by simp [getObj, Sem.run, h2]⟩⟩
    · cases hes
  obtain ⟨ents, he, hrun⟩ := hm
  have hem : ents.isEmpty = es.isEmpty := by
    have := he.length
    cases es <;> simp_all [Array.isEmpty]
  split at h <;> try (cases h; done)
  · rename_i i hck hf
    obtain ⟨_, f2⟩ := findA_sound he hf w
    obtain ⟨m, m1, m2⟩ := f2 i rfl
    obtain ⟨e, e1, e2, e3, e4⟩ := ERs.get i m he m1
    have hck' := pur_ok hck w
    rw [e1] at h
    cases ok <;> simp only [Option.some.injEq] at h <;> subst h
    · refine .same hR (x := m.val) ?_ e4
      rcases hrun with ⟨rfl, rfl⟩ | ⟨q, clock, rfl, hg⟩ <;> simp [*, Instr.lookup, run_underlying hu, hem, hck', m2, Result.andThen]
    · refine .same hR (x := .tuple #[m.val, .bool true]) ?_ (by simp only [VR, VRs]; exact ⟨_, rfl, _, _, rfl, e4, .bool true, [], rfl, rfl, rfl⟩)
      rcases hrun with ⟨rfl, rfl⟩ | ⟨q, clock, rfl, hg⟩ <;> simp [*, Instr.lookup, run_underlying hu, hem, hck', m2, Result.andThen]
  · rename_i hck hf
    obtain ⟨f1, _⟩ := findA_sound he hf w
    have f1 := f1 rfl
    have hck' := pur_ok hck w
    split at h <;> try (cases h; done)
    rename_i ie hie
    split at h <;> simp only [Option.some.injEq, reduceCtorEq] at h <;> subst h
    · rename_i z hz
      refine .same hR (x := .tuple #[z, .bool false]) ?_ (by simp only [VR, VRs]; exact ⟨_, rfl, z, _, rfl, rfl, .bool false, [], rfl, rfl, rfl⟩)
      rcases hrun with ⟨rfl, rfl⟩ | ⟨q, clock, rfl, hg⟩ <;> simp [*, Instr.lookup, run_underlying hu, hem, hck', f1, run_tzero hie hz, Result.andThen]
    · rename_i z hz
      refine .same hR (x := z) ?_ (by simp [VR])
      rcases hrun with ⟨rfl, rfl⟩ | ⟨q, clock, rfl, hg⟩ <;> simp [*, Instr.lookup, run_underlying hu, hem, hck', f1, run_tzero hie hz, Result.andThen]
end
end Go.Proofs.Ytlajcmoiopaemaa
