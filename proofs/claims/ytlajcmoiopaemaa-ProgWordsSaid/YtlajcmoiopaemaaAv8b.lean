/- A map's entry, taken and stored to later. No program in sight. -/
import Derived.Test.YtlajcmoiopaemaaAv8
set_option linter.unusedVariables false
set_option linter.unusedSimpArgs false
noncomputable section
namespace Go.Proofs.Ytlajcmoiopaemaa
section
variable {T : Tab} {w : World} {G : Gh} {H : AH}
def aMapEntry (T : Tab) (t : TypeId) (u k : AV) (H : AH) : Option (AV × AH) :=
  match T.underlying t, k.toV, u with
  | some (.map kt et), some kv, .map id => match H.get id with
    | .map es clock => match pur T.P (Instr.checkKey false 10000 kt kv), findA T kt kv es with
      | some (.ok ()), some (some i) => match es[i]? with
        | some e => match Instr.sameBits 10000 e.key kv with
          | true => some (.tuple [e.val, .v (goInt e.born)], H.set id (.map (es.set i ⟨kv, e.val, e.born⟩) clock))
          | false => none
        | none => none
      | some (.ok ()), some none => match T.info? et with
        | some inf => match inf.zero with
          | some z => some (.tuple [.v z, .v (goInt clock)], H.set id (.map (es ++ [⟨kv, .v z, clock⟩]) (clock + 1)))
          | none => none
        | none => none
      | _, _ => none
    | _ => none
  | _, _, _ => none
theorem aMapEntry_sound (hR : Rel w G H) {t : TypeId} {x y : Value} {u k r : AV} {H' : AH} (hx : VR G x u) (hy : VR G y k) (h : aMapEntry T t u k H = some (r, H')) : RunsV T.P (Instr.mapEntry t x y) w G H r H' := by
  unfold aMapEntry at h
  split at h <;> try (cases h; done)
  rename_i kt et kv id hu hk
  obtain rfl := VR.toV k _ _ hy hk
  split at h <;> try (cases h; done)
  rename_i es clock hget
  have hl : (H.get id).live = true := by rw [hget]; rfl
  have hid : id < H.n := AH.lt_of_get (by rw [hget]; simp)
  have hbl := hR.blt id hl
  obtain ⟨h1, ents, h2, h3⟩ := map_block hR hget
  simp only [VR] at hx
  obtain ⟨_, _, r, rfl, hr⟩ := hx
  obtain rfl := hr h1
  have hg : (getObj (G.blk id)).run T.P w = .ok (.map ents clock) w := by simp [getObj, Sem.run, h2]
  have hs : ∀ o, (setObj (G.blk id) o).run T.P w = .ok () { w with heap := w.heap.setIfInBounds (G.blk id) o } := fun o => by simp [setObj, Sem.run, h2]
  split at h <;> try (cases h; done)
  · rename_i i hck hf
    split at h <;> try (cases h; done)
    rename_i e he
    split at h <;> try (cases h; done)
    rename_i hsb
    simp only [Option.some.injEq, Prod.mk.injEq] at h
    obtain ⟨rfl, rfl⟩ := h
    obtain ⟨_, f2⟩ := findA_sound h3 hf w
    obtain ⟨m, m1, m2⟩ := f2 i rfl
    obtain ⟨e', e1, e2, e3, e4⟩ := ERs.get i m h3 m1
    have : e' = e := Option.some.inj (e1.symm.trans he)
    subst this
    have hck' := pur_ok hck w
    have hil : i < ents.size := by have := (List.getElem?_eq_some_iff.1 m1).1; simpa using this
    have hme : ents[i]? = some m := by simpa using m1
    have hmod : (ents.modify i fun e => { e with key := y }).toList = ents.toList.set i ⟨y, m.val, e'.born⟩ := by
      apply List.ext_getElem?
      intro j
      rw [Array.getElem?_toList, Array.getElem?_modify, List.getElem?_set]
      by_cases hj : i = j
      · subst hj
        have hgi : ents[i] = m := by rw [Array.getElem?_eq_getElem hil] at hme; exact Option.some.inj hme
        simp [hil, hgi, e3]
      · simp [hj]
    obtain ⟨q1, q2⟩ := setObjA hR hl (.map (ents.modify i fun e => { e with key := y }) clock) (.map (es.set i ⟨y, e'.val, e'.born⟩) clock) ⟨h1, _, set_at _ hbl, by rw [hmod]; exact h3.set i e4⟩
    refine ⟨.tuple #[m.val, goInt e'.born], _, G, ?_, q2, q1, ?_⟩
    · rw [← e2] at hsb
      simp [Instr.mapEntry, run_underlying hu, hg, hck', m2, hme, Instr.keyThatStays, hsb, hs, Result.andThen, e3]
    · simp only [VR, VRs]
      exact ⟨_, rfl, _, _, rfl, e4, _, _, rfl, rfl, rfl⟩
  · rename_i hck hf
    split at h <;> try (cases h; done)
    rename_i inf hinf
    split at h <;> try (cases h; done)
    rename_i z hz
    simp only [Option.some.injEq, Prod.mk.injEq] at h
    obtain ⟨rfl, rfl⟩ := h
    obtain ⟨f1, _⟩ := findA_sound h3 hf w
    have f1 := f1 rfl
    have hck' := pur_ok hck w
    obtain ⟨q1, q2⟩ := setObjA hR hl (.map (ents.push ⟨y, z, clock⟩) (clock + 1)) (.map (es ++ [⟨y, .v z, clock⟩]) (clock + 1)) ⟨h1, _, set_at _ hbl, by rw [Array.toList_push]; exact h3.snoc (by simp [VR])⟩
    refine ⟨.tuple #[z, goInt clock], _, G, ?_, q2, q1, ?_⟩
    · simp [Instr.mapEntry, run_underlying hu, hg, hck', f1, run_tzero hinf hz, hs, Result.andThen]
    · simp only [VR, VRs]
      exact ⟨_, rfl, _, _, rfl, rfl, _, _, rfl, rfl, rfl⟩
def bornAt (n : Int) : List AEnt → Option Nat
  | [] => none
  | e :: es => match (e.born : Int) == n with
    | true => some 0
    | false => match bornAt n es with
      | some i => some (i + 1)
      | none => none
theorem bornAt_sound {n : Int} : ∀ {es : List AEnt} {ms : List MapEntry} {i : Nat}, ERs G ms es → bornAt n es = some i → ms.findIdx? (fun e => (e.born : Int) == n) = some i ∧ ∃ m, ms[i]? = some m
  | [], ms, i, h, k => by simp [bornAt] at k
  | e :: es, ms, i, h, k => by
    obtain ⟨v, r, rfl, h1, h2⟩ := h
    simp only [bornAt] at k
    rw [List.findIdx?_cons]
    split at k
    · rename_i hb
      simp only [Option.some.injEq] at k
      subst k
      simp only [hb]
      exact ⟨rfl, _, rfl⟩
    · rename_i hb
      split at k <;> simp only [Option.some.injEq, reduceCtorEq] at k
      rename_i j hj
      subst k
      obtain ⟨k1, m, k2⟩ := bornAt_sound h2 hj
      simp only [hb, k1]
      exact ⟨by simp, m, by simpa using k2⟩
def aEntryStore (u s v : AV) (H : AH) : Option AH := match u, s with
  | .map id, .v (.int _ n) => match H.get id with
    | .map es clock => match bornAt n es with
      | some i => match es[i]? with
        | some e => some (H.set id (.map (es.set i ⟨e.key, v, e.born⟩) clock))
        | none => none
      | none => none
    | _ => none
  | _, _ => none
theorem aEntryStore_sound (hR : Rel w G H) {t : TypeId} {x y z : Value} {u s v : AV} {H' : AH} (hx : VR G x u) (hy : VR G y s) (hz : VR G z v) (h : aEntryStore u s v H = some H') : RunsU T.P (Instr.entryStore t x y z) w G H H' := by
  unfold aEntryStore at h
  split at h <;> try (cases h; done)
  rename_i id kk n
  simp only [VR] at hy
  subst hy
  split at h <;> try (cases h; done)
  rename_i es clock hget
  split at h <;> try (cases h; done)
  rename_i i hi
  split at h <;> try (cases h; done)
  rename_i e he
  simp only [Option.some.injEq] at h
  subst h
  have hl : (H.get id).live = true := by rw [hget]; rfl
  have hid : id < H.n := AH.lt_of_get (by rw [hget]; simp)
  have hbl := hR.blt id hl
  obtain ⟨h1, ents, h2, h3⟩ := map_block hR hget
  simp only [VR] at hx
  obtain ⟨_, _, r, rfl, hr⟩ := hx
  obtain rfl := hr h1
  have hg : (getObj (G.blk id)).run T.P w = .ok (.map ents clock) w := by simp [getObj, Sem.run, h2]
  have hs : ∀ o, (setObj (G.blk id) o).run T.P w = .ok () { w with heap := w.heap.setIfInBounds (G.blk id) o } := fun o => by simp [setObj, Sem.run, h2]
  obtain ⟨f1, m, m1⟩ := bornAt_sound h3 hi
  obtain ⟨e', e1, e2, e3, e4⟩ := ERs.get i m h3 m1
  have : e' = e := Option.some.inj (e1.symm.trans he)
  subst this
  have hil : i < ents.size := by have := (List.getElem?_eq_some_iff.1 m1).1; simpa using this
  have hme : ents[i]? = some m := by simpa using m1
  have hmod : (ents.modify i fun e => { e with val := z }).toList = ents.toList.set i ⟨e'.key, z, e'.born⟩ := by
    apply List.ext_getElem?
    intro j
    rw [Array.getElem?_toList, Array.getElem?_modify, List.getElem?_set]
    by_cases hj : i = j
    · subst hj
      have hgi : ents[i] = m := by rw [Array.getElem?_eq_getElem hil] at hme; exact Option.some.inj hme
      simp [hil, hgi, e2, e3]
    · simp [hj]
  obtain ⟨q1, q2⟩ := setObjA hR hl (.map (ents.modify i fun e => { e with val := z }) clock) (.map (es.set i ⟨e'.key, v, e'.born⟩) clock) ⟨h1, _, set_at _ hbl, by rw [hmod]; exact h3.set i hz⟩
  refine ⟨_, G, ?_, q2, q1⟩
  have hfi : ents.findIdx? (fun e => (e.born : Int) == n) = some i := by
    have := f1
    rw [← this]
    cases ents; simp
  simp [Instr.entryStore, hg, asInt, asIntOf, hfi, hs, Result.andThen]
end
end Go.Proofs.Ytlajcmoiopaemaa
