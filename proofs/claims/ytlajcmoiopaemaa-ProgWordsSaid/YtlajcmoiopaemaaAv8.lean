/- Maps that are written, iterators, bytes. No program in sight. -/
import Derived.Test.YtlajcmoiopaemaaAv7
import Derived.Laws.BytesString
import Derived.WideKeyEntry
set_option linter.unusedVariables false
set_option linter.unusedSimpArgs false
noncomputable section
namespace Go.Proofs.Ytlajcmoiopaemaa
section
variable {T : Tab} {w : World} {G : Gh} {H : AH}
theorem setObjA (hR : Rel w G H) {id : Nat} (hl : (H.get id).live = true) (o : Obj) (ao : AObj) (hO : OR { w with heap := w.heap.setIfInBounds (G.blk id) o } G id ao) :
    Rel { w with heap := w.heap.setIfInBounds (G.blk id) o } G (H.set id ao) ∧ Ext w G H { w with heap := w.heap.setIfInBounds (G.blk id) o } G (H.set id ao) := by
  have hid : id < H.n := AH.lt_of_get (by intro e; rw [e] at hl; cases hl)
  exact hR.update id hl ao rfl rfl rfl (by simp) (fun b _ hne => by simp [Array.getElem?_setIfInBounds_ne (Ne.symm hne)]) rfl (fun _ _ => ⟨rfl, rfl, rfl⟩) (Nat.le_refl _) (fun _ => ⟨rfl, rfl⟩) rfl (fun _ _ => rfl) (.inl rfl) (by simpa using hR.blt id hl) hO
theorem set_at {h : Array Obj} {b : Nat} (o : Obj) (hb : b < h.size) : (h.setIfInBounds b o)[b]? = some o := by simp [hb]
theorem ERs.set {es : List AEnt} : ∀ {ms : List MapEntry} (i : Nat) {k : Value} {v : Value} {u : AV} {b : Nat}, ERs G ms es → VR G v u → ERs G (ms.set i ⟨k, v, b⟩) (es.set i ⟨k, u, b⟩) := by
  induction es with
  | nil => intro ms i k v u b h hv; simp only [ERs] at h; subst h; simp [ERs]
  | cons e es ih =>
    intro ms i k v u b h hv
    obtain ⟨x, r, rfl, h1, h2⟩ := h
    cases i with
    | zero => simp only [List.set_cons_zero, ERs]; exact ⟨v, r, rfl, hv, h2⟩
    | succ i => simp only [List.set_cons_succ, ERs]; exact ⟨x, _, rfl, h1, ih i h2 hv⟩
theorem ERs.snoc {es : List AEnt} : ∀ {ms : List MapEntry} {k : Value} {v : Value} {u : AV} {b : Nat}, ERs G ms es → VR G v u → ERs G (ms ++ [⟨k, v, b⟩]) (es ++ [⟨k, u, b⟩]) := by
  induction es with
  | nil => intro ms k v u b h hv; simp only [ERs] at h; subst h; simp only [List.nil_append, ERs]; exact ⟨v, [], rfl, hv, rfl⟩
  | cons e es ih =>
    intro ms k v u b h hv
    obtain ⟨x, r, rfl, h1, h2⟩ := h
    simp only [List.cons_append, ERs]
    exact ⟨x, _, rfl, h1, ih h2 hv⟩
def aMapUpdate (T : Tab) (t : TypeId) (u k v : AV) (H : AH) : Option AH :=
  match T.underlying t, k.toV, u with
  | some (.map kt _), some kv, .map id => match H.get id with
    | .map es clock => match pur T.P (Instr.checkKey false 10000 kt kv), findA T kt kv es with
      | some (.ok ()), some (some i) => match es[i]? with
        | some e => match Instr.sameBits 10000 e.key kv with
          | true => some (H.set id (.map (es.set i ⟨kv, v, e.born⟩) clock))
          | false => none
        | none => none
      | some (.ok ()), some none => some (H.set id (.map (es ++ [⟨kv, v, clock⟩]) (clock + 1)))
      | _, _ => none
    | _ => none
  | _, _, _ => none
theorem aMapUpdate_sound (hR : Rel w G H) {t : TypeId} {x y z : Value} {u k v : AV} {H' : AH} (hx : VR G x u) (hy : VR G y k) (hz : VR G z v) (h : aMapUpdate T t u k v H = some H') : RunsU T.P (Instr.mapUpdate t x y z) w G H H' := by
  unfold aMapUpdate at h
  split at h <;> try (cases h; done)
  rename_i kt et kv id hu hk
  obtain rfl := VR.toV k _ _ hy hk
  split at h <;> try (cases h; done)
  rename_i es clock hget
  have hl : (H.get id).live = true := by rw [hget]; rfl
  have hid : id < H.n := AH.lt_of_get (by rw [hget]; simp)
  have hbl := hR.blt id hl
  obtain ⟨h1, ents, h2, h3⟩ := map_block hR hget
  simp only [VR] at hx
  obtain ⟨_, _, r, rfl, hr⟩ := hx
  obtain rfl := hr h1
  have hg : (getObj (G.blk id)).run T.P w = .ok (.map ents clock) w := by simp [getObj, Sem.run, h2]
  have hs : ∀ o, (setObj (G.blk id) o).run T.P w = .ok () { w with heap := w.heap.setIfInBounds (G.blk id) o } := fun o => by simp [setObj, Sem.run, h2]
  split at h <;> try (cases h; done)
  · rename_i i hck hf
    split at h <;> try (cases h; done)
    rename_i e he
    split at h <;> try (cases h; done)
    rename_i hsb
    simp only [Option.some.injEq] at h
    subst h
    obtain ⟨_, f2⟩ := findA_sound h3 hf w
    obtain ⟨m, m1, m2⟩ := f2 i rfl
    obtain ⟨e', e1, e2, e3, e4⟩ := ERs.get i m h3 m1
    have : e' = e := Option.some.inj (e1.symm.trans he)
    subst this
    have hck' := pur_ok hck w
    have hil : i < ents.size := by have := (List.getElem?_eq_some_iff.1 m1).1; simpa using this
    have hme : ents[i]? = some m := by simpa using m1
    have hmod : (ents.modify i fun e => { e with key := y, val := z }).toList = ents.toList.set i ⟨y, z, e'.born⟩ := by
      apply List.ext_getElem?
      intro j
      rw [Array.getElem?_toList, Array.getElem?_modify, List.getElem?_set]
      by_cases hj : i = j
      · subst hj
        have hgi : ents[i] = m := by rw [Array.getElem?_eq_getElem hil] at hme; exact Option.some.inj hme
        simp [hil, hgi, e3]
      · simp [hj]
    obtain ⟨q1, q2⟩ := setObjA hR hl (.map (ents.modify i fun e => { e with key := y, val := z }) clock) (.map (es.set i ⟨y, v, e'.born⟩) clock) ⟨h1, _, set_at _ hbl, by rw [hmod]; exact h3.set i hz⟩
    refine ⟨_, G, ?_, q2, q1⟩
    rw [← e2] at hsb
    simp [Instr.mapUpdate, run_underlying hu, hg, hck', m2, hme, Instr.keyThatStays, hsb, hs, Result.andThen]
  · rename_i hck hf
    simp only [Option.some.injEq] at h
    subst h
    obtain ⟨f1, _⟩ := findA_sound h3 hf w
    have f1 := f1 rfl
    have hck' := pur_ok hck w
    obtain ⟨q1, q2⟩ := setObjA hR hl (.map (ents.push ⟨y, z, clock⟩) (clock + 1)) (.map (es ++ [⟨y, v, clock⟩]) (clock + 1)) ⟨h1, _, set_at _ hbl, by rw [Array.toList_push]; exact h3.snoc hz⟩
    refine ⟨_, G, ?_, q2, q1⟩
    simp [Instr.mapUpdate, run_underlying hu, hg, hck', f1, hs, Result.andThen]
def aMakeMap (H : AH) : AV × AH := (.map H.n, H.push (.map [] 0))
theorem aMakeMap_sound (hR : Rel w G H) {t k e : TypeId} (hu : T.underlying t = some (.map k e)) (r : Option Value) (hr : ∀ v, r = some v → ∃ kk n, v = .int kk n) : RunsV T.P (Instr.makeMap t r) w G H (aMakeMap H).1 (aMakeMap H).2 := by
  obtain ⟨G', g1, g2, g3, g4, g5, g6⟩ := pushObj hR (.map #[] 0) (.map [] 0) (w' := w.alloc (.map #[] 0)) rfl rfl rfl rfl (fun G' hle hn hg hb hk => ⟨hg, #[], by rw [hk]; exact push_new _ _, by simp [ERs]⟩)
  refine ⟨.map (some w.heap.size), w.alloc (.map #[] 0), G', ?_, g1, g2, by simp only [aMakeMap, VR]; exact ⟨g6, by omega, _, rfl, fun _ => g3.symm⟩⟩
  cases r with
  | none => simp [Instr.makeMap, Result.andThen]
  | some v => obtain ⟨kk, n, rfl⟩ := hr v rfl; simp [Instr.makeMap, run_underlying hu, asInt, asIntOf, Result.andThen]
/-! ### iterators -/
def aRange (T : Tab) (t : TypeId) (u : AV) (H : AH) : Option (AV × AH) := match T.underlying t, u with
  | some .string, .v (.string s) => some (.ptr H.n 1 0, H.push (.strIter s 0))
  | some (.map _ _), .v (.map none) => some (.ptr H.n 1 0, H.push (.mapIter none 0 [] 0))
  | some (.map _ _), .map id => match H.get id with
    | .map _ clock => some (.ptr H.n 1 0, H.push (.mapIter (some id) clock [] clock))
    | _ => none
  | _, _ => none
theorem aRange_sound (hR : Rel w G H) {t : TypeId} {x : Value} {u r : AV} {H' : AH} (hx : VR G x u) (h : aRange T t u H = some (r, H')) : RunsV T.P (Instr.range t x) w G H r H' := by
  unfold aRange at h
  have ptr : ∀ G' : Gh, H.n < G'.n → G'.blk H.n = w.heap.size → G'.gen H.n = 1 → G'.base H.n = 0 → VR G' (.pointer (some ⟨w.heap.size, 0, none⟩)) (.ptr H.n 1 0) := fun G' a b c d => by
    simp only [VR]; exact ⟨a, by omega, _, rfl, fun _ => by rw [b, d]⟩
  split at h <;> try (cases h; done)
  · rename_i s hu
    simp only [Option.some.injEq, Prod.mk.injEq] at h
    obtain ⟨rfl, rfl⟩ := h
    simp only [VR] at hx; subst hx
    obtain ⟨G', g1, g2, g3, g4, g5, g6⟩ := pushObj hR (.stringIter s 0) (.strIter s 0) (w' := w.alloc (.stringIter s 0)) rfl rfl rfl rfl (fun G' hle hn hg hb hk => ⟨hg, by rw [hk]; exact push_new _ _, hb⟩)
    exact ⟨_, _, G', by simp [Instr.range, run_underlying hu, Result.andThen], g1, g2, ptr G' g6 g3 g4 g5⟩
  · rename_i hu
    simp only [Option.some.injEq, Prod.mk.injEq] at h
    obtain ⟨rfl, rfl⟩ := h
    simp only [VR] at hx; subst hx
    obtain ⟨G', g1, g2, g3, g4, g5, g6⟩ := pushObj hR (.mapIter none 0 #[] 0) (.mapIter none 0 [] 0) (w' := w.alloc (.mapIter none 0 #[] 0)) rfl rfl rfl rfl (fun G' hle hn hg hb hk => ⟨hg, hb, none, by rw [hk]; exact push_new _ _, rfl⟩)
    exact ⟨_, _, G', by simp [Instr.range, run_underlying hu, Result.andThen], g1, g2, ptr G' g6 g3 g4 g5⟩
  · rename_i id hu
    split at h <;> try (cases h; done)
    rename_i es clock hget
    simp only [Option.some.injEq, Prod.mk.injEq] at h
    obtain ⟨rfl, rfl⟩ := h
    obtain ⟨h1, ents, h2, h3⟩ := map_block hR hget
    simp only [VR] at hx
    obtain ⟨p1, p2, r, rfl, hr⟩ := hx
    obtain rfl := hr h1
    have hg : (getObj (G.blk id)).run T.P w = .ok (.map ents clock) w := by simp [getObj, Sem.run, h2]
    obtain ⟨G', g1, g2, g3, g4, g5, g6⟩ := pushObj hR (.mapIter (some (G.blk id)) clock #[] clock) (.mapIter (some id) clock [] clock) (w' := w.alloc (.mapIter (some (G.blk id)) clock #[] clock)) rfl rfl rfl rfl (fun G' hle hn hg hb hk => ⟨hg, hb, some (G.blk id), by rw [hk]; exact push_new _ _, by
      have hgj := hle.gen id p1
      refine ⟨Nat.lt_of_lt_of_le p1 hle.n, by omega, fun e => ?_⟩
      rw [(hle.same id p1 (by omega)).1]⟩)
    exact ⟨_, _, G', by simp [Instr.range, run_underlying hu, hg, Result.andThen], g1, g2, ptr G' g6 g3 g4 g5⟩
def leftOf (es : List AEnt) (seen : List Nat) : List AEnt := es.filter fun e => !seen.contains e.born
def aNext (u : AV) (isStr : Bool) (H : AH) : Option (AV × AH) := match u with
  | .ptr id g 0 => match H.get id, isStr, Nat.beq g 1 with
    | .strIter s pos, true, true => match Nat.blt pos s.size with
      | true => match Utf8.decode s pos with
        | (c, width) => some (.tuple [.v (.bool true), .v (goInt pos), .v (.int .i32 c)], H.set id (.strIter s (pos + width)))
      | false => some (.tuple [.v (.bool false)], H)
    | .mapIter none _ _ _, false, true => some (.tuple [.v (.bool false)], H)
    | .mapIter (some m) since seen last, false, true => match H.get m with
      | .map es clock => match !seen.isEmpty && !es.isEmpty && es.all (fun e => decide (e.born ≥ last)), leftOf es seen with
        | false, [] => some (.tuple [.v (.bool false)], H)
        | false, [e] => match Nat.blt e.born since with
          | true => some (.tuple [.v (.bool true), .v e.key, e.val], H.set id (.mapIter (some m) since (seen ++ [e.born]) clock))
          | false => none
        | _, _ => none
      | _ => none
    | _, _, _ => none
  | _ => none
theorem ERs.filter (p : Nat → Bool) {es : List AEnt} : ∀ {ms : List MapEntry}, ERs G ms es → ERs G (ms.filter fun m => p m.born) (es.filter fun e => p e.born) := by
  induction es with
  | nil => intro ms h; simp only [ERs] at h; subst h; simp [ERs]
  | cons e es ih =>
    intro ms h
    obtain ⟨x, r, rfl, h1, h2⟩ := h
    simp only [List.filter_cons]
    split
    · simp only [ERs]; exact ⟨x, _, rfl, h1, ih h2⟩
    · exact ih h2
theorem ERs.all (p : Nat → Bool) {es : List AEnt} : ∀ {ms : List MapEntry}, ERs G ms es → (ms.all fun m => p m.born) = (es.all fun e => p e.born) := by
  induction es with
  | nil => intro ms h; simp only [ERs] at h; subst h; rfl
  | cons e es ih =>
    intro ms h
    obtain ⟨x, r, rfl, h1, h2⟩ := h
    simp [List.all_cons, ih h2]
theorem aNext_sound (hR : Rel w G H) {x : Value} {u r : AV} {isStr : Bool} {H' : AH} (ty : TypeId) (hx : VR G x u) (h : aNext u isStr H = some (r, H')) : RunsV T.P (Instr.next x isStr ty) w G H r H' := by
  unfold aNext at h
  split at h <;> try (cases h; done)
  rename_i id g
  simp only [VR] at hx
  obtain ⟨p1, p2, a, rfl, p3⟩ := hx
  split at h <;> try (cases h; done)
  · rename_i s pos hget hg1
    rw [Nat.beq_eq] at hg1
    subst hg1
    have hl : (H.get id).live = true := by rw [hget]; rfl
    have hid : id < H.n := AH.lt_of_get (by rw [hget]; simp)
    have hO := hR.obj id hid
    rw [hget] at hO
    obtain ⟨h1, h2, h3⟩ := hO
    obtain rfl := p3 h1.symm
    rw [h3]
    have hgo : (getObj (G.blk id)).run T.P w = .ok (.stringIter s pos) w := by simp [getObj, Sem.run, h2]
    split at h
    · rename_i hlt
      rw [Nat.blt_eq] at hlt
      split at h
      rename_i c width hd
      simp only [Option.some.injEq, Prod.mk.injEq] at h
      obtain ⟨rfl, rfl⟩ := h
      have hs : ∀ o, (setObj (G.blk id) o).run T.P w = .ok () { w with heap := w.heap.setIfInBounds (G.blk id) o } := fun o => by simp [setObj, Sem.run, h2]
      obtain ⟨q1, q2⟩ := setObjA hR hl (.stringIter s (pos + width)) (.strIter s (pos + width)) ⟨h1, set_at _ (hR.blt id hl), h3⟩
      refine ⟨.tuple #[.bool true, goInt pos, .int .i32 c], _, G, ?_, q2, q1, by simp only [VR, VRs]; exact ⟨_, rfl, _, _, rfl, rfl, _, _, rfl, rfl, _, _, rfl, rfl, rfl⟩⟩
      simp [Instr.next, hgo, hlt, hd, hs, Result.andThen]
    · rename_i hlt
      have hlt' : ¬ pos < s.size := by intro e; rw [← Nat.blt_eq] at e; rw [e] at hlt; cases hlt
      simp only [Option.some.injEq, Prod.mk.injEq] at h
      obtain ⟨rfl, rfl⟩ := h
      refine .same hR (x := .tuple #[.bool false]) ?_ (by simp only [VR, VRs]; exact ⟨_, rfl, _, _, rfl, rfl, rfl⟩)
      simp [Instr.next, hgo, hlt', Result.andThen]
  · rename_i since seen last hget hg1
    rw [Nat.beq_eq] at hg1
    subst hg1
    have hid : id < H.n := AH.lt_of_get (by rw [hget]; simp)
    have hO := hR.obj id hid
    rw [hget] at hO
    obtain ⟨h1, h3, mm, h2, h4⟩ := hO
    simp only at h4
    subst h4
    obtain rfl := p3 h1.symm
    rw [h3]
    have hgo : (getObj (G.blk id)).run T.P w = .ok (.mapIter none since ⟨seen⟩ last) w := by simp [getObj, Sem.run, h2]
    simp only [Option.some.injEq, Prod.mk.injEq] at h
    obtain ⟨rfl, rfl⟩ := h
    refine .same hR (x := .tuple #[.bool false]) ?_ (by simp only [VR, VRs]; exact ⟨_, rfl, _, _, rfl, rfl, rfl⟩)
    simp [Instr.next, hgo, Result.andThen]
  · rename_i m since seen last hget hg1
    rw [Nat.beq_eq] at hg1
    subst hg1
    split at h <;> try (cases h; done)
    rename_i es clock hgm
    have hl : (H.get id).live = true := by rw [hget]; rfl
    have hid : id < H.n := AH.lt_of_get (by rw [hget]; simp)
    have hO := hR.obj id hid
    rw [hget] at hO
    obtain ⟨h1, h3, mm, h2, h4⟩ := hO
    obtain ⟨m1, ents, m2, m3⟩ := map_block hR hgm
    obtain ⟨h4, h5, h6⟩ := h4
    obtain rfl := h6 m1
    obtain rfl := p3 h1.symm
    rw [h3]
    have hgo : (getObj (G.blk id)).run T.P w = .ok (.mapIter (some (G.blk m)) since ⟨seen⟩ last) w := by simp [getObj, Sem.run, h2]
    have hgo2 : (getObj (G.blk m)).run T.P w = .ok (.map ents clock) w := by simp [getObj, Sem.run, m2]
    have hs : ∀ o, (setObj (G.blk id) o).run T.P w = .ok () { w with heap := w.heap.setIfInBounds (G.blk id) o } := fun o => by simp [setObj, Sem.run, h2]
    have hle : ents.isEmpty = es.isEmpty := by
      have := m3.length
      cases es <;> simp_all [Array.isEmpty]
    have hall : ents.all (fun e => decide (e.born ≥ last)) = es.all (fun e => decide (e.born ≥ last)) := by
      rw [← ERs.all (fun b => decide (b ≥ last)) m3, Array.all_toList]
    have hL := ERs.filter (fun b => !seen.contains b) m3
    have hleft : ents.filter (fun e => !(Array.mk seen).contains e.born) = (ents.toList.filter fun e => !seen.contains e.born).toArray := by
      apply Array.ext'
      simp [Array.toList_filter]
    have hse : (Array.mk seen).isEmpty = seen.isEmpty := by cases seen <;> rfl
    split at h <;> try (cases h; done)
    · rename_i hgd hlo
      simp only [Option.some.injEq, Prod.mk.injEq] at h
      obtain ⟨rfl, rfl⟩ := h
      have hL0 : ents.toList.filter (fun e => !seen.contains e.born) = [] := by
        have := hL.length
        unfold leftOf at hlo
        rw [hlo] at this
        exact List.eq_nil_of_length_eq_zero this
      rw [hL0] at hleft
      refine .same hR (x := .tuple #[.bool false]) ?_ (by simp only [VR, VRs]; exact ⟨_, rfl, _, _, rfl, rfl, rfl⟩)
      simp only [Instr.next, Sem.run_bind, hgo, hgo2, Result.andThen_ok, hse, hle, hall, hgd, hleft]
      simp [Question.forced, Result.andThen]
    · rename_i e hgd hlo
      split at h <;> try (cases h; done)
      rename_i hb
      rw [Nat.blt_eq] at hb
      simp only [Option.some.injEq, Prod.mk.injEq] at h
      obtain ⟨rfl, rfl⟩ := h
      unfold leftOf at hlo
      rw [hlo] at hL
      obtain ⟨v, r, hL0, hv, hr0⟩ := hL
      simp only [ERs] at hr0
      subst hr0
      rw [hL0] at hleft
      obtain ⟨q1, q2⟩ := setObjA hR hl (.mapIter (some (G.blk m)) since ((Array.mk seen).push e.born) clock) (.mapIter (some m) since (seen ++ [e.born]) clock) ⟨h1, h3, some (G.blk m), by
        have : (Array.mk seen).push e.born = ⟨seen ++ [e.born]⟩ := by apply Array.ext'; simp
        rw [this]; exact set_at _ (hR.blt id hl), h4, h5, fun _ => rfl⟩
      refine ⟨.tuple #[.bool true, e.key, v], _, G, ?_, q2, q1, by simp only [VR, VRs]; exact ⟨_, rfl, _, _, rfl, rfl, _, _, rfl, rfl, _, _, rfl, hv, rfl⟩⟩
      have hb2 : ¬ since ≤ e.born := by omega
      simp only [Instr.next, Sem.run_bind, hgo, hgo2, Result.andThen_ok, hse, hle, hall, hgd, hleft]
      simp [Question.forced, Result.andThen, hb, hb2, hs]
def findBorn (b : Nat) : List AEnt → Option AEnt
  | [] => none
  | e :: l => match Nat.beq e.born b with
    | true => some e
    | false => findBorn b l
def lastOf : List Nat → Option Nat
  | [] => none
  | [x] => some x
  | _ :: l => lastOf l
def entryAt (H : AH) (m last : Nat) (b : Option Nat) : Option AV := match H.get m, b with
  | .map es clock, some b => match Nat.beq clock last, findBorn b es with
    | true, some e => some (.tuple [.v e.key, e.val])
    | _, _ => none
  | _, _ => none
def aEntry (u : AV) (H : AH) : Option AV := match u with
  | .ptr id g 0 => match H.get id, Nat.beq g 1 with
    | .mapAt m born last, true => entryAt H m last (some born)
    | .mapIter (some m) _ seen last, true => entryAt H m last (lastOf seen)
    | _, _ => none
  | _ => none
theorem findBorn_sound {b : Nat} : ∀ {es : List AEnt} {ms : List MapEntry} {e : AEnt}, ERs G ms es → findBorn b es = some e → ∃ m, ms.find? (·.born == b) = some m ∧ m.key = e.key ∧ VR G m.val e.val
  | [], ms, e, h, k => by simp [findBorn] at k
  | e0 :: es, ms, e, h, k => by
    obtain ⟨v, r, rfl, h1, h2⟩ := h
    simp only [findBorn] at k
    split at k
    · rename_i hb
      simp only [Option.some.injEq] at k
      subst k
      rw [Nat.beq_eq] at hb
      exact ⟨⟨e0.key, v, e0.born⟩, by simp [List.find?, hb], rfl, h1⟩
    · rename_i hb
      have hne : ¬ e0.born = b := by rintro rfl; simp at hb
      obtain ⟨m, m1, m2, m3⟩ := findBorn_sound h2 k
      refine ⟨m, ?_, m2, m3⟩
      have : (e0.born == b) = false := by simpa using hne
      simp only [List.find?_cons, this]
      exact m1
theorem lastOf_sound : ∀ {l : List Nat} {b : Nat}, lastOf l = some b → (Array.mk l).back? = some b
  | [], b, h => by simp [lastOf] at h
  | [x], b, h => by simp only [lastOf, Option.some.injEq] at h; subst h; rfl
  | x :: y :: l, b, h => by
    have := lastOf_sound (l := y :: l) (b := b) (by simpa [lastOf] using h)
    simp [Array.back?] at this ⊢
    simpa using this
theorem entryAt_sound (hR : Rel w G H) {id m last : Nat} {o mm : Option Nat} {since : Nat} {seen : Array Nat} {r : AV} (h : entryAt H m last o = some r) (hw : w.heap[G.blk id]? = some (.mapIter mm since seen last)) (hs : ∀ b, o = some b → seen.back? = some b) (hm : G.gen m = 1 → mm = some (G.blk m)) :
    RunsV T.P (Instr.entry (.pointer (some ⟨G.blk id, 0, none⟩))) w G H r H := by
  unfold entryAt at h
  split at h <;> try (cases h; done)
  rename_i es clock b hgm
  split at h <;> try (cases h; done)
  rename_i e hc hf
  simp only [Option.some.injEq] at h
  subst h
  rw [Nat.beq_eq] at hc
  subst hc
  obtain ⟨m1, ents, m2, m3⟩ := map_block hR hgm
  obtain rfl := hm m1
  obtain ⟨x, x1, x2, x3⟩ := findBorn_sound m3 hf
  have hgo : (getObj (G.blk id)).run T.P w = .ok (.mapIter (some (G.blk m)) since seen clock) w := by simp [getObj, Sem.run, hw]
  have hgo2 : (getObj (G.blk m)).run T.P w = .ok (.map ents clock) w := by simp [getObj, Sem.run, m2]
  have hfa : ents.find? (·.born == b) = some x := by rw [← Array.find?_toList]; exact x1
  refine .same hR (x := .tuple #[x.key, x.val]) ?_ (by simp only [VR, VRs]; exact ⟨_, rfl, _, _, rfl, x2, _, _, rfl, x3, rfl⟩)
  simp only [Instr.entry, Sem.run_bind, hgo, hgo2, hs b rfl, Result.andThen_ok]
  simp [hfa, Result.andThen]
theorem aEntry_sound (hR : Rel w G H) {x : Value} {u r : AV} (hx : VR G x u) (h : aEntry u H = some r) : RunsV T.P (Instr.entry x) w G H r H := by
  unfold aEntry at h
  split at h <;> try (cases h; done)
  rename_i id g
  simp only [VR] at hx
  obtain ⟨p1, p2, a, rfl, p3⟩ := hx
  split at h <;> try (cases h; done)
  · rename_i m born last hget hg1
    rw [Nat.beq_eq] at hg1
    subst hg1
    have hid : id < H.n := AH.lt_of_get (by rw [hget]; simp)
    have hO := hR.obj id hid
    rw [hget] at hO
    obtain ⟨h1, h3, mm, since, seen, h2, h4, h5, h6⟩ := hO
    obtain rfl := p3 h1.symm
    rw [h3]
    exact entryAt_sound hR h h2 (fun b hb => by simp only [Option.some.injEq] at hb; subst hb; simp) (fun e => by rw [h6 e])
  · rename_i m since seen last hget hg1
    rw [Nat.beq_eq] at hg1
    subst hg1
    have hid : id < H.n := AH.lt_of_get (by rw [hget]; simp)
    have hO := hR.obj id hid
    rw [hget] at hO
    obtain ⟨h1, h3, mm, h2, h4⟩ := hO
    simp only at h4
    obtain ⟨h4, h5, h6⟩ := h4
    obtain rfl := p3 h1.symm
    rw [h3]
    exact entryAt_sound hR h h2 (fun b hb => lastOf_sound hb) h6
def isByteT (T : Tab) (t : TypeId) : Bool := match T.underlying t with
  | some (.slice e) => match T.underlying e with
    | some (.int .u8) => true
    | _ => false
  | _ => false
def isStrT (T : Tab) (t : TypeId) : Bool := match T.underlying t with
  | some .string => true
  | _ => false
def toBytes : List AV → ByteArray → Option ByteArray
  | [], s => some s
  | .v (.int .u8 n) :: r, s => toBytes r (s.push (UInt8.ofNat n.toNat))
  | _, _ => none
theorem toBytes_sound : ∀ {us : List AV} {xs : List Value} {s r : ByteArray}, VRs G xs us → toBytes us s = some r → ∃ ns : List Int, xs = ns.map (Value.int .u8) ∧ r = ns.foldl (fun r n => r.push (UInt8.ofNat n.toNat)) s
  | [], xs, s, r, h, k => by simp only [VRs] at h; subst h; simp only [toBytes, Option.some.injEq] at k; exact ⟨[], rfl, k.symm⟩
  | u :: us, xs, s, r, h, k => by
    simp only [VRs] at h
    obtain ⟨y, ys, rfl, h1, h2⟩ := h
    cases u with
    | v x => cases x with
      | int kd n => cases kd with
        | u8 =>
          simp only [toBytes] at k
          simp only [VR] at h1
          subst h1
          obtain ⟨ns, rfl, hr⟩ := toBytes_sound h2 k
          exact ⟨n :: ns, rfl, hr⟩
        | _ => simp [toBytes] at k
      | _ => simp [toBytes] at k
    | _ => simp [toBytes] at k
def aConvert (T : Tab) (src dst : TypeId) (u : AV) (H : AH) : Option (AV × AH) := match u with
  | .v (.string s) => match isStrT T src && isByteT T dst with
    | true => some (.sl H.n 1 0 s.size 1 s.size, H.push (.cells (s.data.toList.map fun b => .v (.int .u8 b.toNat)) 1 0))
    | false => none
  | u => match isByteT T src && isStrT T dst, srcLen u with
    | true, some n => match srcRead 1 n u H with
      | some us => match toBytes us ByteArray.empty with
        | some s => some (.v (.string s), H)
        | none => none
      | none => none
    | _, _ => none
theorem isByteT_iff {t : TypeId} (h : isByteT T t = true) : ∃ e, T.underlying t = some (.slice e) ∧ T.underlying e = some (.int .u8) := by
  unfold isByteT at h
  split at h <;> try (cases h; done)
  rename_i e hu
  split at h <;> try (cases h; done)
  exact ⟨e, hu, by assumption⟩
theorem isStrT_iff {t : TypeId} (h : isStrT T t = true) : T.underlying t = some .string := by
  unfold isStrT at h
  split at h <;> try (cases h; done)
  assumption
theorem aConvert_sound (hR : Rel w G H) {src dst : TypeId} {x : Value} {u r : AV} {H' : AH} (hx : VR G x u) (h : aConvert T src dst u H = some (r, H')) : RunsV T.P (convert src dst x) w G H r H' := by
  unfold aConvert at h
  split at h
  · rename_i s
    split at h <;> try (cases h; done)
    rename_i hc
    rw [Bool.and_eq_true] at hc
    have hs := isStrT_iff hc.1
    obtain ⟨e, hd, he⟩ := isByteT_iff hc.2
    simp only [Option.some.injEq, Prod.mk.injEq] at h
    obtain ⟨rfl, rfl⟩ := h
    simp only [VR] at hx
    subst hx
    obtain ⟨cap, hcap, hle⟩ : ∃ cap, (Question.appendCap s.size 0 e).cut (w.tape w.drawn (.appendCap s.size 0 e)) = cap ∧ s.size ≤ cap := ⟨_, rfl, by simp only [Question.cut]; omega⟩
    obtain ⟨A, hA⟩ : ∃ A, (s.data.map fun b => Value.int .u8 b.toNat) ++ Array.replicate (cap - s.size) (Value.int .u8 0) = A := ⟨_, rfl⟩
    have hAs : A.size = cap := by rw [← hA]; simp; omega
    have hch : (choose (.appendCap s.size 0 e)).run T.P w = .ok cap w.drew := by rw [run_choose_drew, ← hcap]; rfl
    have hw : ∃ w', (Conv.stringToBytes e s).run T.P w = .ok (.slice (some ⟨w.heap.size, 0, none⟩) s.size cap) w' ∧ w'.heap = w.heap.push (.cells A e (A.size, A.size + 1)) ∧ w'.os = w.os ∧ w'.tape = w.tape ∧ w'.output = w.output := by
      refine ⟨(w.drew.alloc (.cells A e)).freeze { block := w.heap.size, off := A.size } 1, ?_, ?_, rfl, rfl, rfl⟩
      · have hsh : (shape w.heap.size).run T.P (w.drew.alloc (.cells A e)) = .ok (some (e, A.size)) (w.drew.alloc (.cells A e)) := by
          have : (w.drew.alloc (.cells A e)).heap[w.heap.size]? = some (.cells A e (0, 0)) := push_new _ _
          unfold shape Sem.run World.shape?; rw [this]; rfl
        simp [-run_choose, -run_choose_drew, Conv.stringToBytes, hch, hA, newRow, markStringish, hsh, freeze, Sem.run, Result.andThen]
      · simp only [World.freeze]
        apply Array.ext_getElem?
        intro i
        have hh : (w.drew.alloc (.cells A e)).heap = w.heap.push (.cells A e (0, 0)) := rfl
        rw [if_neg (by omega)]
        simp only [hh, Array.getElem?_modify, Array.getElem?_push]
        by_cases hi : i = w.heap.size
        · subst hi; simp
        · rw [if_neg (Ne.symm hi), if_neg hi, if_neg hi]
    obtain ⟨w', r1, r2, r3, r4, r5⟩ := hw
    obtain ⟨G', g1, g2, _, g4⟩ := pushCells hR A e (A.size, A.size + 1) (s.data.toList.map fun b => .v (.int .u8 b.toNat)) (by
      have h1 : (s.data.toList.map fun b => AV.v (.int .u8 b.toNat)) = (s.data.toList.map fun b => Value.int .u8 b.toNat).map AV.v := by simp [List.map_map, Function.comp_def]
      have h2 : A.toList.take (s.data.toList.map fun b => AV.v (.int .u8 b.toNat)).length = s.data.toList.map fun b => Value.int .u8 b.toNat := by
        rw [← hA]; simp
      rw [h2, h1]; exact VRs.map_v G _) (by simp [hAs]; exact hle) (by intro k hk hc; omega) 0 XR.zero r2 r3 r4 r5
    refine ⟨_, w', G', ?_, g1, g2, g4 s.size cap 1 s.size ⟨Nat.le_refl _, hle⟩ (by omega)⟩
    simp [convert, run_underlying hs, run_underlying hd, run_underlying he, r1, Result.andThen]
  · split at h <;> try (cases h; done)
    rename_i n hc hn
    rw [Bool.and_eq_true] at hc
    obtain ⟨e, hs, he⟩ := isByteT_iff hc.1
    have hd := isStrT_iff hc.2
    split at h <;> try (cases h; done)
    rename_i us hus
    split at h <;> try (cases h; done)
    rename_i s hsb
    simp only [Option.some.injEq, Prod.mk.injEq] at h
    obtain ⟨rfl, rfl⟩ := h
    obtain ⟨xs, x1, x2, x3⟩ := srcRead_sound (T := T) hR hx hus
    obtain ⟨ns, rfl, hr⟩ := toBytes_sound x2 hsb
    have hlen := srcLen_sound (T := T) hx hn w
    have key : ∀ a len cap, x = .slice (some a) len cap → len = n → RunsV T.P (convert src dst x) w G H (.v (.string s)) H := by
      intro a len cap hxe hln
      subst hxe hln
      have hl : (loadCells a len).run T.P w = .ok (ns.map (Value.int .u8)).toArray w := by
        have := x3
        simpa [Builtin.firstCells] using this
      refine .same hR (x := .string s) ?_ (by simp [VR])
      rw [run_convert_bytes_string w src dst e _ _ _ (Tab.und_ok hs) (Tab.und_ok he) (Tab.und_ok hd), run_bytesToString w a len cap ns hl, hr]
    unfold srcLen at hn
    split at hn <;> simp only [Option.some.injEq, reduceCtorEq] at hn
    · subst hn
      have hx' := hx
      simp only [VR] at hx'
      obtain ⟨_, _, a, cap, rfl, _⟩ := hx'
      exact key a _ cap rfl rfl
    · subst hn
      have hx' := hx
      simp only [VR] at hx'
      obtain ⟨_, _, _, _, cap, _, rfl, _⟩ := hx'
      exact key _ _ cap rfl rfl
    · subst hn
      have hx' := hx
      simp only [VR] at hx'
      obtain ⟨a, rfl⟩ := hx'
      exact key a 0 0 rfl rfl
    · subst hn
      simp only [VR] at hx
      subst hx
      refine .same hR (x := .string s) ?_ (by simp [VR])
      have : ns = [] := by
        have := x1
        simp at this
        exact this
      subst this
      rw [run_convert_bytes_string w src dst e _ _ _ (Tab.und_ok hs) (Tab.und_ok he) (Tab.und_ok hd)]
      simp [Conv.bytesToString, hr]
    · rename_i s' hno
      exact absurd rfl (hno _)
end
end Go.Proofs.Ytlajcmoiopaemaa
