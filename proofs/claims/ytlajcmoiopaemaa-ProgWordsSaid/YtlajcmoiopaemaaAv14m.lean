/- A loop over a map of which but one entry changes nothing: whatever the order, it comes to the same. No program in sight. -/
import Derived.Test.YtlajcmoiopaemaaAv14
import Derived.Test.YtlajcmoiopaemaaAv10c
set_option linter.unusedVariables false
set_option linter.unusedSimpArgs false
noncomputable section
namespace Go.Proofs.Ytlajcmoiopaemaa
theorem sameO_eq {a b : Option AV} (h : sameO a b = true) : a = b := by
  unfold sameO at h
  split at h
  · rfl
  · rw [AV.same_eq _ _ h]
  · cases h
theorem HT.sameT_eq : ∀ {a b : HT AV}, HT.sameT a b = true → a = b
  | .e, .e, _ => rfl
  | .e, .n .., h => by simp [HT.sameT] at h
  | .n .., .e, h => by simp [HT.sameT] at h
  | .n a o b, .n c p d, h => by
    simp only [HT.sameT, Bool.and_eq_true] at h
    rw [HT.sameT_eq h.1, sameO_eq h.2.1, HT.sameT_eq h.2.2]
theorem HT.get_onlyT (H : AH) : ∀ (ks : List Nat) (j : Nat), (onlyT H ks).get j = if j ∈ ks then some (H.get j) else none
  | [], j => by simp [onlyT, HT.get_e]
  | k :: ks, j => by
    simp only [onlyT, HT.get_put _ _ _ _ _ (Nat.lt_succ_self k), HT.get_onlyT H ks j, List.mem_cons]
    by_cases e : j = k
    · subst e; simp
    · simp [e]
theorem AH.get_only (H : AH) (ks : List Nat) (j : Nat) : (H.only ks).get j = if j ∈ ks then H.get j else .dead := by
  rw [AH.get_eq]
  show (if j < H.n then ((onlyT H ks).get j).getD .dead else .dead) = _
  rw [HT.get_onlyT]
  by_cases h : j < H.n
  · rw [if_pos h]; split <;> rfl
  · rw [if_neg h, AH.get_out h]; split <;> rfl
/-- two heaps, laid together -/
def AH.merge (S : Nat → Bool) (A : AH) : Nat → AH → AH
  | 0, H => H
  | k + 1, H => match S k with
    | true => (AH.merge S A k H).set k (A.get k)
    | false => AH.merge S A k H
theorem AH.merge_n (S : Nat → Bool) (A : AH) : ∀ (k : Nat) (H : AH), (AH.merge S A k H).n = H.n
  | 0, H => rfl
  | k + 1, H => by simp only [AH.merge]; split; exact AH.merge_n S A k H; exact AH.merge_n S A k H
theorem AH.merge_get (S : Nat → Bool) (A : AH) : ∀ (k : Nat) (H : AH) (j : Nat), k ≤ H.n → (AH.merge S A k H).get j = if j < k ∧ S j = true then A.get j else H.get j
  | 0, H, j, _ => by rw [if_neg (by omega)]; rfl
  | k + 1, H, j, hk => by
    have ih := AH.merge_get S A k H j (by omega)
    simp only [AH.merge]
    split
    · rename_i hs
      rw [AH.get_set, AH.merge_n]
      by_cases e : j = k
      · subst e; rw [if_pos rfl, if_pos (by omega), if_pos ⟨by omega, hs⟩]
      · rw [if_neg e, ih]
        by_cases h : j < k ∧ S j = true
        · rw [if_pos h, if_pos ⟨by omega, h.2⟩]
        · rw [if_neg h, if_neg (fun h2 => h ⟨by omega, h2.2⟩)]
    · rename_i hs
      rw [ih]
      by_cases h : j < k ∧ S j = true
      · rw [if_pos h, if_pos ⟨by omega, h.2⟩]
      · rw [if_neg h, if_neg (fun h2 => by
          by_cases e : j = k
          · subst e; rw [hs] at h2; cases h2.2
          · exact h ⟨by omega, h2.2⟩)]
theorem maskT_get : ∀ {l : List Tmp} {ts : HT AV} {t : Nat}, t ∉ l → (maskT l ts).get t = ts.get t
  | [], _, _, _ => rfl
  | d :: l, ts, t, h => by
    simp only [List.mem_cons, not_or] at h
    simp only [maskT]
    rw [maskT_get h.2, HT.get_upd, if_neg h.1]
theorem maskT_rel {G : Gh} {xs : List Value} {l : List Tmp} {ts : HT AV} (h : TRel G xs ts) : TRel G xs (maskT l ts) := by
  intro i
  have hi := h i
  cases ht : ts.get i with
  | none =>
    rw [ht] at hi
    rw [(maskT_dom i).2 ht]; exact hi
  | some u =>
    rw [ht] at hi
    obtain ⟨y, h1, h2⟩ := hi
    cases hm : (maskT l ts).get i with
    | none => rw [(maskT_dom i).1 hm] at ht; cases ht
    | some v =>
      refine ⟨y, h1, ?_⟩
      rcases maskT_keep hm with rfl | ⟨_, h3⟩
      · simp [VR]
      · rw [ht] at h3; simp only [Option.some.injEq] at h3; subst h3; exact h2
/-! ### what the iterator does -/
theorem run_next_left {P : Program} {w : World} {b bm since last : Nat} {seen : Array Nat} {es : Array MapEntry} {clock : Nat} (hb : w.heap[b]? = some (.mapIter (some bm) since seen last)) (hm : w.heap[bm]? = some (.map es clock)) (hold : ∀ x ∈ es.toList, x.born < since) (hsl : since ≤ last) (ty : TypeId) :
    (es.toList.filter (fun e => !seen.contains e.born) = [] ∧ (Instr.next (.pointer (some ⟨b, 0, none⟩)) false ty).run P w = .ok (.tuple #[.bool false]) w) ∨
    ∃ e ∈ es.toList, seen.contains e.born = false ∧ ∃ dn, (Instr.next (.pointer (some ⟨b, 0, none⟩)) false ty).run P w = .ok (.tuple #[.bool true, e.key, e.val]) { w with heap := w.heap.setIfInBounds b (.mapIter (some bm) since (seen.push e.born) clock), drawn := dn } := by
  have hg : (getObj b).run P w = .ok (.mapIter (some bm) since seen last) w := by simp [getObj, Sem.run, hb]
  have hg2 : (getObj bm).run P w = .ok (.map es clock) w := by simp [getObj, Sem.run, hm]
  have htest : (!seen.isEmpty && !es.isEmpty && es.all (fun x => decide (x.born ≥ last))) = false := by
    cases he : es.isEmpty with
    | true => simp
    | false =>
      have : es.all (fun x => decide (x.born ≥ last)) = false := by
        rw [Bool.eq_false_iff]
        intro h
        rw [← Array.all_toList, List.all_eq_true] at h
        cases hl : es.toList with
        | nil =>
          have : es = #[] := Array.toList_eq_nil_iff.1 hl
          subst this; simp at he
        | cons x l =>
          have h1 := h x (by rw [hl]; simp)
          have h2 := hold x (by rw [hl]; simp)
          simp at h1; omega
      simp [this]
  have hF : ∀ (p : MapEntry → Bool), (es.filter p).toList = es.toList.filter p := fun p => Array.toList_filter
  generalize hL : es.filter (fun e => !seen.contains e.born) = L
  have hLl : L.toList = es.toList.filter (fun e => !seen.contains e.born) := by rw [← hL, hF]
  have hmem : ∀ x ∈ L.toList, x ∈ es.toList ∧ seen.contains x.born = false ∧ x.born < since := fun x hx => by
    rw [hLl, List.mem_filter] at hx
    exact ⟨hx.1, by simpa using hx.2, hold x hx.1⟩
  have e1 : L.filter (fun x => decide (x.born < since)) = L := Array.filter_eq_self.2 (fun x hx => by simpa using (hmem x (by simpa using hx)).2.2)
  have e2 : L.filter (fun x => decide (x.born ≥ since)) = #[] := by
    rw [Array.filter_eq_empty_iff]
    intro x hx
    have := (hmem x (by simpa using hx)).2.2
    simp; omega
  by_cases h0 : L.size = 0
  · left
    have : L = #[] := Array.eq_empty_of_size_eq_zero h0
    subst this
    refine ⟨by rw [← hLl], ?_⟩
    simp only [Instr.next, Sem.run_bind, hg, hg2, Result.andThen_ok, htest, hL]
    simp [choose, Sem.run, Question.forced, Result.andThen]
  · right
    have hne : L.isEmpty = false := by simp [Array.isEmpty, h0]
    have hch : ∃ (j dn : Nat), j < L.size ∧ (choose (Question.mapNext L.size)).run P w = .ok j { w with drawn := dn } := by
      by_cases hf : L.size ≤ 1
      · exact ⟨0, w.drawn, by omega, by simp [choose, Sem.run, Question.forced, hf]⟩
      · exact ⟨_, w.drawn + 1, Nat.mod_lt _ (by omega), by
          simp only [choose, Sem.run, Question.forced, decide_eq_true_eq, hf, if_false, Question.cut]
          rfl⟩
    obtain ⟨j, dn, hj, hrun⟩ := hch
    obtain ⟨m1, m2, m3⟩ := hmem L[j] (by simp)
    refine ⟨L[j], m1, m2, dn, ?_⟩
    have hset : ∀ o', (setObj b o').run P { w with drawn := dn } = .ok () { w with heap := w.heap.setIfInBounds b o', drawn := dn } := fun o' => by simp [setObj, Sem.run, hb]
    simp only [Instr.next, Sem.run_bind, hg, hg2, Result.andThen_ok, htest, hL, e1, e2, Array.append_empty, hne, Bool.false_eq_true, if_false, Array.empty_append, Array.size_map, hrun, Array.getElem?_map, Array.getElem?_eq_getElem hj, Option.map_some, hset, Sem.run_pure]
theorem run_entry_at {P : Program} {w : World} {b bm since last : Nat} {seen : Array Nat} {es : Array MapEntry} {k : Nat} {x : MapEntry} (hb : w.heap[b]? = some (.mapIter (some bm) since (seen.push k) last)) (hm : w.heap[bm]? = some (.map es last)) (hx : es.toList.find? (·.born == k) = some x) :
    (Instr.entry (.pointer (some ⟨b, 0, none⟩))).run P w = .ok (.tuple #[x.key, x.val]) w := by
  have hg : (getObj b).run P w = .ok (.mapIter (some bm) since (seen.push k) last) w := by simp [getObj, Sem.run, hb]
  have hg2 : (getObj bm).run P w = .ok (.map es last) w := by simp [getObj, Sem.run, hm]
  have hfa : es.find? (·.born == k) = some x := by rw [← Array.find?_toList]; exact hx
  have hbk : (seen.push k).back? = some k := by simp
  simp only [Instr.entry, Sem.run_bind, hg, hg2, hbk, Result.andThen_ok]
  simp [hfa, Result.andThen]
theorem bornOk_spec {c : Nat} : ∀ {es : List AEnt}, bornOk c es = true → (∀ x ∈ es, x.born < c) ∧ ∀ x ∈ es, findBorn x.born es = some x
  | [], _ => ⟨fun x h => by simp at h, fun x h => by simp at h⟩
  | e :: l, h => by
    simp only [bornOk, Bool.and_eq_true, Nat.ble_eq, Bool.not_eq_true', List.any_eq_false] at h
    obtain ⟨h1, h2, h3⟩ := h
    obtain ⟨i1, i2⟩ := bornOk_spec h3
    refine ⟨fun x hx => ?_, fun x hx => ?_⟩
    · rcases List.mem_cons.1 hx with rfl | hx
      · omega
      · exact i1 x hx
    · rcases List.mem_cons.1 hx with rfl | hx
      · have : Nat.beq x.born x.born = true := by rw [Nat.beq_eq]
        simp [findBorn, this]
      · have hne : Nat.beq e.born x.born = false := by
          rw [Bool.eq_false_iff]; intro h; rw [Nat.beq_eq] at h
          have := h2 x hx
          rw [← h] at this
          simp at this
        simp only [findBorn, hne]
        exact i2 x hx
theorem ERs.mem {G : Gh} : ∀ {es : List AEnt} {ms : List MapEntry} {m : MapEntry}, ERs G ms es → m ∈ ms → ∃ e ∈ es, m.key = e.key ∧ m.born = e.born ∧ VR G m.val e.val
  | [], ms, m, h, hm => by simp only [ERs] at h; subst h; simp at hm
  | e :: es, ms, m, ⟨v, r, h0, h1, h2⟩, hm => by
    subst h0
    rcases List.mem_cons.1 hm with rfl | hm
    · exact ⟨e, by simp, rfl, rfl, h1⟩
    · obtain ⟨e', a, b⟩ := ERs.mem h2 hm
      exact ⟨e', by simp [a], b⟩
theorem ERs.mem' {G : Gh} : ∀ {es : List AEnt} {ms : List MapEntry} {e : AEnt}, ERs G ms es → e ∈ es → ∃ m ∈ ms, m.born = e.born
  | [], ms, e, h, hm => by simp at hm
  | e0 :: es, ms, e, ⟨v, r, h0, h1, h2⟩, hm => by
    subst h0
    rcases List.mem_cons.1 hm with rfl | hm
    · exact ⟨⟨e.key, v, e.born⟩, by simp, rfl⟩
    · obtain ⟨m, a, b⟩ := ERs.mem' h2 hm
      exact ⟨m, by simp [a], b⟩
section
variable {T : Tab} {w : World} {G : Gh} {H H' : AH} {e : Ev}
/-- a block that nobody tells of has changed -/
theorem Rel.beside (hR : Rel w G H) {b : Nat} (hb : ∀ j, (H.get j).live = true → G.blk j ≠ b) (hz : G.z b = none) {w' : World} {o : Obj} {dn : Nat} (hw : w' = { w with heap := w.heap.setIfInBounds b o, drawn := dn }) : Rel w' G H := by
  have hs : ∀ k, k ≠ b → w'.heap[k]? = w.heap[k]? := fun k hk => by subst hw; simp [Array.getElem?_setIfInBounds_ne (Ne.symm hk)]
  have hsz : w'.heap.size = w.heap.size := by subst hw; simp
  refine ⟨hR.n, fun id hid => ?_, hR.born, fun id hid hg => by rw [hsz]; exact hR.blt' id hid hg, hR.inj, hR.zout, fun k a h => ?_⟩
  · by_cases hl : (H.get id).live = true
    · exact (hR.obj id hid).mono (.refl G) (by rw [hR.n]; exact hid) rfl (hs _ (hb id hl))
    · exact OR.dead_of (by simpa using hl)
  · obtain ⟨t, fr, h1⟩ := hR.zin k a h
    exact ⟨t, fr, by rw [hs k (fun e => by subst e; rw [hz] at h; cases h)]; exact h1⟩
structure MapCode (x : Code) (sh : MSh) : Prop where
  out : ∃ (r0 : Nat) (o1 o2 : Oper) (r3 : Nat) (o3 : Oper) (tl : List Oper), x = .seq (.region r0 #[o1, o2] false) (.seq (.cond (.tmp sh.d2) .skip (.exit sh.xid)) (.block sh.b1 (.seq (.region r3 sh.bops false) sh.rest))) ∧
    o1.dst = some sh.d1 ∧ o1.op = .next (.tmp sh.it) false ∧ o1.guard = none ∧ o2.dst = some sh.d2 ∧ o2.op = .extract (.tmp sh.d1) 0 ∧ o2.guard = none ∧
    sh.bops.toList = o3 :: tl ∧ o3.dst = some sh.d3 ∧ o3.op = .entry (.tmp sh.it) ∧ o3.guard = none
  it : sh.it ∉ sh.asg
  i1 : sh.it ≠ sh.d1
  i2 : sh.it ≠ sh.d2
  d : sh.d1 ≠ sh.d2
theorem ops2_spec {l : List Oper} {it d1 d2 : Tmp} (h : ops2 l = some (it, d1, d2)) : ∃ o1 o2, l = [o1, o2] ∧ o1.dst = some d1 ∧ o1.op = .next (.tmp it) false ∧ o1.guard = none ∧ o2.dst = some d2 ∧ o2.op = .extract (.tmp d1) 0 ∧ o2.guard = none := by
  unfold ops2 at h
  split at h <;> try (cases h; done)
  split at h <;> try (cases h; done)
  rename_i hb
  rw [Nat.beq_eq] at hb
  simp only [Option.some.injEq, Prod.mk.injEq] at h
  obtain ⟨rfl, rfl, rfl⟩ := h
  subst hb
  exact ⟨_, _, rfl, rfl, rfl, rfl, rfl, rfl, rfl⟩
theorem op3_spec {l : List Oper} {it d3 : Tmp} (h : op3 l = some (it, d3)) : ∃ o3 tl, l = o3 :: tl ∧ o3.dst = some d3 ∧ o3.op = .entry (.tmp it) ∧ o3.guard = none := by
  unfold op3 at h
  split at h <;> simp only [Option.some.injEq, Prod.mk.injEq, reduceCtorEq] at h
  obtain ⟨rfl, rfl⟩ := h
  exact ⟨_, _, rfl, rfl, rfl, rfl⟩
theorem mapSh_spec {x : Code} {sh : MSh} (h : mapSh x = some sh) : MapCode x sh := by
  unfold mapSh at h
  split at h <;> try (cases h; done)
  rename_i r0 ops d2' xid b1 r3 bops rest
  unfold mkSh at h
  split at h <;> try (cases h; done)
  rename_i it d1 d2 it' d3 asg h2 h3 hasg
  split at h <;> simp only [Option.some.injEq, reduceCtorEq] at h
  rename_i hc
  subst h
  simp only [Bool.and_eq_true, Nat.beq_eq, Bool.not_eq_true'] at hc
  obtain ⟨c1, c2, c3, c4⟩ := hc
  subst c1 c2
  obtain ⟨o1, o2, hl, q1, q2, q3, q4, q5, q6⟩ := ops2_spec h2
  obtain ⟨o3, tl, hb, p1, p2, p3⟩ := op3_spec h3
  have hops : ops = #[o1, o2] := by apply Array.ext'; simpa using hl
  subst hops
  have hit : it ∉ d1 :: d2 :: (dstsO bops.toList ++ asg) := fun hm => by rw [memN_iff.2 hm] at c4; cases c4
  simp only [List.mem_cons, not_or] at hit
  refine ⟨⟨r0, o1, o2, r3, o3, tl, rfl, q1, q2, q3, q4, q5, q6, hb, p1, p2, p3⟩, ?_, hit.1, hit.2.1, ?_⟩
  · simp only [List.mem_cons, not_or]; exact hit
  · intro he
    have he : d1 = d2 := he
    have : Nat.beq d1 d2 = true := by rw [Nat.beq_eq]; exact he
    rw [this] at c3; cases c3
/-- the round's body, behind the entry that it takes -/
theorem bodyM_ok (E : EvOk T e) {r : Option Nat} {sh : MSh} {x : Code} (hx : MapCode x sh) {a : AAct} {u : AV} {xx : AExit} {a' : AAct} (h : bodyM T e r sh { a with tmps := a.tmps.upd sh.d3 u } H = some (xx, a', H'))
    {w0 : World} {G0 : Gh} {H0 : AH} {ca : Act} {rr : Option Nat} {v : Value} (hE : Ext w0 G0 H0 w G H) (hR : Rel w G H) (hA : ARel G ca a) (hr : RR G rr r) (hv : VR G v u) (hent : (Instr.entry (ca.eval (.tmp sh.it))).run T.P w = .ok v w) (r3 : Nat) :
    (Code.block sh.b1 (.seq (.region r3 sh.bops false) sh.rest)).wpIn (FR rr) 0 T.P (Next' T.P w0 G0 H0 xx a' H') ca w := by
  obtain ⟨_, _, _, _, o3, tl, _, _, _, _, _, _, _, hb, p1, p2, p3⟩ := hx.out
  unfold bodyM at h
  cases hev : evOps T e.F e.Y r sh.bops (sh.bops.toList.drop 1) { a with tmps := a.tmps.upd sh.d3 u } H with
  | none => rw [hev] at h; simp [thenC, blockC] at h
  | some y =>
    obtain ⟨x1, a1, H1⟩ := y
    rw [hev] at h
    have hA3 : ARel G (ca.put (some sh.d3) v) { a with tmps := a.tmps.upd sh.d3 u } := hA.put (some sh.d3) hv
    have hsz : sh.bops.size = tl.length + 1 := by have := congrArg List.length hb; simpa using this
    have hreg : (Code.region r3 sh.bops false).wpIn (FR rr) 0 T.P (Next' T.P w G H x1 a1 H1) ca w := by
      refine wpIn_region ?_
      rw [List.range_eq_range', hsz, List.range'_succ]
      have h0 : sh.bops[0]? = some o3 := by rw [← Array.getElem?_toList, hb]; rfl
      simp only [wpOpsIn, h0]
      have hw : Region.wanted o3 (yielded sh.bops ca.tmps) = true := by unfold Region.wanted; rw [p3]
      rw [if_pos hw]
      refine ⟨about_wide rr o3 w _, ?_⟩
      have hsem : o3.semAt (FR rr).round ca.eval = execOp ca.eval o3 := semAt_eq (.inr (fun c hc => by rw [p2] at hc; cases hc))
      rw [hsem]
      have hrun : (execOp ca.eval o3).run T.P w = .ok (.value v) w := by
        simp only [execOp, p2, Sem.run_bind, hent, Result.andThen_ok, Sem.run_pure]
      rw [hrun, Oper.uponIn_value, p1]
      have := evOps_sound E.F E.Y (sh.bops.toList.drop 1) 1 rfl _ _ _ _ _ hev w w G G H _ rr (.refl w G H) hR hA3 hr
      rw [hsz] at this
      exact this
    refine wpIn_block (wpIn_seq (wpIn_mono hreg (fun ce ca' w' hq => ?_)))
    obtain ⟨G', e1, r1, A1, hx1⟩ := hq
    have out : ∀ {x2 : AExit} {a2 : AAct} {H2 : AH}, blockC sh.b1 (some (x2, a2, H2)) = some (xx, a', H') → ∀ {ce : Exit} {ca2 : Act} {w2 : World}, Next' T.P w0 G0 H0 x2 a2 H2 ce ca2 w2 → Exit.inBlock sh.b1 (Next' T.P w0 G0 H0 xx a' H') ce ca2 w2 := by
      intro x2 a2 H2 h ce ca2 w2 hq
      obtain ⟨G', e1, r1, A1, hx1⟩ := hq
      cases x2 with
      | exit j =>
        simp only [blockC] at h
        cases ce <;> simp only [ExRel] at hx1
        subst hx1
        simp only [Exit.inBlock]
        split at h
        · rename_i hj
          rw [Nat.beq_eq] at hj
          simp only [Option.some.injEq, Prod.mk.injEq] at h
          obtain ⟨rfl, rfl, rfl⟩ := h
          rw [if_pos hj]
          exact ⟨G', e1, r1, A1, trivial⟩
        · rename_i hj
          have hj' : ¬ _ = sh.b1 := fun e => by rw [← Nat.beq_eq, hj] at e; cases e
          simp only [Option.some.injEq, Prod.mk.injEq] at h
          obtain ⟨rfl, rfl, rfl⟩ := h
          rw [if_neg hj']
          exact ⟨G', e1, r1, A1, rfl⟩
      | _ =>
        simp only [blockC, Option.some.injEq, Prod.mk.injEq] at h
        obtain ⟨rfl, rfl, rfl⟩ := h
        cases ce <;> simp only [ExRel] at hx1 <;> exact ⟨G', e1, r1, A1, hx1⟩
    cases x1 with
    | normal =>
      simp only [thenC] at h
      cases ce <;> simp only [ExRel] at hx1
      cases hrest : e.C r sh.rest a1 H1 with
      | none => rw [hrest] at h; simp [blockC] at h
      | some y2 =>
        obtain ⟨x2, a2, H2⟩ := y2
        rw [hrest] at h
        exact wpIn_mono ((E.C _ _ _ _ _ _ _ hrest).wp (hE.trans e1) r1 A1 (hr.mono e1.le)) (fun ce2 ca2 w2 hq2 => out h hq2)
    | _ =>
      simp only [thenC] at h
      cases ce <;> simp only [ExRel] at hx1 <;> (simp only [Exit.then]; exact out h (show Next' T.P w0 G0 H0 _ a1 H1 _ ca' w' from ⟨G', hE.trans e1, r1, A1, hx1⟩))
structure MapState (sh : MSh) (a : AAct) (H : AH) (st : MSt) : Prop where
  iter : H.get st.id = .mapIter (some st.m) st.clock [] st.clock
  map : H.get st.m = .map st.es st.clock
  born : bornOk st.clock st.es = true
  tmp : a.tmps.or sh.it = .ptr st.id 1 0
  df : a.defers = []
  d1 : (a.tmps.get sh.d1).isSome = true
  d2 : (a.tmps.get sh.d2).isSome = true
  a0 : st.a0 = ⟨maskT sh.asg a.tmps, []⟩
  H0 : st.H0 = H.set st.id .dead
theorem mapSt_spec {sh : MSh} {a : AAct} {H : AH} {st : MSt} (h : mapSt0 sh a H (a.tmps.or sh.it) = some st) : MapState sh a H st := by
  unfold mapSt0 at h
  split at h <;> try (cases h; done)
  rename_i id htmp
  unfold mapSt1 at h
  split at h <;> try (cases h; done)
  rename_i m since last hget
  split at h <;> try (cases h; done)
  rename_i hsl
  rw [Nat.beq_eq] at hsl
  subst hsl
  unfold mapSt2 at h
  split at h <;> try (cases h; done)
  rename_i e1 e2 es clock hmap
  split at h <;> try (cases h; done)
  rename_i hlc
  rw [Nat.beq_eq] at hlc
  subst hlc
  unfold mapSt3 at h
  split at h <;> simp only [Option.some.injEq, reduceCtorEq] at h
  rename_i hb
  simp only [Bool.and_eq_true] at hb
  obtain ⟨b1, b2, b3, b4⟩ := hb
  subst h
  refine ⟨hget, hmap, b1, htmp, ?_, b3, b4, rfl, rfl⟩
  split at b2
  · assumption
  · cases b2
theorem leaves_mem {r : Option Nat} {sh : MSh} {st : MSt} : ∀ {l : List AEnt} {x : AEnt}, x ∈ l → x ∈ leaves T e r sh st l ∨ skipR sh st (bodyM T e r sh (entA sh st.a0 x) (st.H0.only st.ks)) = true
  | [], x, h => by simp at h
  | y :: l, x, h => by
    simp only [leaves]
    rcases List.mem_cons.1 h with rfl | h
    · split
      · exact .inr (by assumption)
      · exact .inl (by simp)
    · split
      · exact leaves_mem h
      · exact (leaves_mem h).imp (fun h => by simp [h]) id
theorem leaves_sub {r : Option Nat} {sh : MSh} {st : MSt} : ∀ {l : List AEnt} {x : AEnt}, x ∈ leaves T e r sh st l → x ∈ l ∧ skipR sh st (bodyM T e r sh (entA sh st.a0 x) (st.H0.only st.ks)) = false
  | [], x, h => by simp [leaves] at h
  | y :: l, x, h => by
    simp only [leaves] at h
    split at h
    · obtain ⟨a, b⟩ := leaves_sub h
      exact ⟨by simp [a], b⟩
    · rename_i hs
      rcases List.mem_cons.1 h with rfl | h
      · exact ⟨by simp, hs⟩
      · obtain ⟨a, b⟩ := leaves_sub h
        exact ⟨by simp [a], b⟩
theorem filter_le {α : Type} {p q : α → Bool} (hqp : ∀ x, q x = true → p x = true) : ∀ (l : List α), (l.filter q).length ≤ (l.filter p).length
  | [] => by simp
  | x :: l => by
    have ih := filter_le hqp l
    simp only [List.filter_cons]
    cases hq : q x with
    | true => rw [hqp x hq]; simpa using ih
    | false => cases p x <;> simp <;> omega
theorem filter_less {α : Type} {p q : α → Bool} (hqp : ∀ x, q x = true → p x = true) {e : α} (h1 : p e = true) (h2 : q e = false) : ∀ {l : List α}, e ∈ l → (l.filter q).length < (l.filter p).length
  | [], h => by simp at h
  | x :: l, h => by
    have le := filter_le hqp l
    simp only [List.filter_cons]
    rcases List.mem_cons.1 h with rfl | h
    · rw [h1, h2]; simp; omega
    · have ih := filter_less hqp h1 h2 h
      cases hq : q x with
      | true => rw [hqp x hq]; simpa using ih
      | false => cases p x <;> simp <;> omega
theorem contains_push (seen : Array Nat) (b x : Nat) : (seen.push b).contains x = (seen.contains x || b == x) := by
  rw [Bool.eq_iff_iff]
  simp only [Array.contains_iff_mem, Array.mem_push, Bool.or_eq_true, beq_iff_eq]
  constructor
  · rintro (h | h); exact .inl h; exact .inr h.symm
  · rintro (h | h); exact .inl h; exact .inr h.symm
theorem filter_push (es : List MapEntry) (seen : Array Nat) {e : MapEntry} (he : e ∈ es) (hs : seen.contains e.born = false) :
    (es.filter (fun x => !(seen.push e.born).contains x.born)).length < (es.filter (fun x => !seen.contains x.born)).length := by
  refine filter_less (e := e) (fun x hx => ?_) (by rw [hs]; rfl) (by rw [contains_push]; simp) he
  rw [contains_push] at hx
  cases hc : seen.contains x.born with
  | true => rw [hc] at hx; simp at hx
  | false => rfl
/-- how things stand between two rounds -/
structure MInv (T : Tab) (sh : MSh) (st : MSt) (w : World) (G : Gh) (H : AH) (lv : List AEnt) (rr r : Option Nat) (seen : Array Nat) (w1 : World) (G1 : Gh) (ca : Act) : Prop where
  ext : Ext w G H w1 G1 st.H0
  rel : Rel w1 G1 st.H0
  arel : ARel G1 ca st.a0
  blk : w1.heap[G.blk st.id]? = some (.mapIter (some (G.blk st.m)) st.clock seen st.clock)
  gen : G1.gen st.id = 1
  gb : G1.blk st.id = G.blk st.id
  base : G1.base st.id = 0
  nb : ∀ j, (st.H0.get j).live = true → G1.blk j ≠ G.blk st.id
  zb : G1.z (G.blk st.id) = none
  mb : G1.gen st.m = 1 ∧ G1.blk st.m = G.blk st.m
  seen : ∀ x ∈ lv, seen.contains x.born = false
  rr : RR G1 rr r
theorem MInv.next {sh : MSh} {st : MSt} {lv : List AEnt} {rr r : Option Nat} {seen seen2 : Array Nat} {w1 w2 w3 : World} {G1 G3 : Gh} {ca ca3 : Act} (I : MInv T sh st w G H lv rr r seen w1 G1 ca)
    (hm : st.H0.get st.m = .map st.es st.clock) (hid : st.id < st.H0.n) (hdead : st.H0.get st.id = .dead)
    (E2 : Ext w G H w2 G1 st.H0) (blk2 : w2.heap[G.blk st.id]? = some (.mapIter (some (G.blk st.m)) st.clock seen2 st.clock))
    (e3 : Ext w2 G1 st.H0 w3 G3 st.H0) (r3 : Rel w3 G3 st.H0) (a3 : ARel G3 ca3 st.a0) (hs : ∀ x ∈ lv, seen2.contains x.born = false) : MInv T sh st w G H lv rr r seen2 w3 G3 ca3 := by
  obtain ⟨_, g1⟩ := e3.dead st.id hid (by rw [hdead]; rfl)
  have hbl : G.blk st.id < w2.heap.size := (Array.getElem?_eq_some_iff.1 blk2).1
  obtain ⟨s1, s2, _⟩ := e3.le.same st.id (by rw [I.rel.n]; exact hid) g1.symm
  have liveSame : ∀ j, (st.H0.get j).live = true → G3.blk j ≠ G.blk st.id := by
    intro j hj
    rcases e3.fresh j hj with h | ⟨k, k1, k2⟩
    · omega
    · rw [← k2]; exact I.nb k k1
  refine ⟨E2.trans e3, r3, a3, ?_, by rw [g1]; exact I.gen, by rw [s1]; exact I.gb, by rw [s2]; exact I.base, liveSame, ?_, ?_, hs, I.rr.mono e3.le⟩
  · rw [e3.keep _ hbl (fun j hj => I.nb j hj)]; exact blk2
  · rw [e3.zold _ hbl]; exact I.zb
  · have hmn : st.m < st.H0.n := AH.lt_of_get (by rw [hm]; simp)
    have o3 := r3.obj st.m hmn
    rw [hm] at o3
    have h3 : G3.gen st.m = 1 := o3.1
    refine ⟨h3, ?_⟩
    rw [(e3.le.same st.m (by rw [I.rel.n]; exact hmn) (by rw [I.mb.1, h3])).1]; exact I.mb.2
theorem HT.or_upd {t : HT AV} {d : Tmp} {u : AV} (h : (t.get d).isSome = true) : (t.upd d u).or d = u := by
  unfold HT.or
  rw [HT.get_upd, if_pos rfl]
  cases hg : t.get d with
  | none => rw [hg] at h; cases h
  | some v => rfl
theorem HT.some_upd {t : HT AV} {d j : Tmp} {u : AV} (h : (t.get j).isSome = true) : ((t.upd d u).get j).isSome = true := by
  rw [HT.get_upd]
  split
  · cases hg : t.get j with
    | none => rw [hg] at h; cases h
    | some v => rfl
  · exact h
theorem maskT_some {l : List Tmp} {ts : HT AV} {t : Nat} (h : (ts.get t).isSome = true) : ((maskT l ts).get t).isSome = true := by
  cases hm : (maskT l ts).get t with
  | none => rw [(maskT_dom t).1 hm] at h; cases h
  | some _ => rfl
theorem eval_put_ne {ca : Act} {d t : Tmp} {v : Value} (h : t ≠ d) : (ca.put (some d) v).eval (.tmp t) = ca.eval (.tmp t) := by
  simp only [Act.eval, Act.put, Array.getD_eq_getD_getElem?]
  rw [Array.getElem?_setIfInBounds_ne (Ne.symm h)]
/-- the two operations ahead of a round -/
theorem head2 {rr : Option Nat} {r0 : Nat} {o1 o2 : Oper} {it d1 d2 : Tmp} (q1 : o1.dst = some d1) (q2 : o1.op = .next (.tmp it) false) (q3 : o1.guard = none) (q4 : o2.dst = some d2) (q5 : o2.op = .extract (.tmp d1) 0) (q6 : o2.guard = none)
    {ca : Act} {w w2 : World} {p : Value} {b : Bool} {tl : List Value} (hp : ca.eval (.tmp it) = p) (hrun : (Instr.next p false o1.type).run T.P w = .ok (.tuple ⟨.bool b :: tl⟩) w2) (hd1 : d1 < ca.tmps.size)
    {Q : Exit → Act → World → Prop} (hQ : Q .normal ((ca.put (some d1) (.tuple ⟨.bool b :: tl⟩)).put (some d2) (.bool b)) w2) : (Code.region r0 #[o1, o2] false).wpIn (FR rr) 0 T.P Q ca w := by
  refine wpIn_region ?_
  have hr : List.range (#[o1, o2] : Array Oper).size = [0, 1] := rfl
  rw [hr]
  have hw1 : Region.wanted o1 (yielded #[o1, o2] ca.tmps) = true := by unfold Region.wanted; rw [q3]
  have hw2 : ∀ ts, Region.wanted o2 (yielded #[o1, o2] ts) = true := fun ts => by unfold Region.wanted; rw [q6]
  have h0 : (#[o1, o2] : Array Oper)[0]? = some o1 := rfl
  have h1 : (#[o1, o2] : Array Oper)[1]? = some o2 := rfl
  simp only [wpOpsIn, h0, h1]
  rw [if_pos hw1]
  refine ⟨about_wide rr o1 w _, ?_⟩
  have hs1 : o1.semAt (FR rr).round ca.eval = execOp ca.eval o1 := semAt_eq (.inr (fun c hc => by rw [q2] at hc; cases hc))
  have hr1 : (execOp ca.eval o1).run T.P w = .ok (.value (.tuple ⟨.bool b :: tl⟩)) w2 := by
    simp only [execOp, q2, hp, Sem.run_bind, hrun, Result.andThen_ok, Sem.run_pure]
  rw [hs1, hr1, Oper.uponIn_value, q1, if_pos (hw2 _)]
  refine ⟨about_wide rr o2 w2 _, ?_⟩
  have hs2 : ∀ ca : Act, o2.semAt (FR rr).round ca.eval = execOp ca.eval o2 := fun ca => semAt_eq (.inr (fun c hc => by rw [q5] at hc; cases hc))
  have he : (ca.put (some d1) (.tuple ⟨.bool b :: tl⟩)).eval (.tmp d1) = .tuple ⟨.bool b :: tl⟩ := by
    simp [Act.eval, Act.put, hd1]
  have hr2 : (execOp (ca.put (some d1) (.tuple ⟨.bool b :: tl⟩)).eval o2).run T.P w2 = .ok (.value (.bool b)) w2 := by
    simp [execOp, q5, he, Instr.extract, Result.andThen]
  rw [hs2, hr2, Oper.uponIn_value, q4]
  exact hQ
theorem mapLoop_ok (E : EvOk T e) {r : Option Nat} {x : Code} {sh : MSh} (hx : MapCode x sh) {a : AAct} {st : MSt} (S : MapState sh a H st) {xx : AExit} {a' : AAct} (h : mapEnd T e r sh st (leaves T e r sh st st.es) = some (xx, a', H')) : LoopOk T.P r x a H xx a' H' := by
  obtain ⟨r0, o1, o2, r3, o3, tl, rfl, q1, q2, q3, q4, q5, q6, hb, p1, p2, p3⟩ := hx.out
  generalize hlv : leaves T e r sh st st.es = lv at h
  have hidm : st.m ≠ st.id := by intro he; have h1 := S.iter; rw [← he, S.map] at h1; cases h1
  have hidl : (H.get st.id).live = true := by rw [S.iter]; rfl
  have hid : st.id < H.n := AH.lt_of_get (by rw [S.iter]; simp)
  have hn0 : st.H0.n = H.n := by rw [S.H0]; rfl
  have hmap0 : st.H0.get st.m = .map st.es st.clock := by rw [S.H0, AH.get_set_ne _ hidm]; exact S.map
  have hdead : st.H0.get st.id = .dead := by rw [S.H0, AH.get_set_same _ hid]
  have hless : ∀ j, st.H0.get j = .dead ∨ st.H0.get j = H.get j := fun j => by
    by_cases e : j = st.id
    · subst e; exact .inl hdead
    · rw [S.H0, AH.get_set_ne _ e]; exact .inr rfl
  obtain ⟨bo1, bo2⟩ := bornOk_spec S.born
  have hdf : st.a0.defers = [] := by rw [S.a0]
  have hdf2 : ∀ {G : Gh} {ds : List Deferred}, DRs G ds st.a0.defers → ds = [] := fun h => by rw [hdf] at h; exact h
  have hit0 : st.a0.tmps.or sh.it = .ptr st.id 1 0 := by
    rw [S.a0]
    show (maskT sh.asg a.tmps).or sh.it = _
    unfold HT.or
    rw [maskT_get hx.it]
    exact S.tmp
  refine ⟨st.es.length + 1, fun w G ca rr hR hA hr => ?_⟩
  have s2 : (st.a0.tmps.get sh.d2).isSome = true := by rw [S.a0]; exact maskT_some S.d2
  have step : ∀ (K : Nat) (seen : Array Nat) (w1 : World) (G1 : Gh) (ca1 : Act), MInv T sh st w G H lv rr r seen w1 G1 ca1 →
      (∀ (seen3 : Array Nat) (w3 : World) (G3 : Gh) (ca3 : Act), MInv T sh st w G H lv rr r seen3 w3 G3 ca3 → (st.es.filter (fun x => !seen3.contains x.born)).length < (st.es.filter (fun x => !seen.contains x.born)).length →
        Code.roundsIn (FR rr) 0 T.P (.seq (.region r0 #[o1, o2] false) (.seq (.cond (.tmp sh.d2) .skip (.exit sh.xid)) (.block sh.b1 (.seq (.region r3 sh.bops false) sh.rest)))) (Next' T.P w G H xx a' H') K ca3 w3) →
      Code.roundsIn (FR rr) 0 T.P (.seq (.region r0 #[o1, o2] false) (.seq (.cond (.tmp sh.d2) .skip (.exit sh.xid)) (.block sh.b1 (.seq (.region r3 sh.bops false) sh.rest)))) (Next' T.P w G H xx a' H') (K + 1) ca1 w1 := by
    intro K seen w1 G1 ca1 I hnext
    have hmn : st.m < st.H0.n := AH.lt_of_get (by rw [hmap0]; simp)
    have om := I.rel.obj st.m hmn
    rw [hmap0] at om
    obtain ⟨mg, ents, hents, hERs⟩ := om
    rw [I.mb.2] at hents
    have hold : ∀ y ∈ ents.toList, y.born < st.clock := fun y hy => by
      obtain ⟨z, z1, _, z2, _⟩ := hERs.mem hy
      have := bo1 z z1; omega
    have hev := I.arel.eval (.tmp sh.it)
    have hev2 : st.a0.eval (.tmp sh.it) = .ptr st.id 1 0 := hit0
    rw [hev2] at hev
    simp only [VR] at hev
    obtain ⟨_, _, ad, hpe, had⟩ := hev
    have had := had (by rw [I.gen])
    rw [I.gb, I.base] at had
    subst had
    have hd1 : sh.d1 < ca1.tmps.size := by
      have h1 := I.arel.1 sh.d1
      have h2 : st.a0.tmps.get sh.d1 ≠ none := by
        rw [S.a0]
        intro hh
        have h3 := S.d1
        rw [(maskT_dom sh.d1).1 hh] at h3
        cases h3
      cases hg : st.a0.tmps.get sh.d1 with
      | none => exact absurd hg h2
      | some u =>
        rw [hg] at h1
        obtain ⟨y, y1, _⟩ := h1
        have := (List.getElem?_eq_some_iff.1 y1).1
        simpa using this
    rw [roundsIn_succ]
    rcases run_next_left (P := T.P) I.blk hents hold (Nat.le_refl _) o1.type with ⟨hL, hrun⟩ | ⟨y, y1, y2, dn, hrun⟩
    · -- nothing is left
      have hlv0 : lv = [] := by
        cases hl : lv with
        | nil => rfl
        | cons z zs =>
          exfalso
          have hz : z ∈ lv := by rw [hl]; simp
          have hz2 := hz
          rw [← hlv] at hz2
          obtain ⟨m1, m2, m3⟩ := hERs.mem' (leaves_sub hz2).1
          have : m1 ∈ ents.toList.filter (fun e => !seen.contains e.born) := by
            rw [List.mem_filter]
            exact ⟨m2, by rw [m3, I.seen z hz]; rfl⟩
          rw [hL] at this
          cases this
      rw [hlv0] at h
      simp only [mapEnd, Option.some.injEq, Prod.mk.injEq] at h
      obtain ⟨rfl, rfl, rfl⟩ := h
      refine wpIn_seq (head2 q1 q2 q3 q4 q5 q6 hpe hrun hd1 ?_)
      simp only [Exit.then]
      have hA1 : ARel G1 ((ca1.put (some sh.d1) (.tuple #[.bool false])).put (some sh.d2) (.bool false)) ⟨(st.a0.tmps.upd sh.d1 (.tuple [.v (.bool false)])).upd sh.d2 (.v (.bool false)), []⟩ := by
        have := (I.arel.put (some sh.d1) (x := .tuple #[.bool false]) (u := .tuple [.v (.bool false)]) (by simp only [VR, VRs]; exact ⟨_, rfl, _, _, rfl, rfl, rfl⟩)).put (some sh.d2) (x := .bool false) (u := .v (.bool false)) (by simp [VR])
        refine ⟨this.1, ?_⟩
        have h2 := this.2
        simp only [AAct.put] at h2
        rw [hdf] at h2
        exact h2
      refine wpIn_seq (wpIn_cond_false ?_ (wpIn_exit ?_))
      · have hv := hA1.eval (.tmp sh.d2)
        have hv2 : AAct.eval ⟨(st.a0.tmps.upd sh.d1 (.tuple [.v (.bool false)])).upd sh.d2 (.v (.bool false)), []⟩ (.tmp sh.d2) = .v (.bool false) := HT.or_upd (HT.some_upd s2)
        rw [hv2] at hv
        simpa only [VR] using hv
      · simp only [Exit.then]
        exact ⟨G1, I.ext, I.rel, hA1, rfl⟩
    · -- one that is left
      obtain ⟨ae, ae1, ae2, ae3, ae4⟩ := hERs.mem y1
      have hbm : G.blk st.m ≠ G.blk st.id := by rw [← I.mb.2]; exact I.nb st.m (by rw [hmap0]; rfl)
      have hbl : G.blk st.id < w1.heap.size := (Array.getElem?_eq_some_iff.1 I.blk).1
      generalize hw2 : ({ w1 with heap := w1.heap.setIfInBounds (G.blk st.id) (.mapIter (some (G.blk st.m)) st.clock (seen.push y.born) st.clock), drawn := dn } : World) = w2 at hrun
      have R2 : Rel w2 G1 st.H0 := I.rel.beside I.nb I.zb hw2.symm
      have hs2 : w2.heap.size = w1.heap.size := by subst hw2; simp
      have E2 : Ext w G H w2 G1 st.H0 := by
        refine ⟨I.ext.le, by subst hw2; exact I.ext.os, by subst hw2; exact I.ext.tape, by subst hw2; exact I.ext.output, by rw [hs2]; exact I.ext.size, fun b hb' hn => ?_, I.ext.fresh, I.ext.n, I.ext.zold, I.ext.dead⟩
        have hne : G.blk st.id ≠ b := hn st.id hidl
        rw [← I.ext.keep b hb' hn]
        subst hw2
        simp [Array.getElem?_setIfInBounds_ne hne]
      have blk2 : w2.heap[G.blk st.id]? = some (.mapIter (some (G.blk st.m)) st.clock (seen.push y.born) st.clock) := by subst hw2; exact set_at _ hbl
      have hents2 : w2.heap[G.blk st.m]? = some (.map ents st.clock) := by rw [← hents]; subst hw2; simp [Array.getElem?_setIfInBounds_ne (Ne.symm hbm)]
      obtain ⟨me, me1, me2, me3⟩ := findBorn_sound hERs (bo2 ae ae1)
      have hA2 : ARel G1 ((ca1.put (some sh.d1) (.tuple #[.bool true, y.key, y.val])).put (some sh.d2) (.bool true)) { st.a0 with tmps := (st.a0.tmps.upd sh.d1 (.tuple [.v (.bool true), .v ae.key, ae.val])).upd sh.d2 (.v (.bool true)) } :=
        (I.arel.put (some sh.d1) (x := .tuple #[.bool true, y.key, y.val]) (u := .tuple [.v (.bool true), .v ae.key, ae.val]) (by simp only [VR, VRs]; exact ⟨_, rfl, _, _, rfl, rfl, _, _, rfl, ae2, _, _, rfl, ae4, rfl⟩)).put (some sh.d2) (x := .bool true) (u := .v (.bool true)) (by simp [VR])
      have hent : (Instr.entry (((ca1.put (some sh.d1) (.tuple #[.bool true, y.key, y.val])).put (some sh.d2) (.bool true)).eval (.tmp sh.it))).run T.P w2 = .ok (.tuple #[me.key, me.val]) w2 := by
        rw [eval_put_ne hx.i2, eval_put_ne hx.i1, hpe]
        exact run_entry_at blk2 hents2 (by rw [ae3]; exact me1)
      have hvu : VR G1 (.tuple #[me.key, me.val]) (.tuple [.v ae.key, ae.val]) := by simp only [VR, VRs]; exact ⟨_, rfl, _, _, rfl, me2, _, _, rfl, me3, rfl⟩
      refine wpIn_seq (head2 q1 q2 q3 q4 q5 q6 hpe hrun hd1 ?_)
      simp only [Exit.then]
      refine wpIn_seq (wpIn_cond_true ?_ (wpIn_skip ?_))
      · have hv := hA2.eval (.tmp sh.d2)
        have hv2 : AAct.eval { st.a0 with tmps := (st.a0.tmps.upd sh.d1 (.tuple [.v (.bool true), .v ae.key, ae.val])).upd sh.d2 (.v (.bool true)) } (.tmp sh.d2) = .v (.bool true) := HT.or_upd (HT.some_upd s2)
        rw [hv2] at hv
        simpa only [VR] using hv
      simp only [Exit.then]
      rcases leaves_mem (T := T) (e := e) (r := r) (sh := sh) (st := st) ae1 with hin | hsk
      · -- the entry at which the loop is left
        rw [hlv] at hin
        have h2 : notNormal (bodyM T e r sh (entA sh st.a0 ae) st.H0) = some (xx, a', H') := by
          cases hl : lv with
          | nil => rw [hl] at hin; cases hin
          | cons z zs =>
            rw [hl] at h hin
            cases zs with
            | cons _ _ => simp [mapEnd] at h
            | nil =>
              simp only [List.mem_singleton] at hin
              subst hin
              exact h
        have hnn : xx ≠ .normal ∧ bodyM T e r sh (entA sh st.a0 ae) st.H0 = some (xx, a', H') := by
          unfold notNormal at h2
          split at h2
          · cases h2
          · rename_i hne
            exact ⟨fun he => by subst he; exact hne _ _ h2, h2⟩
        refine wpIn_mono (bodyM_ok E hx (a := { st.a0 with tmps := (st.a0.tmps.upd sh.d1 (.tuple [.v (.bool true), .v ae.key, ae.val])).upd sh.d2 (.v (.bool true)) }) (u := .tuple [.v ae.key, ae.val]) hnn.2 E2 R2 hA2 I.rr hvu hent r3) (fun ce ca3 w3 hq => ?_)
        obtain ⟨G3, e3, r3', A3, x3⟩ := hq
        cases ce with
        | normal => cases xx <;> simp only [ExRel] at x3; exact absurd rfl hnn.1
        | _ => simp only [Exit.then]; exact ⟨G3, e3, r3', A3, x3⟩
      · -- one that changes nothing
        have hsk0 := hsk
        cases hbod : bodyM T e r sh (entA sh st.a0 ae) (st.H0.only st.ks) with
        | none => rw [hbod] at hsk; simp [skipR] at hsk
        | some z =>
          obtain ⟨x1, a1, H1⟩ := z
          rw [hbod] at hsk
          cases x1 <;> simp only [skipR, Bool.false_eq_true] at hsk
          simp only [Bool.and_eq_true, List.all_eq_true] at hsk
          obtain ⟨k1, k2, k3⟩ := hsk
          have k1 := HT.sameT_eq k1
          have onlyL : ∀ j, (st.H0.only st.ks).get j = .dead ∨ (st.H0.only st.ks).get j = st.H0.get j := fun j => by
            rw [AH.get_only]; split
            · exact .inr rfl
            · exact .inl rfl
          refine wpIn_mono (bodyM_ok E hx (a := { st.a0 with tmps := (st.a0.tmps.upd sh.d1 (.tuple [.v (.bool true), .v ae.key, ae.val])).upd sh.d2 (.v (.bool true)) }) (u := .tuple [.v ae.key, ae.val]) hbod (.refl w2 G1 _) (R2.less onlyL rfl) hA2 I.rr hvu hent r3) (fun ce ca3 w3 hq => ?_)
          obtain ⟨G3, e3, r3', A3, x3⟩ := hq
          cases ce <;> simp only [ExRel] at x3
          simp only [Exit.then]
          have hHn : st.H0.n ≤ H1.n := e3.n
          obtain ⟨f1, f2⟩ := Rel.frame (fun j => j < st.H0.n ∧ j ∉ st.ks) R2 (B := st.H0.only st.ks) (fun j => by
            rw [AH.get_only]
            by_cases hj : j ∈ st.ks
            · rw [if_pos hj, if_neg (fun h => h.2 hj)]
            · rw [if_neg hj]
              by_cases hj2 : j < st.H0.n
              · rw [if_pos ⟨hj2, hj⟩]
              · rw [if_neg (fun h => hj2 h.1), AH.get_out hj2]) rfl (fun j h => h.1) e3 r3' (A1 := AH.merge (fun j => decide (j ∉ st.ks)) st.H0 st.H0.n H1) (fun j => by
            rw [AH.merge_get _ _ _ _ _ hHn]
            simp only [decide_eq_true_eq]) (AH.merge_n _ _ _ _)
          have same : ∀ j, j < st.H0.n → (AH.merge (fun j => decide (j ∉ st.ks)) st.H0 st.H0.n H1).get j = st.H0.get j := fun j hj => by
            rw [AH.merge_get _ _ _ _ _ hHn]
            simp only [decide_eq_true_eq]
            by_cases hjk : j ∈ st.ks
            · rw [if_neg (fun h => h.2 hjk)]
              exact AObj.same_eq (k3 j hjk)
            · rw [if_pos ⟨hj, hjk⟩]
          obtain ⟨c1, c2⟩ := Rel.cut R2 f1 f2 same
          have hA3 : ARel (G3.cut G1.n) ca3 st.a0 := by
            refine ⟨?_, ?_⟩
            · have t1 := maskT_rel (l := sh.asg) A3.1
              rw [k1] at t1
              exact I.arel.1.cut t1
            · have d2 := A3.2
              rw [hdf]
              cases hd : a1.defers with
              | nil => rw [hd] at d2; exact d2
              | cons _ _ => rw [hd] at k2; simp at k2
          refine hnext (seen.push y.born) w3 _ ca3 (I.next hmap0 (by rw [hn0]; exact hid) hdead E2 blk2 c2 c1 hA3 (fun z hz => ?_)) ?_
          · rw [contains_push, I.seen z hz, Bool.false_or]
            rw [beq_eq_false_iff_ne]
            intro he
            rw [← hlv] at hz
            obtain ⟨z1, z2⟩ := leaves_sub hz
            have e1 := bo2 z z1
            rw [← he, ae3, bo2 ae ae1] at e1
            simp only [Option.some.injEq] at e1
            subst e1
            rw [hsk0] at z2
            cases z2
          · refine filter_less (e := ae) (fun z hz => ?_) (by rw [← ae3, y2]; rfl) (by rw [contains_push, ae3]; simp) ae1
            rw [contains_push] at hz
            cases hc : seen.contains z.born with
            | true => rw [hc] at hz; simp at hz
            | false => rfl
  have key : ∀ (k : Nat) (seen : Array Nat) (w1 : World) (G1 : Gh) (ca1 : Act), MInv T sh st w G H lv rr r seen w1 G1 ca1 → (st.es.filter (fun x => !seen.contains x.born)).length ≤ k →
      Code.roundsIn (FR rr) 0 T.P (.seq (.region r0 #[o1, o2] false) (.seq (.cond (.tmp sh.d2) .skip (.exit sh.xid)) (.block sh.b1 (.seq (.region r3 sh.bops false) sh.rest)))) (Next' T.P w G H xx a' H') (k + 1) ca1 w1 := by
    intro k
    induction k with
    | zero => exact fun seen w1 G1 ca1 I hk => step _ _ _ _ _ I (fun _ _ _ _ _ hlt => by omega)
    | succ k ih => exact fun seen w1 G1 ca1 I hk => step _ _ _ _ _ I (fun _ _ _ _ I3 hlt => ih _ _ _ _ I3 (by omega))
  have hoi := hR.obj st.id hid
  rw [S.iter] at hoi
  obtain ⟨i1, i2, mm, i3, i4, i5, i6⟩ := hoi
  have hom := hR.obj st.m (AH.lt_of_get (by rw [S.map]; simp))
  rw [S.map] at hom
  have hmg : G.gen st.m = 1 := hom.1
  refine key st.es.length #[] w G ca ⟨(Ext.refl w G H).less hless hn0, hR.less hless hn0, ?_, ?_, i1, rfl, i2, fun j hj he => ?_, hR.zout st.id hidl, ⟨hmg, rfl⟩, fun _ _ => by simp, hr⟩ (List.length_filter_le _ _)
  · rw [S.a0]; exact ⟨maskT_rel hA.1, by have := hA.2; rw [S.df] at this; exact this⟩
  · rw [i3, i6 hmg]
  · have hjl : (H.get j).live = true := by
      rcases hless j with e | e
      · rw [e] at hj; cases hj
      · rw [← e]; exact hj
    have := hR.inj j st.id hjl hidl he
    subst this
    rw [hdead] at hj; cases hj
end
end Go.Proofs.Ytlajcmoiopaemaa
