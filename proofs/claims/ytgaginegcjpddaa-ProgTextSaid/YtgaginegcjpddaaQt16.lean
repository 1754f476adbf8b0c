/- What the program's Sound, Text come to. -/
import Derived.Test.YtgaginegcjpddaaQt15
set_option linter.unusedVariables false
set_option linter.unusedSimpArgs false
namespace Go.Proofs.Ytgaginegcjpddaa
open Go.RowKit
theorem showOk {l : List Form} {top : List Int} (h : rightS l top = true) (hn : ∀ f ∈ l, InW f.num) : ShowOk l := by
  have hr := right_facts h
  have ha : ∀ n, n < l.length → aloneS (nth l n) = true := fun n hn => hr.alone _ (nth_mem hn)
  refine ⟨hr.wf, hr.len, hr.kids, fun n hl => ?_, fun n hl hk => ?_, fun n hl => hn _ (nth_mem hl), fun n hl => ?_⟩
  · have := ha n hl
    unfold aloneS at this
    split at this
    · rename_i h1; left; simpa using h1
    · split at this
      · rename_i h1; right; left; simpa using h1
      · split at this
        · rename_i h1; right; right; simpa using h1
        · cases this
  · have := ha n hl
    unfold aloneS at this
    split at this
    · rename_i h1; exact absurd (by simpa using h1) hk
    · split at this
      · simp only [Bool.and_eq_true, beq_iff_eq] at this
        exact List.eq_nil_of_length_eq_zero (by omega)
      · split at this
        · simp only [Bool.and_eq_true, beq_iff_eq] at this
          exact List.eq_nil_of_length_eq_zero (by omega)
        · cases this
  · have := ha n hl
    have he : (nth l n).text.toList.isEmpty = true → (nth l n).text.size ≤ 20 := fun h => by
      rcases Nat.eq_zero_or_pos (nth l n).text.size with h0 | h0
      · omega
      · rw [ne_empty h0] at h; cases h
    unfold aloneS at this
    split at this
    · simp only [Bool.and_eq_true] at this; exact he this.1
    · split at this
      · simp only [Bool.and_eq_true, beq_iff_eq] at this
        have h3 := this.2
        unfold wordKind at h3
        split at h3
        · omega
        · split at h3
          · rename_i h4
            rw [Bool.or_eq_true] at h4
            rcases h4 with h4 | h4
            · unfold isSign at h4
              simp only [Bool.or_eq_true, beq_iff_eq] at h4
              have hl : (nth l n).text.toList.length = 1 := by
                rcases h4 with (((((((((h4 | h4) | h4) | h4) | h4) | h4) | h4) | h4) | h4) | h4) <;> rw [h4] <;> rfl
              rw [ByteArray.toList_eq, sz] at hl
              omega
            · unfold lexName at h4
              simp only [Bool.and_eq_true, decide_eq_true_eq] at h4
              omega
          · omega
      · split at this
        · simp only [Bool.and_eq_true] at this; exact he this.1
        · cases this
/-- what writing asks, and showing of what is written -/
structure WOk2 (p : Prg) : Prop extends WOk p where
  nums : ∀ s, writtenS p = some s → ∀ f ∈ s.1, InW f.num
theorem readS_right {l : List Form} {top : List Int} (h : (readS l top).2.2 = 0) : rightS l top = true := by
  unfold readS at h
  split at h
  · assumption
  · simp at h
theorem writeS_cases (p : Prg) : writeS p = ([], [], 3) ∨ ∃ s, writtenS p = some s ∧ writeS p = (s.1, s.2, 0) ∧ (readS s.1 s.2).2.2 = 0 ∧ p.m = (readS s.1 s.2).1.m := by
  rcases h : writtenS p with _ | s
  · left; unfold writeS; rw [h]
  · by_cases hc : (readS s.1 s.2).2.2 = 0 ∧ p.m = (readS s.1 s.2).1.m
    · exact .inr ⟨s, rfl, by unfold writeS; rw [h]; exact if_pos hc, hc⟩
    · left; unfold writeS; rw [h]; exact if_neg hc
set_option maxHeartbeats 3200000 in
set_option maxRecDepth 100000 in
theorem sound_any (p : Prg) (D : Nat → Value) (w : World) (hp : PRd w (fun b => b < w.heap.size) D p) (hok : WOk p) :
    Calls Try.prog 8 #[.agg #[D 0, D 1, D 2, D 3]] w fun e w' => e = .returned (.bool ((writeS p).2.2 == 0)) ∧ Below w.heap.size w w' := by
  obtain ⟨A0, c0, hD0, _, _⟩ := hp.decls.slice
  obtain ⟨A1, c1, hD1, _, _⟩ := hp.exprs.slice
  obtain ⟨A2, c2, hD2, _, _⟩ := hp.stmts.slice
  obtain ⟨A3, c3, hD3, _, _⟩ := hp.main.slice
  have hB1 : Below w.heap.size w (w.alloc (.cells #[D 0, D 1, D 2, D 3] 27 (0, 0))) := (Below.refl _ _).alloc (Nat.le_refl _) _
  have hwc := write_any p D _ (hp.imp fun b hb _ => ⟨by rw [World.size_alloc]; omega, hB1.block b hb⟩ : PRd (w.alloc (.cells #[D 0, D 1, D 2, D 3] 27 (0, 0))) (fun b => b < (w.alloc (.cells #[D 0, D 1, D 2, D 3] 27 (0, 0))).heap.size) D p) hok
  have hs1 := hB1.size
  rw [hD0, hD1, hD2, hD3] at hwc hB1 ⊢
  have HWC := hid hwc; have HB1 := hid hB1
  obtain ⟨W, hW⟩ : ∃ W, writeS p = W := ⟨_, rfl⟩
  rw [hW] at HWC ⊢
  clear hwc hB1 hD0 hD1 hD2 hD3 hp hok
  go_enter Try.func8, Try.ntmps8
  go_wp2_with (go_at_call 6; refine HWC.out.mono ?_; rintro e w2 ⟨fv, tv, rfl, hb2, _, _⟩)
  go_ret
  exact ⟨rfl, HB1.out.trans (hb2.mono (by simp))⟩
/-- a program as text, and why there is none -/
noncomputable def textOf (p : Prg) : List UInt8 × Int := if (writeS p).2.2 = 0 then (printS (writeS p).1 (writeS p).2.1, 0) else ([], (writeS p).2.2)
end Go.Proofs.Ytgaginegcjpddaa
/- What the program's Text comes to. -/
namespace Go.Proofs.Ytgaginegcjpddaa
open Go.RowKit
set_option maxHeartbeats 3200000 in
set_option maxRecDepth 100000 in
theorem text_any (p : Prg) (D : Nat → Value) (w : World) (hp : PRd w (fun b => b < w.heap.size) D p) (hok : WOk2 p) :
    Calls Try.prog 10 #[.agg #[D 0, D 1, D 2, D 3]] w fun e w' => e = .returned (.tuple #[.string ⟨(textOf p).1.toArray⟩, .int .i64 (textOf p).2]) ∧ Below w.heap.size w w' := by
  obtain ⟨A0, c0, hD0, _, _⟩ := hp.decls.slice
  obtain ⟨A1, c1, hD1, _, _⟩ := hp.exprs.slice
  obtain ⟨A2, c2, hD2, _, _⟩ := hp.stmts.slice
  obtain ⟨A3, c3, hD3, _, _⟩ := hp.main.slice
  have hB1 : Below w.heap.size w (w.alloc (.cells #[D 0, D 1, D 2, D 3] 27 (0, 0))) := (Below.refl _ _).alloc (Nat.le_refl _) _
  have hwc := write_any p D _ (hp.imp fun b hb _ => ⟨by rw [World.size_alloc]; omega, hB1.block b hb⟩ : PRd (w.alloc (.cells #[D 0, D 1, D 2, D 3] 27 (0, 0))) (fun b => b < (w.alloc (.cells #[D 0, D 1, D 2, D 3] 27 (0, 0))).heap.size) D p) hok.toWOk
  have hs1 := hB1.size
  rw [hD0, hD1, hD2, hD3] at hwc hB1 ⊢
  have HWC := hid hwc; have HB1 := hid hB1
  clear hwc hB1 hD0 hD1 hD2 hD3 hp
  rcases writeS_cases p with hw | ⟨s, hs, hw, hr, _⟩
  · have hT : textOf p = ([], 3) := by unfold textOf; rw [hw]; rfl
    rw [hw] at HWC
    rw [hT]
    go_enter Try.func10, Try.ntmps10
    go_wp2_with (go_at_call 6; refine HWC.out.mono ?_; rintro e w2 ⟨fv, tv, rfl, hb2, _, _⟩)
    refine bodyPost_ret (results_tmp2 rfl _ _ _) rfl ?_
    exact ⟨rfl, HB1.out.trans (hb2.mono (by simp))⟩
  · have hT : textOf p = (printS s.1 s.2, 0) := by unfold textOf; rw [hw]; rfl
    rw [hw] at HWC
    rw [hT]
    have hrt := readS_right hr
    have hso := showOk hrt (hok.nums s hs)
    have htx := hok.texts s hs
    have HRT := hid hrt; have HSO := hid hso; have HTX := hid htx
    clear hw hr hs hok hrt hso htx hT
    go_enter Try.func10, Try.ntmps10
    go_wp2_with (first | (go_at_call 6; refine HWC.out.mono ?_; rintro e w2 ⟨fv, tv, rfl, hb2, hf2, ht2⟩; have hf3 := hf2.imp0 (D' := fun b => b < w2.heap.size) fun b _ hb => ⟨hb, rfl⟩; have ht3 := ht2.imp (D' := fun b => b < w2.heap.size) (w' := w2) fun b _ hb => ⟨hb, rfl⟩; have HF3 := hid hf3; have HT3 := hid ht3; have HB2 := hid hb2; clear hf2 ht2 hf3 ht3 hb2) | (go_at_call 20; refine (print_any s.1 s.2 HSO.out HRT.out HTX.out fv tv w2 HF3.out HT3.out).mono ?_; rintro e w3 ⟨rfl, hb3⟩))
    refine bodyPost_ret (results_tmp2 rfl _ _ _) rfl ?_
    have := HB2.out.size
    exact ⟨rfl, HB1.out.trans ((HB2.out.mono (by simp)).trans (hb3.mono (by simp at this; omega)))⟩
/-- a program of a text, where it is none, and why -/
def sourceS (s : ByteArray) : Prg × Int × Int :=
  if (tokensS s).2.2 ≠ 0 then (Prg.none, (tokensS s).2.1, (tokensS s).2.2)
  else if (parseS (tokensS s).1).2.2.2 ≠ 0 then (Prg.none, (parseS (tokensS s).1).2.2.1, (parseS (tokensS s).1).2.2.2)
  else readS (parseS (tokensS s).1).1 (parseS (tokensS s).1).2.1
theorem lexGo_text (s : ByteArray) (hs : s.size ≤ 3000) : ∀ (f k : Nat) (acc : List Token), (∀ t ∈ acc, t.text.size ≤ 3000) → ∀ t ∈ (lexGo f s k acc).1, t.text.size ≤ 3000
  | 0, k, acc, h => by simp [lexGo]
  | f + 1, k, acc, h => by
    unfold lexGo
    split
    · exact h
    · split
      · exact lexGo_text s hs f _ acc h
      · split
        · exact lexGo_text s hs f _ acc h
        · simp only
          split
          · simp
          · split
            · simp
            · refine lexGo_text s hs f _ _ fun t ht => ?_
              rcases List.mem_append.1 ht with ht | ht
              · exact h t ht
              · simp only [List.mem_singleton] at ht
                subst ht
                show (s.extract k (k + pieceLen s k)).size ≤ 3000
                rw [ByteArray.size_extract]; omega
theorem tokensS_text (s : ByteArray) : ∀ t ∈ (tokensS s).1, t.text.size ≤ 3000 := by
  unfold tokensS
  split
  · simp
  · exact lexGo_text s (by omega) _ _ _ (by simp)
theorem takeP_text {s s' : PSt} {t : Token} (ht : t.text.size ≤ 3000) (h : ∀ f ∈ s.l, f.text.size ≤ 3000) (he : takeP s t = .inl s') : ∀ f ∈ s'.l, f.text.size ≤ 3000 := by
  have hfo : (formOf t).text.size ≤ 3000 := by
    unfold formOf
    simp only
    split
    · exact ht
    · exact Nat.zero_le _
  have h1 : ∀ f ∈ s.l ++ [formOf t], f.text.size ≤ 3000 := fun f hf => by
    rcases List.mem_append.1 hf with hf | hf
    · exact h f hf
    · simp only [List.mem_singleton] at hf; subst hf; exact hfo
  have ha : ∀ f ∈ (add1 s (formOf t)).l, f.text.size ≤ 3000 := by
    unfold add1
    split
    · exact h1
    · intro f hf
      simp only at hf
      rcases List.mem_or_eq_of_mem_set hf with hf | hf
      · exact h1 f hf
      · subst hf
        simp only
        by_cases hlt : (last0 s.opn).toNat < (s.l ++ [formOf t]).length
        · exact h1 _ (nth_mem hlt)
        · rw [nth_out (by omega)]; show (ByteArray.size _) ≤ 3000; exact Nat.zero_le _
  unfold takeP at he
  split at he
  · split at he
    · cases he; exact h
    · cases he
  · split at he
    · cases he
    · split at he
      · split at he
        · cases he
          unfold addP
          split
          · exact ha
          · exact ha
        · cases he
      · cases he; exact h
theorem parseLoop_text : ∀ (ts : List Token) (s s' : PSt), (∀ t ∈ ts, t.text.size ≤ 3000) → (∀ f ∈ s.l, f.text.size ≤ 3000) → parseLoop s ts = .inl s' → ∀ f ∈ s'.l, f.text.size ≤ 3000
  | [], s, s', _, h, he => by simp only [parseLoop] at he; cases he; exact h
  | t :: r, s, s', ht, h, he => by
    simp only [parseLoop] at he
    split at he
    · rename_i s1 h1
      exact parseLoop_text r s1 s' (fun t h => ht t (by simp [h])) (takeP_text (ht t (by simp)) h h1) he
    · cases he
theorem parseS_text (ts : List Token) (ht : ∀ t ∈ ts, t.text.size ≤ 3000) : ∀ f ∈ (parseS ts).1, f.text.size ≤ 3000 := by
  unfold parseS
  split
  · simp
  · rename_i s h
    split
    · exact parseLoop_text ts _ s ht (by simp) h
    · simp
end Go.Proofs.Ytgaginegcjpddaa
/- What the program's Source comes to. -/
namespace Go.Proofs.Ytgaginegcjpddaa
open Go.RowKit
theorem results_source {tmps : Array Value} {w : World} {b0 : Nat} {v0 v1 v2 v3 u u2 : Value} (t0 : tmps.getD 2 undef = .pointer (some ⟨b0, 0, none⟩)) (t1 : tmps.getD 3 undef = u) (t2 : tmps.getD 4 undef = u2)
    (h0 : w.heap[b0]? = some (.cells #[v0, v1, v2, v3] 27 (0, 0))) :
    (results Try.f11 tmps).run Try.prog w = .ok (.tuple #[.agg #[v0, v1, v2, v3], u, u2]) w := by
  simp only [Array.getD_eq_getD_getElem?] at t0 t1 t2
  simp [results, Try.results11, go_sem, t0, t1, t2, blk_cell h0]
theorem ReadP.no (w w' : World) (h : Below w.heap.size w w') (pos why : Int) : ReadP w (Prg.none, pos, why) (.returned (.tuple #[.agg #[nilv, nilv, nilv, nilv], .int .i64 pos, .int .i64 why])) w' :=
  ⟨fun _ => nilv, rfl, h, PRd.none _ _⟩
set_option maxHeartbeats 3200000 in
set_option maxRecDepth 100000 in
theorem source_any (s : ByteArray) (w : World) : Calls Try.prog 11 #[.string s] w (ReadP w (sourceS s)) := by
  obtain ⟨toks, tpos, twhy, hts⟩ : ∃ toks tpos twhy, tokensS s = (toks, tpos, twhy) := ⟨_, _, _, rfl⟩
  obtain ⟨l, top, ppos, pwhy, hps⟩ : ∃ l top ppos pwhy, parseS toks = (l, top, ppos, pwhy) := ⟨_, _, _, _, rfl⟩
  have hS : sourceS s = if twhy ≠ 0 then (Prg.none, tpos, twhy) else if pwhy ≠ 0 then (Prg.none, ppos, pwhy) else readS l top := by
    unfold sourceS; simp only [hts, hps]
  have htx : ∀ f ∈ l, f.text.size ≤ 9223372036854775807 := fun f hf => by
    have := parseS_text toks (by have := tokensS_text s; rw [hts] at this; exact this) f (by rw [hps]; exact hf)
    omega
  obtain ⟨R, hR⟩ : ∃ R, sourceS s = R := ⟨_, rfl⟩
  rw [hR] at hS ⊢
  obtain ⟨n, hn⟩ : ∃ n, w.heap.size = n := ⟨_, rfl⟩
  have HTS := hid hts; have HPS := hid hps; have HS := hid hS; have HTX := hid htx
  clear hts hps hS htx hR
  go_enter Try.func11, Try.ntmps11
  go_upto_region 1 with fail
  obtain ⟨w1, hw1⟩ : ∃ w1, w.alloc (Obj.cells #[Value.slice none 0 0, Value.slice none 0 0, Value.slice none 0 0, Value.slice none 0 0] 27 (0, 0)) = w1 := ⟨_, rfl⟩
  have b1 : w1.heap[n]? = some (.cells #[Value.slice none 0 0, Value.slice none 0 0, Value.slice none 0 0, Value.slice none 0 0] 27 (0, 0)) := by rw [← hw1, ← hn]; exact new_blk _ _
  have hB1 : Below n w w1 := by rw [← hw1]; exact (Below.refl n w).alloc (by omega) _
  have z1 : w1.heap.size = n + 1 := by rw [← hw1]; simp [hn]
  rw [hw1]
  clear hw1
  have HB1 := hid hB1; have HN1 := hid b1
  clear hB1 b1
  go_upto_region 2 with (go_at_call 21; refine (tokens_all s w1).mono ?_; rintro e w2 ⟨tv, rfl, hb2, ht2⟩; rw [HTS.out] at ht2 ⊢; have HB2 := hid hb2; have HT2 := hid ht2; have hz2 := hb2.size; clear hb2 ht2)
  have b2 := (HB2.out.block n (by omega)).trans HN1.out
  have y2 := blk_cell b2; have f2 := blk_free b2
  have HN2 := hid b2
  clear b2
  by_cases hw : twhy = 0
  case neg =>
    have hwb : (twhy == 0) = false := by rw [beq_eq_false_iff_ne]; exact hw
    have hwb2 : (twhy != 0) = true := by rw [bne, hwb]; rfl
    have HR := hid (HS.out.trans (if_pos hw))
    go_wp2_with fail
    have hp := set_prog HN2.out nilv nilv nilv nilv
    refine bodyPost_ret (results_source rfl rfl rfl hp) rfl ?_
    rw [HR.out]
    exact ReadP.no w _ (by rw [hn]; exact (HB1.out.trans (HB2.out.mono (by omega))).trans (((((Below.refl n w2).setCell (p := ⟨n, 0, none⟩) (Nat.le_refl _) _).setCell (p := ⟨n, 1, none⟩) (Nat.le_refl _) _).setCell (p := ⟨n, 2, none⟩) (Nat.le_refl _) _).setCell (p := ⟨n, 3, none⟩) (Nat.le_refl _) _)) _ _
  subst hw
  have HS2 := hid (HS.out.trans (if_neg (by simp)))
  clear HS
  go_upto_region 5 with (go_at_call 22; refine (treeParse_any toks tv w2 _ HT2.out).mono ?_; rintro e w3 ⟨fv, pv, rfl, hb3, hf3, hp3⟩; rw [HPS.out] at hf3 hp3 ⊢; have HB3 := hid hb3; have HF3 := hid hf3; have HP3 := hid hp3; have hz3 := hb3.size; clear hb3 hf3 hp3)
  have b3 := (HB3.out.block n (by omega)).trans HN2.out
  have y3 := blk_cell b3; have f3 := blk_free b3
  have HN3 := hid b3
  clear b3 y2 f2
  have hB3 : Below n w w3 := (HB1.out.trans (HB2.out.mono (by omega))).trans (HB3.out.mono (by omega))
  have HBB := hid hB3
  clear hB3
  by_cases hw : pwhy = 0
  case neg =>
    have hwb : (pwhy == 0) = false := by rw [beq_eq_false_iff_ne]; exact hw
    have hwb2 : (pwhy != 0) = true := by rw [bne, hwb]; rfl
    have HR := hid (HS2.out.trans (if_pos hw))
    go_wp2_with fail
    have hp := set_prog HN3.out nilv nilv nilv nilv
    refine bodyPost_ret (results_source rfl rfl rfl hp) rfl ?_
    rw [HR.out]
    exact ReadP.no w _ (by rw [hn]; exact HBB.out.trans (((((Below.refl n w3).setCell (p := ⟨n, 0, none⟩) (Nat.le_refl _) _).setCell (p := ⟨n, 1, none⟩) (Nat.le_refl _) _).setCell (p := ⟨n, 2, none⟩) (Nat.le_refl _) _).setCell (p := ⟨n, 3, none⟩) (Nat.le_refl _) _)) _ _
  subst hw
  have HR := hid (HS2.out.trans (if_neg (by simp)))
  have hf4 := HF3.out.imp0 (w' := w3) (D' := fun b => b < w3.heap.size) fun b _ hb => ⟨hb, rfl⟩
  have hp4 := HP3.out.imp (w' := w3) (D' := fun b => b < w3.heap.size) fun b _ hb => ⟨hb, rfl⟩
  have HF4 := hid hf4; have HP4 := hid hp4
  clear HS2 hf4 hp4
  go_wp2_with (go_at_call 9; refine (read_any l top fv pv w3 HF4.out HP4.out HTX.out).mono ?_; rintro e w4 ⟨D, rfl, hb4, hd4⟩; obtain ⟨A0, d0, g0, _⟩ := hd4.decls.slice; obtain ⟨A1, d1, g1, _⟩ := hd4.exprs.slice; obtain ⟨A2, d2, g2, _⟩ := hd4.stmts.slice; obtain ⟨A3, d3, g3, _⟩ := hd4.main.slice; have HG := hid (And.intro g0 (And.intro g1 (And.intro g2 g3))); rw [g0, g1, g2, g3]; have b4 := (hb4.block n (by omega)).trans HN3.out; clear y3 f3; have y4 := blk_cell b4; have f4 := blk_free b4; have HN4 := hid b4; have HB4 := hid hb4; have HD4 := hid hd4; clear b4 hb4 hd4 g0 g1 g2 g3)
  obtain ⟨g0, g1, g2, g3⟩ := HG.out
  have hp := set_prog HN4.out (.slice A0 (readS l top).1.decls.length d0) (.slice A1 (readS l top).1.exprs.length d1) (.slice A2 (readS l top).1.stmts.length d2) (.slice A3 (readS l top).1.main.length d3)
  refine bodyPost_ret (results_source rfl rfl rfl hp) rfl ?_
  rw [HR.out]
  have hz4 := HB4.out.size
  refine ⟨D, by rw [g0, g1, g2, g3]; rfl, by rw [hn]; exact (HBB.out.trans (HB4.out.mono (by omega))).trans (((((Below.refl n w4).setCell (p := ⟨n, 0, none⟩) (Nat.le_refl _) _).setCell (p := ⟨n, 1, none⟩) (Nat.le_refl _) _).setCell (p := ⟨n, 2, none⟩) (Nat.le_refl _) _).setCell (p := ⟨n, 3, none⟩) (Nat.le_refl _) _), ?_⟩
  exact HD4.out.imp fun b hb hlt => ⟨by omega, (Below.heap_setCell _ ⟨n, 3, none⟩ _ b (show b ≠ n by omega)).trans ((Below.heap_setCell _ ⟨n, 2, none⟩ _ b (show b ≠ n by omega)).trans ((Below.heap_setCell _ ⟨n, 1, none⟩ _ b (show b ≠ n by omega)).trans (Below.heap_setCell _ ⟨n, 0, none⟩ _ b (show b ≠ n by omega))))⟩
end Go.Proofs.Ytgaginegcjpddaa
/- Programs, as the law compares them; what a text gives back. -/
namespace Go.Proofs.Ytgaginegcjpddaa
open Go.RowKit
def DeclM.p (d : DeclM) : PDecl := ⟨d.name, d.side, d.kind⟩
def ExprM.p (x : ExprM) : Expr := ⟨x.kind, x.of_, x.op, x.name, x.num, x.kids⟩
def ActM.p (a : ActM) : PAct := ⟨a.kind, a.name, a.op, a.inn, a.e, a.cond⟩
def StmtM.p (s : StmtM) : PStmt := ⟨s.kind, s.name, s.op, s.e, s.cond, s.acts.map ActM.p, s.thn, s.els⟩
def ProgM.p (q : ProgM) : Prg := ⟨q.decls.map DeclM.p, q.exprs.map ExprM.p, q.stmts.map StmtM.p, q.main⟩
theorem ProgM.pm (q : ProgM) : q.p.m = q := by
  obtain ⟨a, b, c, d⟩ := q
  have h1 : ∀ x : DeclM, x.p.m = x := fun _ => rfl
  have h2 : ∀ x : ExprM, x.p.m = x := fun _ => rfl
  have h3 : ∀ x : ActM, x.p.m = x := fun _ => rfl
  have h4 : ∀ x : StmtM, x.p.m = x := fun x => by
    obtain ⟨k, n, o, e, c, ac, t, el⟩ := x
    simp [StmtM.p, PStmt.m, List.map_map, Function.comp_def, h3]
  simp [ProgM.p, Prg.m, List.map_map, Function.comp_def, h1, h2, h4]
def four (a b c d : Value) : Nat → Value | 0 => a | 1 => b | 2 => c | _ => d
theorem ProgR.prd {w : World} {a b c d : Value} {q : ProgM} (h : ProgR w (.agg #[a, b, c, d]) q) : PRd w (fun b => b < w.heap.size) (four a b c d) q.p := by
  obtain ⟨a', b', c', d', e, h0, h1, h2, h3⟩ := h.out
  simp only [Value.agg.injEq, Array.mk.injEq, List.cons.injEq, and_true] at e
  obtain ⟨rfl, rfl, rfl, rfl⟩ := e
  have hi : ∀ v l, IntsR w v l → Ints w (fun b => b < w.heap.size) v l := fun v l h => Row.imp h (fun _ _ _ h => h) (fun b _ hb => ⟨hb, rfl⟩) (by omega) (fun _ _ h => h.len)
  refine ⟨?_, ?_, ?_, hi _ _ h3⟩
  · exact Row.map _ h0 (fun a cs h => h) (fun _ _ hb => hb) (by omega)
  · exact Row.map _ h1 (fun a cs h => by obtain ⟨kv, rfl, h2⟩ := h; exact ⟨kv, rfl, hi _ _ h2⟩) (fun _ _ hb => hb) (by omega)
  · exact Row.map _ h2 (fun a cs h => by
      obtain ⟨av, tv, ev, rfl, h1, h2, h3⟩ := h
      exact ⟨av, tv, ev, rfl, Row.map _ h1 (fun _ _ h => h) (fun _ _ hb => hb) (by omega), hi _ _ h2, hi _ _ h3⟩) (fun _ _ hb => hb) (by omega)
end Go.Proofs.Ytgaginegcjpddaa
/- Reading forms does not look where they stood. -/
namespace Go.Proofs.Ytgaginegcjpddaa
/-- the same forms, but for where they stood -/
structure SameF (l l' : List Form) : Prop where
  len : l'.length = l.length
  kind : ∀ n, (fm l' n).kind = (fm l n).kind
  text : ∀ n, (fm l' n).text = (fm l n).text
  num : ∀ n, (fm l' n).num = (fm l n).num
  kids : ∀ n, (fm l' n).kids = (fm l n).kids
/-- both give something, the same; or both nothing -/
def SameR {α : Type} (r r' : α ⊕ Wr) : Prop :=
  match r, r' with
  | .inl a, .inl b => b = a
  | .inr e, .inr e' => e'.2 = e.2
  | _, _ => False
theorem SameR.rfl' {α : Type} (r : α ⊕ Wr) : SameR r r := by cases r <;> simp [SameR]
theorem SameR.cases {α : Type} {r r' : α ⊕ Wr} (h : SameR r r') : (∃ a, r = .inl a ∧ r' = .inl a) ∨ ∃ e e', r = .inr e ∧ r' = .inr e' ∧ e'.2 = e.2 := by
  rcases r with a | ⟨e1, e2⟩ <;> rcases r' with b | ⟨e3, e4⟩ <;> simp_all [SameR]
theorem SameR.err {α : Type} (e e' : Wr) (h : e'.2 = e.2 := by first | rfl | assumption) : SameR (.inr e : α ⊕ Wr) (.inr e') := h
section
variable {l l' : List Form} (h : SameF l l')
include h
theorem SameF.split (n : Int) : splitOk l' n = splitOk l n := by unfold splitOk; rw [h.kind, h.kids, h.kind]
theorem SameF.head (n : Int) : headW l' n = headW l n := by unfold headW; rw [h.kids, h.text]
theorem SameF.tail (n : Int) : tailK l' n = tailK l n := by unfold tailK; rw [h.kids]
theorem SameF.name (n : Int) : nameOk l' n = nameOk l n := by unfold nameOk; rw [h.kind, h.text]
theorem SameF.says (n : Int) (w : ByteArray) : saysS l' n w = saysS l n w := by unfold saysS; rw [h.kind, h.text]
theorem SameF.taking (n : Int) : takingOk l' n = takingOk l n := by unfold takingOk; rw [h.kind, h.text]
theorem SameF.takingO (n : Int) : takingOp l' n = takingOp l n := by unfold takingOp; rw [h.text]
theorem SameF.leaf (w : ByteArray) (kids : List Int) : SameR (leafS l w kids) (leafS l' w kids) := by
  unfold leafS
  simp only [h.name, h.says, h.text]
  repeat' split
  all_goals first | exact SameR.rfl' _ | exact SameR.err _ _
omit h in
theorem SameR.seq {σ α : Type} {g g' : Int → σ → (α × σ) ⊕ Wr} (hg : ∀ k s, SameR (g k s) (g' k s)) : ∀ ks s, SameR (seqS g ks s) (seqS g' ks s)
  | [], s => SameR.rfl' _
  | k :: r, s => by
    unfold seqS
    rcases (hg k s).cases with ⟨⟨p, s1⟩, h1, h2⟩ | ⟨e, e', h1, h2, he⟩
    · rw [h1, h2]
      simp only
      rcases (SameR.seq hg r s1).cases with ⟨⟨ps, s2⟩, h3, h4⟩ | ⟨e, e', h3, h4, he2⟩
      · rw [h3, h4]; exact SameR.rfl' _
      · rw [h3, h4]; exact SameR.err _ _
    · rw [h1, h2]; exact SameR.err _ _
theorem SameF.expr : ∀ f n es, SameR (exprS l f n es) (exprS l' f n es)
  | 0, n, es => SameR.err _ _
  | f + 1, n, es => by
    unfold exprS
    simp only [h.kind, h.num, h.text, h.name, h.split, h.head, h.tail]
    split
    · exact SameR.rfl' _
    · split
      · split
        · exact SameR.rfl' _
        · split
          · exact SameR.rfl' _
          · exact SameR.err _ _
      · split
        · rcases (h.leaf (headW l n) (tailK l n)).cases with ⟨a, h1, h2⟩ | ⟨e, e', h1, h2, he⟩
          · rw [h1, h2]
            cases a with
            | some x => exact SameR.rfl' _
            | none =>
              simp only
              split
              · rcases (SameR.seq (SameF.expr f) (tailK l n) es).cases with ⟨⟨ps, es1⟩, h3, h4⟩ | ⟨e, e', h3, h4, he2⟩
                · rw [h3, h4]; exact SameR.rfl' _
                · rw [h3, h4]; exact SameR.err _ _
              · exact SameR.err _ _
          · rw [h1, h2]; exact SameR.err _ _
        · exact SameR.err _ _
theorem SameF.parts (f : Nat) (kids : List Int) (es : List Expr) : SameR (partsS l f kids es) (partsS l' f kids es) := by
  unfold partsS
  rcases (h.expr f (nth kids 0) es).cases with ⟨⟨p, es1⟩, h1, h2⟩ | ⟨e, e', h1, h2, he⟩
  · rw [h1, h2]
    simp only
    split
    · rcases (h.expr f (nth kids 1) es1).cases with ⟨⟨q, es2⟩, h3, h4⟩ | ⟨e, e', h3, h4, he2⟩
      · rw [h3, h4]; exact SameR.rfl' _
      · rw [h3, h4]; exact SameR.err _ _
    · exact SameR.rfl' _
  · rw [h1, h2]; exact SameR.err _ _
theorem SameF.actB (f : Nat) (kids : List Int) (k o : Int) (inn : Bool) (fr : Nat) (es : List Expr) : SameR (actBody l f kids k o inn fr es) (actBody l' f kids k o inn fr es) := by
  unfold actBody
  simp only [h.name, h.text]
  split
  · rcases (h.parts f (kids.drop fr) es).cases with ⟨⟨⟨e, c⟩, es1⟩, h1, h2⟩ | ⟨e, e', h1, h2, he⟩
    · rw [h1, h2]; exact SameR.rfl' _
    · rw [h1, h2]; exact SameR.err _ _
  · exact SameR.err _ _
theorem SameF.act (f : Nat) (n : Int) (es : List Expr) : SameR (actS l f n es) (actS l' f n es) := by
  unfold actS
  simp only [h.split, h.head, h.tail, h.taking, h.takingO, h.says]
  repeat' split
  all_goals first | exact SameR.err _ _ | exact h.actB _ _ _ _ _ _ _
theorem SameF.body (f : Nat) {g g' : Int → ESt → (Int × ESt) ⊕ Wr} (hg : ∀ k s, SameR (g k s) (g' k s)) (n : Int) (rest : List Int) (mk : Int → List Int → PStmt) (s : ESt) : SameR (bodyS l f g n rest mk s) (bodyS l' f g' n rest mk s) := by
  unfold bodyS
  rcases (h.expr f n s.1).cases with ⟨⟨e, es1⟩, h1, h2⟩ | ⟨e, e', h1, h2, he⟩
  · rw [h1, h2]
    simp only
    rcases (SameR.seq hg rest (es1, s.2)).cases with ⟨⟨ps, s1⟩, h3, h4⟩ | ⟨e, e', h3, h4, he2⟩
    · rw [h3, h4]; exact SameR.rfl' _
    · rw [h3, h4]; exact SameR.err _ _
  · rw [h1, h2]; exact SameR.err _ _
theorem SameF.stmt : ∀ f n s, SameR (stmtS l f n s) (stmtS l' f n s)
  | 0, n, s => SameR.err _ _
  | f + 1, n, s => by
    have ih := SameF.stmt f
    unfold stmtS
    simp only [h.split, h.head, h.tail, h.taking, h.takingO, h.name, h.text, h.kind, h.kids]
    split
    · split
      · split
        · rcases (h.expr f (nth (tailK l n) 1) s.1).cases with ⟨⟨e, es1⟩, h1, h2⟩ | ⟨e, e', h1, h2, he⟩
          · rw [h1, h2]; exact SameR.rfl' _
          · rw [h1, h2]; exact SameR.err _ _
        · exact SameR.err _ _
      · split
        · split
          · split
            · rcases (h.parts f ((tailK l n).drop 2) s.1).cases with ⟨⟨⟨e, c⟩, es1⟩, h1, h2⟩ | ⟨e, e', h1, h2, he⟩
              · rw [h1, h2]; exact SameR.rfl' _
              · rw [h1, h2]; exact SameR.err _ _
            · exact SameR.err _ _
          · exact SameR.err _ _
        · split
          · rcases (SameR.seq (h.act f) (tailK l n) s.1).cases with ⟨⟨acs, es1⟩, h1, h2⟩ | ⟨e, e', h1, h2, he⟩
            · rw [h1, h2]; exact SameR.rfl' _
            · rw [h1, h2]; exact SameR.err _ _
          · split
            · split
              · rcases (h.expr f (nth (tailK l n) 0) s.1).cases with ⟨⟨e, es1⟩, h1, h2⟩ | ⟨e, e', h1, h2, he⟩
                · rw [h1, h2]
                  simp only
                  rcases (SameR.seq ih (fm l (nth (tailK l n) 1)).kids (es1, s.2)).cases with ⟨⟨ts, s1⟩, h3, h4⟩ | ⟨e, e', h3, h4, he2⟩
                  · rw [h3, h4]
                    simp only
                    rcases (SameR.seq ih (fm l (nth (tailK l n) 2)).kids s1).cases with ⟨⟨fs, s2⟩, h5, h6⟩ | ⟨e, e', h5, h6, he3⟩
                    · rw [h5, h6]; exact SameR.rfl' _
                    · rw [h5, h6]; exact SameR.err _ _
                  · rw [h3, h4]; exact SameR.err _ _
                · rw [h1, h2]; exact SameR.err _ _
              · exact SameR.err _ _
            · split
              · exact h.body f ih _ _ _ _
              · split
                · split
                  · exact h.body f ih _ _ _ _
                  · exact SameR.err _ _
                · exact SameR.err _ _
    · exact SameR.err _ _
theorem SameF.line (f : Nat) (n : Int) (p : Prg) : SameR (lineS l f n p) (lineS l' f n p) := by
  unfold lineS
  simp only [h.split, h.head, h.tail, h.name, h.text]
  split
  · split
    · rcases (h.stmt f n (p.exprs, p.stmts)).cases with ⟨⟨m, s⟩, h1, h2⟩ | ⟨e, e', h1, h2, he⟩
      · rw [h1, h2]; exact SameR.rfl' _
      · rw [h1, h2]; exact SameR.err _ _
    · repeat' split
      all_goals first | exact SameR.rfl' _ | exact SameR.err _ _
  · exact SameR.err _ _
theorem SameF.lines (f : Nat) : ∀ (ks : List Int) (p : Prg), SameR (linesS l f ks p) (linesS l' f ks p)
  | [], p => SameR.rfl' _
  | k :: r, p => by
    unfold linesS
    rcases (h.line f k p).cases with ⟨q, h1, h2⟩ | ⟨e, e', h1, h2, he⟩
    · rw [h1, h2]; exact SameF.lines f r q
    · rw [h1, h2]; exact SameR.err _ _
theorem SameF.nth (n : Nat) : (nth l' n).kind = (nth l n).kind ∧ (nth l' n).text = (nth l n).text ∧ (nth l' n).num = (nth l n).num ∧ (nth l' n).kids = (nth l n).kids := by
  have h1 := h.kind n; have h2 := h.text n; have h3 := h.num n; have h4 := h.kids n
  simp only [fm_nat] at h1 h2 h3 h4
  exact ⟨h1, h2, h3, h4⟩
theorem SameF.walk : ∀ f ps next, walkS l' f ps next = walkS l f ps next
  | 0, ps, next => rfl
  | f + 1, [], next => rfl
  | f + 1, n :: r, next => by
    simp only [walkS, h.len, (h.nth n.toNat).2.2.2, SameF.walk f]
theorem SameF.deep : ∀ j, deepS l' j = deepS l j
  | 0 => by simp [deepS, h.len]
  | j + 1 => by unfold deepS; rw [SameF.deep j, h.len, (h.nth _).1, (h.nth _).2.2.2]
theorem SameF.right (top : List Int) : rightS l' top = rightS l top := by
  unfold rightS walkedS depthS
  rw [h.len, h.walk, h.deep]
  have ha : l'.all aloneS = l.all aloneS := by
    rw [Bool.eq_iff_iff, List.all_eq_true, List.all_eq_true]
    have key : ∀ n, aloneS (Go.Proofs.Ytgaginegcjpddaa.nth l' n) = aloneS (Go.Proofs.Ytgaginegcjpddaa.nth l n) := fun n => by
      obtain ⟨h1, h2, h3, h4⟩ := h.nth n
      unfold aloneS; rw [h1, h2, h3, h4]
    constructor
    · intro ha x hx
      obtain ⟨i, hi, rfl⟩ := List.getElem_of_mem hx
      have := ha _ (nth_mem (show i < l'.length by rw [h.len]; exact hi))
      rw [key, nth_eq hi] at this; exact this
    · intro ha x hx
      obtain ⟨i, hi, rfl⟩ := List.getElem_of_mem hx
      have := ha _ (nth_mem (show i < l.length by rw [← h.len]; exact hi))
      rw [← key, nth_eq hi] at this; exact this
  rw [ha]
theorem SameF.read (top : List Int) : (readS l' top).1 = (readS l top).1 ∧ (readS l' top).2.2 = (readS l top).2.2 := by
  unfold readS
  rw [h.right, h.len]
  split
  · rcases (h.lines (l.length + 1) top Prg.none).cases with ⟨q, h1, h2⟩ | ⟨e, e', h1, h2, he⟩
    · rw [h1, h2]; exact ⟨rfl, rfl⟩
    · rw [h1, h2]; exact ⟨rfl, he⟩
  · exact ⟨rfl, rfl⟩
end
end Go.Proofs.Ytgaginegcjpddaa
/- The lexer over a list of bytes without remarks. -/
namespace Go.Proofs.Ytgaginegcjpddaa
def pieceN (l : List UInt8) : Nat := match l with | [] => 0 | c :: r => if c = 40 ∨ c = 41 then 1 else wordLen (c :: r)
def lexL : Nat → List UInt8 → Nat → List Token → List Token × Int × Int
  | 0, _, _, _ => ([], 0, 0)
  | f + 1, [], k, acc => (acc, 0, 0)
  | f + 1, c :: r, k, acc =>
    if spacedC c.toNat then lexL f r (k + 1) acc
    else
      let t := tokenOf ⟨((c :: r).take (pieceN (c :: r))).toArray⟩ k
      if t.kind = 0 then ([], k, 8) else if 600 ≤ acc.length then ([], k, 4) else lexL f ((c :: r).drop (pieceN (c :: r))) (k + pieceN (c :: r)) (acc ++ [t])
theorem ext_take (s : ByteArray) (k n : Nat) : s.extract k (k + n) = ⟨((dropS s k).take n).toArray⟩ := by
  have h : (s.extract k (k + n)).data.toList = (dropS s k).take n := by
    rw [ByteArray.data_extract]
    simp [dropS, List.extract_eq_take_drop]
  cases hb : s.extract k (k + n) with
  | mk d =>
    rw [hb] at h
    rw [← h]
theorem lexL_eq (s : ByteArray) (h : ∀ c ∈ s.data.toList, c ≠ 59) : ∀ f k acc, lexGo f s k acc = lexL f (dropS s k) k acc
  | 0, k, acc => rfl
  | f + 1, k, acc => by
    have ih := lexL_eq s h f
    unfold lexGo
    by_cases hk : s.size ≤ k
    · rw [if_pos hk]
      have : dropS s k = [] := by unfold dropS; exact List.drop_eq_nil_of_le (by rw [sz]; exact hk)
      rw [this]; rfl
    · rw [if_neg hk]
      have hlt : k < s.data.toList.length := by rw [sz]; omega
      have hd : dropS s k = nth s.data.toList k :: dropS s (k + 1) := by unfold dropS; exact drop_nth hlt
      have h59 : nth s.data.toList k ≠ 59 := h _ (nth_mem hlt)
      rw [if_neg h59]
      have hp : pieceLen s k = pieceN (dropS s k) := by
        unfold pieceLen pieceN
        rw [hd]
      have hdd : ∀ n, dropS s (k + n) = (dropS s k).drop n := fun n => by unfold dropS; rw [List.drop_drop]
      conv => rhs; rw [hd]
      unfold lexL
      split
      · exact ih _ _
      · simp only [hp, ext_take, ← hd]
        split
        · rfl
        · split
          · rfl
          · rw [ih, hdd]
end Go.Proofs.Ytgaginegcjpddaa
/- Words of a text that is read again. -/
namespace Go.Proofs.Ytgaginegcjpddaa
/-- what ends a word -/
def endB (c : UInt8) : Bool := endsC c.toNat
theorem wordLen_app : ∀ (a r : List UInt8), (∀ c ∈ a, endB c = false) → (r = [] ∨ ∃ c r', r = c :: r' ∧ endB c = true) → wordLen (a ++ r) = a.length
  | [], r, _, hr => by
    rcases hr with rfl | ⟨c, r', rfl, hc⟩
    · rfl
    · unfold endB at hc
      simp [wordLen, hc]
  | x :: a, r, ha, hr => by
    have hx : endsC (x.toNat : Int) = false := ha x (by simp)
    have ih := wordLen_app a r (fun c hc => ha c (by simp [hc])) hr
    simp [wordLen, hx, ih]
/-- one token more, if there is room -/
def take1 (t : Token) (k : Nat) (acc : List Token) (go : List Token → List Token × Int × Int) : List Token × Int × Int :=
  if t.kind = 0 then ([], k, 8) else if 600 ≤ acc.length then ([], k, 4) else go (acc ++ [t])
theorem lexL_space (f : Nat) (c : UInt8) (r : List UInt8) (k : Nat) (acc : List Token) (hc : spacedC c.toNat = true) : lexL (f + 1) (c :: r) k acc = lexL f r (k + 1) acc := by
  simp [lexL, hc]
theorem lexL_word (f : Nat) (a r : List UInt8) (k : Nat) (acc : List Token) (h0 : a ≠ []) (ha : ∀ c ∈ a, endB c = false) (hr : r = [] ∨ ∃ c r', r = c :: r' ∧ endB c = true) :
    lexL (f + 1) (a ++ r) k acc = take1 (tokenOf ⟨a.toArray⟩ k) k acc (lexL f r (k + a.length)) := by
  have hw := wordLen_app a r ha hr
  obtain ⟨x, a', rfl⟩ := List.exists_cons_of_ne_nil h0
  have hx := ha x (by simp)
  have hx' : spacedC x.toNat = false ∧ ¬ (x = 40 ∨ x = 41) := by
    unfold endB endsC at hx
    simp only [Bool.or_eq_false_iff, beq_eq_false_iff_ne] at hx
    refine ⟨hx.1, ?_⟩
    rintro (rfl | rfl)
    · exact hx.2.1.1 rfl
    · exact hx.2.1.2 rfl
  have hp : pieceN (x :: a' ++ r) = (x :: a').length := by
    simp only [List.cons_append, pieceN, if_neg hx'.2]
    exact hw
  simp only [List.cons_append] at hp ⊢
  unfold lexL take1
  rw [hx'.1]
  simp only [Bool.false_eq_true, if_false, hp]
  rw [← List.cons_append, List.take_left, List.drop_left]
theorem lexL_bracket (f : Nat) (c : UInt8) (hc : c = 40 ∨ c = 41) (r : List UInt8) (k : Nat) (acc : List Token) :
    lexL (f + 1) (c :: r) k acc = take1 (tokenOf ⟨#[c]⟩ k) k acc (lexL f r (k + 1)) := by
  have hs : spacedC c.toNat = false := by rcases hc with rfl | rfl <;> rfl
  have hp : pieceN (c :: r) = 1 := by simp [pieceN, hc]
  unfold lexL take1
  rw [hs]
  simp only [Bool.false_eq_true, if_false, hp]
  simp
theorem endB_of {c : UInt8} (h : (97 ≤ c.toNat ∧ c.toNat ≤ 122) ∨ (48 ≤ c.toNat ∧ c.toNat ≤ 57) ∨ c.toNat = 45 ∨ c.toNat = 43 ∨ c.toNat = 42 ∨ c.toNat = 47 ∨ c.toNat = 37 ∨ c.toNat = 38 ∨ c.toNat = 124 ∨ c.toNat = 94 ∨ c.toNat = 61 ∨ c.toNat = 60) : endB c = false := by
  unfold endB endsC spacedC
  simp only [Bool.or_eq_false_iff, beq_eq_false_iff_ne]
  omega
theorem nameC_ends : ∀ (b : Bool) (l : List UInt8), nameC b l = true → ∀ c ∈ l, endB c = false
  | _, [], _ => by simp
  | b, x :: r, h => by
    unfold nameC at h
    simp only [Bool.and_eq_true, Bool.or_eq_true, letterC, digitC, decide_eq_true_eq] at h
    intro c hc
    rcases List.mem_cons.1 hc with rfl | hc
    · exact endB_of (by omega)
    · exact nameC_ends false r h.2 c hc
theorem word_ends {s : ByteArray} (h : wordKind s = 3) : s.data.toList ≠ [] ∧ ∀ c ∈ s.data.toList, endB c = false := by
  unfold wordKind at h
  split at h
  · omega
  · split at h
    · rename_i h4
      rw [Bool.or_eq_true] at h4
      rcases h4 with h4 | h4
      · unfold isSign at h4
        simp only [Bool.or_eq_true, beq_iff_eq, ByteArray.toList_eq] at h4
        rcases h4 with (((((((((h4 | h4) | h4) | h4) | h4) | h4) | h4) | h4) | h4) | h4) <;> rw [h4] <;> exact ⟨by simp, by intro c hc; simp only [List.mem_singleton] at hc; subst hc; rfl⟩
      · unfold lexName at h4
        simp only [Bool.and_eq_true, decide_eq_true_eq] at h4
        refine ⟨fun e => ?_, nameC_ends true _ h4.1⟩
        have := sz s
        rw [e] at this
        simp at this
        omega
    · omega
theorem wordKind_tok {s : ByteArray} (h : wordKind s = 3) : s.toList ≠ [40] ∧ s.toList ≠ [41] := by
  have hw := word_ends h
  constructor
  · intro e
    rw [ByteArray.toList_eq] at e
    have := hw.2 40 (by rw [e]; simp)
    revert this; decide
  · intro e
    rw [ByteArray.toList_eq] at e
    have := hw.2 41 (by rw [e]; simp)
    revert this; decide
theorem tokenOf_word {s : ByteArray} (h : wordKind s = 3) (k : Int) : (tokenOf s k).kind = 3 ∧ (tokenOf s k).text = s := by
  have hw := wordKind_tok h
  unfold tokenOf
  simp only [if_neg hw.1, if_neg hw.2, h]
  exact ⟨trivial, trivial⟩
end Go.Proofs.Ytgaginegcjpddaa
/- Numbers as text, read again. -/
namespace Go.Proofs.Ytgaginegcjpddaa
open Go.RowKit
theorem pgo_app : ∀ (a b : List UInt8) (w : Int), pgo (a ++ b) w = (pgo a w).bind (pgo b)
  | [], b, w => rfl
  | c :: a, b, w => by
    simp only [List.cons_append, pgo]
    split
    · rfl
    · exact pgo_app a b _
theorem dig_num (d : Nat) (hd : d < 10) : ((UInt8.ofNat (48 + d)).toNat : Int) = 48 + d := by
  rw [UInt8.toNat_ofNat']; omega
theorem pgo_small (u : Nat) (h : u < 10) : pgo [UInt8.ofNat (48 + u)] 0 = some (-(u : Int)) := by
  simp only [pgo, dig_num u h]
  rw [if_neg (by omega)]
  unfold pstep
  rw [dig_num u h]
  unfold wrap64
  congr 1
  omega
theorem pgo_dec : ∀ (n u : Nat), u ≤ n → u ≤ 9223372036854775808 → pgo (Lib.decDigits u) 0 = some (-(u : Int)) := by
  intro n
  induction n with
  | zero =>
    intro u h _
    obtain rfl : u = 0 := by omega
    rw [Lib.decDigits_one (by omega)]
    exact pgo_small 0 (by omega)
  | succ n ih =>
    intro u h hb
    by_cases h10 : u < 10
    · rw [Lib.decDigits_one h10]
      exact pgo_small u h10
    · have e : Lib.decDigits u = Lib.decDigits (u / 10) ++ [UInt8.ofNat (48 + u % 10)] := by rw [Lib.decDigits, dif_neg h10]
      rw [e, pgo_app, ih (u / 10) (by omega) (by omega)]
      have hm := dig_num (u % 10) (by omega)
      simp only [Option.bind, pgo, hm]
      rw [if_neg (by omega)]
      unfold pstep
      rw [hm]
      unfold wrap64
      congr 1
      omega
theorem nDigits_le : ∀ (k u : Nat), u < 10 ^ (k + 1) → Lib.nDigits u ≤ k + 1
  | 0, u, h => by rw [Lib.nDigits_small (by omega)]; omega
  | k + 1, u, h => by
    by_cases h10 : u < 10
    · rw [Lib.nDigits_small h10]; omega
    · rw [Lib.nDigits_big h10]
      have := nDigits_le k (u / 10) (by rw [Nat.pow_succ] at h; omega)
      omega
theorem dec_head (u : Nat) : ∃ c r, Lib.decDigits u = c :: r ∧ 48 ≤ c.toNat ∧ c.toNat ≤ 57 := by
  have key : ∀ n u, u ≤ n → ∃ c r, Lib.decDigits u = c :: r ∧ 48 ≤ c.toNat ∧ c.toNat ≤ 57 := by
    intro n
    induction n with
    | zero =>
      intro u h
      obtain rfl : u = 0 := by omega
      refine ⟨_, _, Lib.decDigits_one (by omega), ?_⟩
      have := dig_num 0 (by omega); omega
    | succ n ih =>
      intro u h
      by_cases h10 : u < 10
      · refine ⟨_, _, Lib.decDigits_one h10, ?_⟩
        have := dig_num u h10; omega
      · obtain ⟨c, r, e, h1⟩ := ih (u / 10) (by omega)
        exact ⟨c, r ++ [UInt8.ofNat (48 + u % 10)], by rw [Lib.decDigits, dif_neg h10, e]; rfl, h1⟩
  exact key u u (Nat.le_refl _)
theorem parse_digs (a : Int) (h : InW a) : parseW (digs a) = some a := by
  have hsz : (digs a).size = (Lib.itoa a).length := by show (Lib.itoa a).toArray.size = _; simp
  have hd : (digs a).data.toList = Lib.itoa a := by simp [digs]
  have hb : 1 ≤ (Lib.itoa a).length ∧ (Lib.itoa a).length ≤ 20 := by
    unfold Lib.itoa
    split
    · rw [List.length_cons, Lib.decDigits_length]
      have := nDigits_le 18 a.natAbs (by have := h.1; omega)
      omega
    · rw [Lib.decDigits_length]
      have := nDigits_le 18 a.toNat (by have := h.2; omega)
      have := Lib.nDigits_pos a.toNat
      omega
  have hp : pbody (Lib.itoa a) = some a := by
    unfold pbody Lib.itoa
    by_cases hn : a < 0
    · rw [if_pos hn]
      simp only [List.head?_cons, if_pos, List.tail_cons]
      rw [pgo_dec _ _ (Nat.le_refl _) (by have := h.1; omega)]
      congr 1; omega
    · rw [if_neg hn]
      obtain ⟨c, r, e, h1, h2⟩ := dec_head a.toNat
      have hne : ¬ (Lib.decDigits a.toNat).head? = some 45 := by
        rw [e]
        simp only [List.head?_cons, Option.some.injEq]
        rintro rfl
        revert h1; decide
      rw [if_neg hne, pgo_dec _ _ (Nat.le_refl _) (by have := h.2; omega)]
      simp only [Option.map_some]
      congr 1
      have := h.2
      unfold wrap64
      omega
  unfold parseW
  rw [if_neg (by omega), hd, hp]
  simp
theorem dec_ends : ∀ n u, u ≤ n → ∀ c ∈ Lib.decDigits u, endB c = false := by
  intro n
  induction n with
  | zero =>
    intro u h c hc
    obtain rfl : u = 0 := by omega
    rw [Lib.decDigits_one (by omega), List.mem_singleton] at hc
    subst hc; rfl
  | succ n ih =>
    intro u h c hc
    by_cases h10 : u < 10
    · rw [Lib.decDigits_one h10, List.mem_singleton] at hc
      subst hc
      have := dig_num u h10
      exact endB_of (by omega)
    · rw [Lib.decDigits, dif_neg h10, List.mem_append] at hc
      rcases hc with hc | hc
      · exact ih (u / 10) (by omega) c hc
      · rw [List.mem_singleton] at hc
        subst hc
        have := dig_num (u % 10) (by omega)
        exact endB_of (by omega)
theorem digs_ends (a : Int) : (digs a).data.toList ≠ [] ∧ ∀ c ∈ (digs a).data.toList, endB c = false := by
  have hd : (digs a).data.toList = Lib.itoa a := by simp [digs]
  rw [hd]
  unfold Lib.itoa
  split
  · refine ⟨by simp, fun c hc => ?_⟩
    rcases List.mem_cons.1 hc with rfl | hc
    · rfl
    · exact dec_ends _ _ (Nat.le_refl _) c hc
  · obtain ⟨c, r, e, _⟩ := dec_head a.toNat
    exact ⟨by rw [e]; simp, dec_ends _ _ (Nat.le_refl _)⟩
theorem tokenOf_digs (a : Int) (h : InW a) (k : Int) : (tokenOf (digs a) k).kind = 4 ∧ (tokenOf (digs a) k).num = a := by
  have hw := digs_ends a
  have h1 : (digs a).toList ≠ [40] := fun e => by
    rw [ByteArray.toList_eq] at e
    have := hw.2 40 (by rw [e]; simp)
    revert this; decide
  have h2 : (digs a).toList ≠ [41] := fun e => by
    rw [ByteArray.toList_eq] at e
    have := hw.2 41 (by rw [e]; simp)
    revert this; decide
  have hp := parse_digs a h
  unfold tokenOf wordKind
  simp [h1, h2, hp]
end Go.Proofs.Ytgaginegcjpddaa
/- The tokens of forms' text. -/
namespace Go.Proofs.Ytgaginegcjpddaa
/-- a token, but for its place -/
structure Item where
  kind : Int
  text : ByteArray
  num : Int
def Fits (i : Item) (t : Token) : Prop := t.kind = i.kind ∧ (i.kind = 3 → t.text = i.text) ∧ (i.kind = 4 → t.num = i.num)
def itemsS (l : List Form) : Nat → Int → List Item
  | 0, _ => []
  | f + 1, n => if (fm l n).kind = 4 then [⟨4, ⟨#[]⟩, (fm l n).num⟩] else if (fm l n).kind = 3 then [⟨3, (fm l n).text, 0⟩]
    else ⟨1, ⟨#[]⟩, 0⟩ :: ((fm l n).kids.flatMap (itemsS l f) ++ [⟨2, ⟨#[]⟩, 0⟩])
/-- items and tokens, one for one -/
inductive AllFit : List Item → List Token → Prop
  | nil : AllFit [] []
  | cons {i : Item} {t : Token} {is : List Item} {ts : List Token} : Fits i t → AllFit is ts → AllFit (i :: is) (t :: ts)
theorem AllFit.app {is js : List Item} {ts us : List Token} (h : AllFit is ts) (k : AllFit js us) : AllFit (is ++ js) (ts ++ us) := by
  induction h with
  | nil => exact k
  | cons h1 _ ih => exact .cons h1 ih
theorem AllFit.len {is : List Item} {ts : List Token} (h : AllFit is ts) : ts.length = is.length := by
  induction h with
  | nil => rfl
  | cons _ _ ih => simp [ih]
/-- what may come behind a form -/
def RestOk (r : List UInt8) : Prop := r = [] ∨ ∃ c r', r = c :: r' ∧ endB c = true
/-- lexing a text goes on behind it, or there are too many tokens -/
def LexP (bs : List UInt8) (is : List Item) : Prop := ∀ (fuel : Nat) (rest : List UInt8) (k : Nat) (acc : List Token), bs.length + rest.length < fuel → RestOk rest → acc.length ≤ 600 →
  (∃ ts k' fuel', AllFit is ts ∧ lexL fuel (bs ++ rest) k acc = lexL fuel' rest k' (acc ++ ts) ∧ rest.length < fuel' ∧ (acc ++ ts).length ≤ 600) ∨ ((lexL fuel (bs ++ rest) k acc).2.2 = 4 ∧ 600 < acc.length + is.length)
theorem LexP.one {bs : List UInt8} {i : Item} (h : ∀ (fuel : Nat) (rest : List UInt8) (k : Nat) (acc : List Token), RestOk rest → ∃ t k', Fits i t ∧ t.kind ≠ 0 ∧ lexL (fuel + 1) (bs ++ rest) k acc = take1 t k acc (lexL fuel rest k')) (h0 : 0 < bs.length) : LexP bs [i] := by
  intro fuel rest k acc hf hr ha
  obtain ⟨g, rfl⟩ : ∃ g, fuel = g + 1 := ⟨fuel - 1, by omega⟩
  obtain ⟨t, k', h1, h2, h3⟩ := h g rest k acc hr
  rw [h3]
  unfold take1
  rw [if_neg h2]
  by_cases hc : 600 ≤ acc.length
  · right
    rw [if_pos hc]
    exact ⟨rfl, by simp; omega⟩
  · left
    rw [if_neg hc]
    exact ⟨[t], k', g, .cons h1 .nil, rfl, by omega, by simp; omega⟩
theorem LexP.app {a b : List UInt8} {is js : List Item} (h : LexP a is) (k : LexP b js) (hr : ∀ r, RestOk r → RestOk (b ++ r)) : LexP (a ++ b) (is ++ js) := by
  intro fuel rest p acc hf hrest ha
  rw [List.length_append] at hf
  rw [List.append_assoc]
  rcases h fuel (b ++ rest) p acc (by rw [List.length_append]; omega) (hr rest hrest) ha with ⟨ts, k', f', h1, h2, h3, h4⟩ | ⟨h1, h2⟩
  · rw [h2]
    rcases k f' rest k' (acc ++ ts) (by rw [List.length_append] at h3; exact h3) hrest h4 with ⟨us, k2, f2, g1, g2, g3, g4⟩ | ⟨g1, g2⟩
    · exact .inl ⟨ts ++ us, k2, f2, h1.app g1, by rw [g2, List.append_assoc], g3, by rw [← List.append_assoc]; exact g4⟩
    · refine .inr ⟨g1, ?_⟩
      have := h1.len
      simp only [List.length_append] at g2 ⊢
      omega
  · exact .inr ⟨h1, by rw [List.length_append]; omega⟩
theorem LexP.space {b : List UInt8} {js : List Item} (c : UInt8) (hc : spacedC c.toNat = true) (h : LexP b js) : LexP (c :: b) js := by
  intro fuel rest p acc hf hrest ha
  rw [List.length_cons] at hf
  obtain ⟨g, rfl⟩ : ∃ g, fuel = g + 1 := ⟨fuel - 1, by omega⟩
  rw [List.cons_append, lexL_space g c (b ++ rest) p acc hc]
  exact h g rest (p + 1) acc (by omega) hrest ha
theorem LexP.nil : LexP [] [] := fun fuel rest k acc hf hr ha => .inl ⟨[], k, fuel, .nil, by simp, by simpa using hf, by simpa using ha⟩
theorem LexP.word {s : ByteArray} {i : Item} (h : s.data.toList ≠ [] ∧ ∀ c ∈ s.data.toList, endB c = false) (hi : ∀ k, Fits i (tokenOf s k)) (hk : i.kind ≠ 0) : LexP s.data.toList [i] := by
  refine LexP.one (fun fuel rest k acc hr => ⟨tokenOf s k, k + s.data.toList.length, hi k, by rw [(hi k).1]; exact hk, ?_⟩) (by rcases hd : s.data.toList with _ | ⟨a, b⟩; exact absurd hd h.1; simp)
  exact lexL_word fuel s.data.toList rest k acc h.1 h.2 hr
theorem LexP.bracket {c : UInt8} (hc : c = 40 ∨ c = 41) {i : Item} (hi : ∀ k, Fits i (tokenOf ⟨#[c]⟩ k)) (hk : i.kind ≠ 0) : LexP [c] [i] :=
  LexP.one (fun fuel rest k acc hr => ⟨tokenOf ⟨#[c]⟩ k, k + 1, hi k, by rw [(hi k).1]; exact hk, lexL_bracket fuel c hc rest k acc⟩) (by simp)
theorem LexP.kids {g : Int → List UInt8} {it : Int → List Item} : ∀ (ks : List Int), (∀ k ∈ ks, LexP (g k) (it k)) → LexP (ks.flatMap fun k => 32 :: g k) (ks.flatMap it)
  | [], _ => LexP.nil
  | k :: r, h => by
    simp only [List.flatMap_cons]
    refine LexP.app (LexP.space 32 rfl (h k (by simp))) (LexP.kids r fun j hj => h j (by simp [hj])) fun q hq => ?_
    cases r with
    | nil => exact hq
    | cons a r => exact .inr ⟨32, _, rfl, rfl⟩
theorem LexP.spaced {g : Int → List UInt8} {it : Int → List Item} (ks : List Int) (h : ∀ k ∈ ks, LexP (g k) (it k)) : LexP (spacedT g ks) (ks.flatMap it) := by
  cases ks with
  | nil => exact LexP.nil
  | cons k r =>
    rw [spacedT_cons, List.flatMap_cons]
    refine LexP.app (h k (by simp)) (LexP.kids r fun j hj => h j (by simp [hj])) fun q hq => ?_
    cases r with
    | nil => exact hq
    | cons a r => exact .inr ⟨32, _, rfl, rfl⟩
theorem tok40 (p : Int) : (tokenOf ⟨#[40]⟩ p).kind = 1 := by
  have : (⟨#[40]⟩ : ByteArray).toList = [40] := by rw [ByteArray.toList_eq]
  unfold tokenOf; simp [this]
theorem tok41 (p : Int) : (tokenOf ⟨#[41]⟩ p).kind = 2 := by
  have : (⟨#[41]⟩ : ByteArray).toList = [41] := by rw [ByteArray.toList_eq]
  unfold tokenOf; simp [this]
theorem LexP.opn {c : UInt8} (hc : c = 40 ∨ c = 41) {b : List UInt8} {i : Item} {is : List Item} (hi : ∀ k, Fits i (tokenOf ⟨#[c]⟩ k)) (hk : i.kind ≠ 0) (h : LexP b is) : LexP (c :: b) (i :: is) := by
  intro fuel rest p acc hf hrest ha
  rw [List.length_cons] at hf
  obtain ⟨g, rfl⟩ : ∃ g, fuel = g + 1 := ⟨fuel - 1, by omega⟩
  rw [List.cons_append, lexL_bracket g c hc]
  unfold take1
  rw [if_neg (by rw [(hi p).1]; exact hk)]
  by_cases h6 : 600 ≤ acc.length
  · right
    rw [if_pos h6]
    exact ⟨rfl, by simp; omega⟩
  · rw [if_neg h6]
    rcases h g rest (p + 1) (acc ++ [tokenOf ⟨#[c]⟩ p]) (by omega) hrest (by simp; omega) with ⟨ts, k', f', h1, h2, h3, h4⟩ | ⟨h1, h2⟩
    · exact .inl ⟨_ :: ts, k', f', .cons (hi p) h1, by rw [h2, List.append_assoc]; rfl, h3, by simpa [Nat.add_assoc, Nat.add_comm, Nat.add_left_comm] using h4⟩
    · exact .inr ⟨h1, by simp at h2 ⊢; omega⟩
theorem text_lex {l : List Form} (hs : ShowOk l) (hw : ∀ n, n < l.length → (nth l n).kind = 3 → wordKind (nth l n).text = 3) : ∀ f n, Kin l f n → LexP (textS l f n) (itemsS l f n)
  | 0, n, hn => by obtain ⟨k, h1, h2, h3⟩ := hn; omega
  | f + 1, n, hn => by
    obtain ⟨k, rfl, hk, hf⟩ := hn
    have ih := text_lex hs hw f
    unfold textS itemsS
    by_cases h4 : (fm l (k : Int)).kind = 4
    · rw [if_pos h4, if_pos h4]
      have hn := hs.num k hk
      rw [← fm_nat] at hn
      exact LexP.word (digs_ends _) (fun p => ⟨(tokenOf_digs _ hn p).1, fun e => by simp at e, fun _ => (tokenOf_digs _ hn p).2⟩) (by simp)
    · rw [if_neg h4, if_neg h4]
      by_cases h3 : (fm l (k : Int)).kind = 3
      · rw [if_pos h3, if_pos h3]
        have hn := hw k hk (by rw [← fm_nat]; exact h3)
        rw [← fm_nat] at hn
        exact LexP.word (word_ends hn) (fun p => ⟨(tokenOf_word hn p).1, fun _ => (tokenOf_word hn p).2, fun e => by simp at e⟩) (by simp)
      · rw [if_neg h3, if_neg h3]
        refine LexP.opn (.inl rfl) (fun p => ⟨tok40 p, fun e => by simp at e, fun e => by simp at e⟩) (by simp) ?_
        exact LexP.app (LexP.spaced (fm l (k : Int)).kids fun j hj => ih j (kin_tail hs.wf ⟨k, rfl, hk, hf⟩ j hj)) (LexP.bracket (c := 41) (i := ⟨2, ⟨#[]⟩, 0⟩) (.inr rfl) (fun p => ⟨tok41 p, fun e => by simp at e, fun e => by simp at e⟩) (by simp)) fun q hq => .inr ⟨41, q, rfl, rfl⟩
theorem LexP.lines {g : Int → List UInt8} {it : Int → List Item} : ∀ (ks : List Int), (∀ k ∈ ks, LexP (g k) (it k)) → LexP (ks.flatMap fun k => g k ++ [10]) (ks.flatMap it)
  | [], _ => LexP.nil
  | k :: r, h => by
    simp only [List.flatMap_cons, List.append_assoc]
    exact LexP.app (h k (by simp)) (LexP.space 10 rfl (LexP.lines r fun j hj => h j (by simp [hj]))) fun q hq => .inr ⟨10, _, rfl, rfl⟩
/-- the items of a whole -/
def printI (l : List Form) (top : List Int) : List Item := top.flatMap (itemsS l (l.length + 1))
theorem text_no59 {l : List Form} (hs : ShowOk l) (hw : ∀ n, n < l.length → (nth l n).kind = 3 → wordKind (nth l n).text = 3) : ∀ f n, Kin l f n → ∀ c ∈ textS l f n, c ≠ 59
  | 0, n, hn => by obtain ⟨k, h1, h2, h3⟩ := hn; omega
  | f + 1, n, hn => by
    obtain ⟨k, rfl, hk, hf⟩ := hn
    have ih := text_no59 hs hw f
    have hne : ∀ {c : UInt8}, endB c = false → c ≠ 59 := by rintro c h rfl; revert h; decide
    unfold textS
    by_cases h4 : (fm l (k : Int)).kind = 4
    · rw [if_pos h4]
      exact fun c hc => hne ((digs_ends _).2 c hc)
    · rw [if_neg h4]
      by_cases h3 : (fm l (k : Int)).kind = 3
      · rw [if_pos h3]
        have hn := hw k hk (by rw [← fm_nat]; exact h3)
        rw [← fm_nat] at hn
        exact fun c hc => hne ((word_ends hn).2 c hc)
      · rw [if_neg h3]
        have hk : ∀ ks : List Int, (∀ j ∈ ks, Kin l f j) → ∀ c ∈ spacedT (textS l f) ks, c ≠ 59 := by
          intro ks hks
          cases ks with
          | nil => simp [spacedT]
          | cons a r =>
            rw [spacedT_cons]
            intro c hc
            rcases List.mem_append.1 hc with hc | hc
            · exact ih a (hks a (by simp)) c hc
            · obtain ⟨j, hj, hc⟩ := List.mem_flatMap.1 hc
              rcases List.mem_cons.1 hc with rfl | hc
              · decide
              · exact ih j (hks j (by simp [hj])) c hc
        have hk2 := hk _ (kin_tail hs.wf ⟨k, rfl, by assumption, hf⟩)
        intro c hc
        simp only [List.mem_cons, List.mem_append, List.not_mem_nil, or_false] at hc
        rcases hc with rfl | hc | rfl
        · decide
        · exact hk2 c hc
        · decide
/-- the tokens of a printed text: those of its forms, or too many -/
theorem tokens_print {l : List Form} {top : List Int} (hs : ShowOk l) (hw : ∀ n, n < l.length → (nth l n).kind = 3 → wordKind (nth l n).text = 3) (ht : ∀ k ∈ top, Kin l (l.length + 1) k) (hsz : (printS l top).length ≤ 3000) :
    (∃ ts, AllFit (printI l top) ts ∧ tokensS ⟨(printS l top).toArray⟩ = (ts, 0, 0)) ∨ ((tokensS ⟨(printS l top).toArray⟩).2.2 = 4 ∧ 600 < (printI l top).length) := by
  have hp : LexP (printS l top) (printI l top) := LexP.lines top fun k hk => text_lex hs hw _ k (ht k hk)
  have h59 : ∀ c ∈ (⟨(printS l top).toArray⟩ : ByteArray).data.toList, c ≠ 59 := by
    intro c hc
    have hc : c ∈ printS l top := by simpa using hc
    unfold printS at hc
    obtain ⟨k, hk, hc⟩ := List.mem_flatMap.1 hc
    rcases List.mem_append.1 hc with hc | hc
    · exact text_no59 hs hw _ k (ht k hk) c hc
    · simp only [List.mem_singleton] at hc; subst hc; decide
  have hss : (⟨(printS l top).toArray⟩ : ByteArray).size = (printS l top).length := by show (printS l top).toArray.size = _; simp
  have he := lexL_eq ⟨(printS l top).toArray⟩ h59 ((printS l top).length + 1) 0 []
  have hd : dropS ⟨(printS l top).toArray⟩ 0 = printS l top := by simp [dropS]
  unfold tokensS
  rw [hss, if_neg (by omega), he, hd]
  have hq := hp ((printS l top).length + 1) [] 0 [] (by simp) (.inl rfl) (by simp)
  simp only [List.append_nil, List.nil_append, List.length_nil, Nat.zero_add] at hq
  rcases hq with ⟨ts, k', f', h1, h2, h3, h4⟩ | ⟨h1, h2⟩
  · left
    refine ⟨ts, h1, ?_⟩
    rw [h2]
    cases f' with
    | zero => exact absurd h3 (by omega)
    | succ f' => rfl
  · exact .inr ⟨h1, h2⟩
end Go.Proofs.Ytgaginegcjpddaa
/- Tokens of forms' text, parsed again: the same forms, but for where they stood. -/
namespace Go.Proofs.Ytgaginegcjpddaa
def SameX (a b : Form) : Prop := a.kind = b.kind ∧ a.text = b.text ∧ a.num = b.num ∧ a.kids = b.kids
theorem SameX.trans {a b c : Form} (h : SameX a b) (k : SameX b c) : SameX a c := ⟨h.1.trans k.1, h.2.1.trans k.2.1, h.2.2.1.trans k.2.2.1, h.2.2.2.trans k.2.2.2⟩
theorem SameX.refl (a : Form) : SameX a a := ⟨rfl, rfl, rfl, rfl⟩
theorem AllFit.cut {is : List Item} : ∀ {js : List Item} {ts : List Token}, AllFit (is ++ js) ts → ∃ a b, ts = a ++ b ∧ AllFit is a ∧ AllFit js b := by
  induction is with
  | nil => intro js ts h; exact ⟨[], ts, rfl, .nil, h⟩
  | cons i is ih =>
    intro js ts h
    cases h with
    | cons h1 h2 =>
      obtain ⟨a, b, rfl, h3, h4⟩ := ih h2
      exact ⟨_ :: a, b, rfl, .cons h1 h3, h4⟩
theorem AllFit.head {i : Item} {is : List Item} {ts : List Token} (h : AllFit (i :: is) ts) : ∃ t r, ts = t :: r ∧ Fits i t ∧ AllFit is r := by
  cases h with
  | cons h1 h2 => exact ⟨_, _, rfl, h1, h2⟩
theorem AllFit.one {i : Item} {ts : List Token} (h : AllFit [i] ts) : ∃ t, ts = [t] ∧ Fits i t := by
  obtain ⟨t, r, rfl, h1, h2⟩ := h.head
  cases h2
  exact ⟨t, rfl, h1⟩
theorem nth_set_ne2 {α : Type} [Inhabited α] {l : List α} {i j : Nat} {a : α} (h : j ≠ i) : nth (l.set j a) i = nth l i := by
  simp [nth, List.getD_eq_getElem?_getD, List.getElem?_set_ne h]
theorem nth_set_eq2 {α : Type} [Inhabited α] {l : List α} {i : Nat} {a : α} (h : i < l.length) : nth (l.set i a) i = a := by
  rw [nth_set h, if_pos rfl]
/-! ### how deep forms are -/
theorem deepS_keep (l : List Form) (i : Nat) : ∀ d j, l.length - i ≤ j → j + d ≤ l.length → nth (deepS l (j + d)) i = nth (deepS l j) i
  | 0, j, _, _ => rfl
  | d + 1, j, h, h2 => by
    rw [← deepS_keep l i d j h (by omega)]
    show nth (deepS l ((j + d) + 1)) i = _
    conv => lhs; unfold deepS
    split
    · rw [nth_set_ne2 (by omega)]
    · rfl
theorem maxK_le (d : List Int) (ks : List Int) (k : Int) (hk : k ∈ ks) : nth d k.toNat ≤ maxK d ks := by
  have key : ∀ (ks : List Int) (a : Int), a ≤ ks.foldl (fun a k => max a (nth d k.toNat)) a ∧ ∀ k ∈ ks, nth d k.toNat ≤ ks.foldl (fun a k => max a (nth d k.toNat)) a := by
    intro ks
    induction ks with
    | nil => intro a; simp
    | cons x r ih =>
      intro a
      obtain ⟨h1, h2⟩ := ih (max a (nth d x.toNat))
      simp only [List.foldl_cons]
      refine ⟨by omega, fun k hk => ?_⟩
      rcases List.mem_cons.1 hk with rfl | hk
      · omega
      · exact h2 k hk
  exact (key ks 0).2 k hk
theorem deep_kid {l : List Form} (hwf : WF l) {n : Nat} (hn : n < l.length) (h1 : (nth l n).kind = 1) (h12 : nth (deepS l l.length) n ≤ 12) : 1 ≤ nth (deepS l l.length) n ∧ ∀ k ∈ (nth l n).kids, nth (deepS l l.length) k.toNat + 1 ≤ nth (deepS l l.length) n := by
  obtain ⟨j, hj⟩ : ∃ j, l.length = n + 1 + j := ⟨l.length - (n + 1), by omega⟩
  have e0 : l.length - 1 - j = n := by omega
  have e1 : nth (deepS l l.length) n = nth (deepS l (j + 1)) n := by
    have := deepS_keep l n n (j + 1) (by omega) (by omega)
    rw [← this]; congr 2; omega
  have e2 : nth (deepS l (j + 1)) n = min (maxK (deepS l j) (behind l.length (n : Int) (nth l n).kids) + 1) 13 := by
    conv => lhs; unfold deepS
    rw [e0, if_pos h1, nth_set_eq2 (by rw [deepS_len]; exact hn)]
  have hb := (maxK_bd (deepS l j) (deepS_bd l j) (behind l.length (n : Int) (nth l n).kids)).1
  rw [e1, e2] at h12 ⊢
  refine ⟨by omega, fun k hk => ?_⟩
  have hw := hwf n hn k hk
  have hm : k ∈ behind l.length (n : Int) (nth l n).kids := by
    unfold behind
    rw [List.mem_filter]
    refine ⟨hk, ?_⟩
    simp only [Bool.and_eq_true, decide_eq_true_eq]
    omega
  have hle := maxK_le (deepS l j) _ k hm
  have e3 : nth (deepS l l.length) k.toNat = nth (deepS l j) k.toNat := by
    have := deepS_keep l k.toNat (n + 1) j (by omega) (by omega)
    rw [← this]; congr 2; omega
  omega
theorem top_deep {l : List Form} {top : List Int} (h : depthS l top ≤ 12) : ∀ k ∈ top, 0 ≤ k → k < l.length → nth (deepS l l.length) k.toNat ≤ 12 := by
  have key : ∀ (d ks : List Int) (a : Int), a ≤ ks.foldl (fun (a n : Int) => if 0 ≤ n ∧ n < d.length then max a (nth d n.toNat) else a) a ∧ ∀ k ∈ ks, 0 ≤ k → k < d.length → nth d k.toNat ≤ ks.foldl (fun (a n : Int) => if 0 ≤ n ∧ n < d.length then max a (nth d n.toNat) else a) a := by
    intro d ks
    induction ks with
    | nil => intro a; simp
    | cons x r ih =>
      intro a
      simp only [List.foldl_cons]
      by_cases hx : 0 ≤ x ∧ x < d.length
      · rw [if_pos hx]
        obtain ⟨h1, h2⟩ := ih (max a (nth d x.toNat))
        refine ⟨by omega, fun k hk ha hb => ?_⟩
        rcases List.mem_cons.1 hk with rfl | hk
        · omega
        · exact h2 k hk ha hb
      · rw [if_neg hx]
        obtain ⟨h1, h2⟩ := ih a
        refine ⟨h1, fun k hk ha hb => ?_⟩
        rcases List.mem_cons.1 hk with rfl | hk
        · exact absurd ⟨ha, hb⟩ hx
        · exact h2 k hk ha hb
  intro k hk h0 hl
  have := (key (deepS l l.length) top 0).2 k hk h0 (by rw [deepS_len]; exact hl)
  unfold depthS mostS at h
  omega
/-! ### the parser's steps -/
structure PGrow (l : List Form) (s s' : PSt) (ps : List Int) (next nx : Int) : Prop where
  opn : s'.opn = s.opn
  top : s'.top = if s.opn.length = 0 then s.top ++ ps else s.top
  len : (s'.l.length : Int) = nx
  new : ∀ k : Nat, next ≤ k → (k : Int) < nx → SameX (nth s'.l k) (nth l k)
  old : ∀ k : Nat, (k : Int) < next → SameX (nth s'.l k) { nth s.l k with kids := (nth s.l k).kids ++ if 0 < s.opn.length ∧ (k : Int) = last0 s.opn then ps else [] }
def LastIn (s : PSt) : Prop := s.opn.length = 0 ∨ (0 ≤ last0 s.opn ∧ last0 s.opn < s.l.length)
theorem nth_app {α : Type} [Inhabited α] {l : List α} {a : α} {k : Nat} (h : k < l.length) : nth (l ++ [a]) k = nth l k := by
  simp [nth, List.getD_eq_getElem?_getD, List.getElem?_append_left h]
theorem nth_app_last {α : Type} [Inhabited α] {l : List α} {a : α} : nth (l ++ [a]) l.length = a := by
  simp [nth, List.getD_eq_getElem?_getD]
theorem add1_grow (s : PSt) (f : Form) (h : LastIn s) :
    (add1 s f).opn = s.opn ∧ (add1 s f).top = (if s.opn.length = 0 then s.top ++ [(s.l.length : Int)] else s.top) ∧ (add1 s f).l.length = s.l.length + 1 ∧ SameX (nth (add1 s f).l s.l.length) f ∧
      ∀ k < s.l.length, SameX (nth (add1 s f).l k) { nth s.l k with kids := (nth s.l k).kids ++ if 0 < s.opn.length ∧ (k : Int) = last0 s.opn then [(s.l.length : Int)] else [] } := by
  unfold add1
  by_cases h0 : s.opn.length = 0
  · rw [if_pos h0]
    refine ⟨rfl, by rw [if_pos h0], by simp, ?_, fun k hk => ?_⟩
    · simp only [nth_app_last]; exact SameX.refl _
    · simp only [nth_app hk]
      rw [if_neg (by omega)]
      simp only [List.append_nil]
      exact SameX.refl _
  · rw [if_neg h0]
    have hl := h.resolve_left h0
    have hlt : (last0 s.opn).toNat < s.l.length := by omega
    refine ⟨rfl, by rw [if_neg h0], by simp, ?_, fun k hk => ?_⟩
    · simp only []
      rw [nth_set_ne2 (by omega), nth_app_last]; exact SameX.refl _
    · simp only []
      by_cases hk2 : (k : Int) = last0 s.opn
      · have e : k = (last0 s.opn).toNat := by omega
        rw [if_pos ⟨by omega, hk2⟩, ← e, nth_set_eq2 (by simp; omega), nth_app hk]
        exact SameX.refl _
      · rw [if_neg (fun c => hk2 c.2), nth_set_ne2 (by omega), nth_app hk]
        simp only [List.append_nil]
        exact SameX.refl _
theorem PGrow.more {l : List Form} {s s1 s2 : PSt} {n nx1 nx : Int} {r : List Int} (h : PGrow l s s1 [n] n nx1) (k : PGrow l s1 s2 r nx1 nx) (hl : s.opn.length = 0 ∨ last0 s.opn < n) (h1 : n ≤ nx1) : PGrow l s s2 (n :: r) n nx := by
  have ho := h.opn
  refine ⟨k.opn.trans ho, ?_, k.len, fun j hj hj2 => ?_, fun j hj => ?_⟩
  · rw [k.top, ho, h.top]
    split <;> simp
  · by_cases hc : (j : Int) < nx1
    · have q := k.old j hc
      rw [ho, if_neg (by omega)] at q
      simp only [List.append_nil] at q
      exact q.trans (h.new j hj hc)
    · exact k.new j (by omega) hj2
  · have q := k.old j (by omega)
    have q1 := h.old j hj
    rw [ho] at q
    obtain ⟨a1, a2, a3, a4⟩ := q
    obtain ⟨b1, b2, b3, b4⟩ := q1
    simp only at a1 a2 a3 a4 b1 b2 b3 b4
    refine ⟨a1.trans b1, a2.trans b2, a3.trans b3, ?_⟩
    rw [a4, b4]
    simp only []
    split <;> simp
theorem empty_of {b : ByteArray} (h : b.toList.isEmpty = true) : b = ⟨#[]⟩ := by
  rw [ByteArray.toList_eq] at h
  have h2 : b.data.toList = [] := by simpa using h
  cases b with
  | mk d => rw [show d = #[] from by simpa using h2]
theorem alone_leaf {f : Form} (h : aloneS f = true) (h1 : f.kind ≠ 1) : f.kids = [] ∧ (f.kind = 3 ∧ f.num = 0 ∨ f.kind = 4 ∧ f.text = ⟨#[]⟩) := by
  unfold aloneS at h
  split at h
  · rename_i h2; exact absurd (by simpa using h2) h1
  · split at h
    · rename_i h3
      simp only [Bool.and_eq_true, beq_iff_eq] at h h3
      exact ⟨List.eq_nil_of_length_eq_zero (by omega), .inl ⟨h3, h.1.1⟩⟩
    · split at h
      · rename_i h4
        simp only [Bool.and_eq_true, beq_iff_eq] at h h4
        exact ⟨List.eq_nil_of_length_eq_zero (by omega), .inr ⟨h4, empty_of h.1⟩⟩
      · cases h
theorem alone_brk {f : Form} (h : aloneS f = true) (h1 : f.kind = 1) : f.num = 0 ∧ f.text = ⟨#[]⟩ := by
  unfold aloneS at h
  rw [if_pos (by simp [h1])] at h
  simp only [Bool.and_eq_true, beq_iff_eq] at h
  exact ⟨h.2, empty_of h.1⟩
theorem walk_nil {l : List Form} {g : Nat} {n nx : Int} (h : walkS l g [] n = (nx, true)) : nx = n := by
  cases g with
  | zero => simp [walkS] at h
  | succ g => simp only [walkS, Prod.mk.injEq, and_true] at h; exact h.symm
theorem last0_snoc (o : List Int) (x : Int) : last0 (o ++ [x]) = x := by
  unfold last0
  have : (o ++ [x]).length - 1 = o.length := by simp
  rw [this, nth_app_last]
theorem parse_walk {l : List Form} (hwf : WF l) (ha : ∀ f ∈ l, aloneS f = true) (h400 : l.length ≤ 400) : ∀ (g : Nat) (ps : List Int) (next nx : Int), 0 ≤ next → walkS l g ps next = (nx, true) →
    ∀ (f : Nat) (s : PSt) (ts : List Token), (∀ p ∈ ps, Kin l f p) → (s.l.length : Int) = next → LastIn s → (∀ p ∈ ps, (s.opn.length : Int) + nth (deepS l l.length) p.toNat ≤ 12) → AllFit (ps.flatMap (itemsS l f)) ts →
    ∃ s', (∀ rest, parseLoop s (ts ++ rest) = parseLoop s' rest) ∧ PGrow l s s' ps next nx
  | 0, ps, next, nx, _, h => by simp [walkS] at h
  | g + 1, [], next, nx, _, h => by
    intro f s ts _ hlen _ _ hfit
    have := walk_nil h
    subst this
    cases hfit
    refine ⟨s, fun rest => rfl, rfl, by simp, hlen, fun k h1 h2 => by omega, fun k hk => ?_⟩
    simp only [ite_self, List.append_nil]
    exact SameX.refl _
  | g + 1, n :: r, next, nx, h0, h => by
    intro f s ts hkin hlen hlast hdeep hfit
    simp only [walkS] at h
    split at h
    · cases h
    · rename_i hn
      split at h
      · rename_i nx1 he
        have hnn : n = next := by omega
        subst hnn
        obtain ⟨k, rfl, hk, hf⟩ := hkin n (by simp)
        simp only [Int.toNat_natCast] at he
        have hg1 := walkS_ge l g (nth l k).kids ((k : Int) + 1)
        rw [he] at hg1
        simp only at hg1
        obtain ⟨f', rfl⟩ : ∃ f', f = f' + 1 := ⟨f - 1, by omega⟩
        rw [List.flatMap_cons] at hfit
        obtain ⟨a, b, rfl, hfa, hfb⟩ := hfit.cut
        have hlk : s.l.length = k := by omega
        have hal := ha _ (nth_mem hk)
        have hd0 := hdeep (k : Int) (by simp)
        simp only [Int.toNat_natCast] at hd0
        have first : ∃ s1, (∀ rest, parseLoop s (a ++ rest) = parseLoop s1 rest) ∧ PGrow l s s1 [(k : Int)] (k : Int) nx1 := by
          by_cases h1 : (nth l k).kind = 1
          · have hb := alone_brk hal h1
            have hit : itemsS l (f' + 1) (k : Int) = ⟨1, ⟨#[]⟩, 0⟩ :: ((nth l k).kids.flatMap (itemsS l f') ++ [⟨2, ⟨#[]⟩, 0⟩]) := by
              conv => lhs; unfold itemsS
              rw [fm_nat, if_neg (by omega), if_neg (by omega)]
            rw [hit] at hfa
            obtain ⟨t, ar, rfl, ht, hfa⟩ := hfa.head
            obtain ⟨m, z, rfl, hm, hz⟩ := hfa.cut
            obtain ⟨u, rfl, hu⟩ := hz.one
            have hdk := deep_kid hwf hk h1 (by omega)
            obtain ⟨q1, q2, q3, q4, q5⟩ := add1_grow s (formOf t) hlast
            have hfk : (formOf t).kind = 1 := ht.1
            have t1 : takeP s t = .inl { add1 s (formOf t) with opn := s.opn ++ [(s.l.length : Int)] } := by
              unfold takeP
              have := ht.1
              simp only at this
              rw [if_neg (by omega), if_neg (by omega), if_pos (by omega), if_pos (by omega)]
              unfold addP
              rw [if_pos hfk]
            obtain ⟨s2, hp2, g2⟩ := parse_walk hwf ha h400 g _ _ _ (by omega) he f' { add1 s (formOf t) with opn := s.opn ++ [(s.l.length : Int)] } m
              (by have := kin_tail hwf (f := f') (n := (k : Int)) ⟨k, rfl, hk, hf⟩; rw [fm_nat] at this; exact this)
              (by show ((add1 s (formOf t)).l.length : Int) = _; rw [q3]; omega)
              (by right; show 0 ≤ last0 (s.opn ++ [(s.l.length : Int)]) ∧ last0 (s.opn ++ [(s.l.length : Int)]) < ((add1 s (formOf t)).l.length : Int); rw [last0_snoc, q3]; omega)
              (by intro p hp; show ((s.opn ++ [(s.l.length : Int)]).length : Int) + _ ≤ 12; have := hdk.2 p hp; simp; omega)
              hm
            have o2 : s2.opn = s.opn ++ [(s.l.length : Int)] := g2.opn
            refine ⟨{ s2 with opn := s2.opn.dropLast }, fun rest => ?_, ?_⟩
            · have t2 : takeP s2 u = .inl { s2 with opn := s2.opn.dropLast } := by
                unfold takeP
                rw [if_pos hu.1, if_pos (by rw [o2]; simp)]
              show parseLoop s (t :: ((m ++ [u]) ++ rest)) = _
              simp only [parseLoop, t1, List.append_assoc]
              rw [hp2]
              simp only [List.cons_append, List.nil_append, parseLoop, t2]
            · refine ⟨?_, ?_, g2.len, fun j hj hj2 => ?_, fun j hj => ?_⟩
              · show s2.opn.dropLast = s.opn
                rw [o2]; simp
              · show s2.top = _
                rw [g2.top, if_neg (by simp)]
                show (add1 s (formOf t)).top = _
                rw [q2, hlk]
              · show SameX (nth s2.l j) _
                by_cases hjk : j = k
                · subst hjk
                  have w := g2.old j (by omega)
                  rw [if_pos ⟨by simp, by show (j : Int) = last0 (s.opn ++ [(s.l.length : Int)]); rw [last0_snoc]; omega⟩] at w
                  rw [hlk] at q4
                  obtain ⟨a1, a2, a3, a4⟩ := w
                  obtain ⟨b1, b2, b3, b4⟩ := q4
                  simp only at a1 a2 a3 a4
                  refine ⟨a1.trans (b1.trans (hfk.trans h1.symm)), a2.trans (b2.trans ?_), a3.trans (b3.trans ?_), ?_⟩
                  · rw [hb.2]; unfold formOf; have := ht.1; simp only at this; simp [this]
                  · rw [hb.1]; unfold formOf; have := ht.1; simp only at this; simp [this]
                  · rw [a4, b4]; unfold formOf; simp
                · exact g2.new j (by omega) hj2
              · show SameX (nth s2.l j) _
                have w := g2.old j (by omega)
                rw [if_neg (by rintro ⟨_, c⟩; revert c; show (j : Int) ≠ last0 (s.opn ++ [(s.l.length : Int)]); rw [last0_snoc]; omega)] at w
                simp only [List.append_nil] at w
                have w2 := q5 j (by omega)
                rw [hlk] at w2
                exact w.trans w2
          · obtain ⟨hks, hkd⟩ := alone_leaf hal h1
            rw [hks] at he
            have hx1 := walk_nil he
            obtain ⟨q1, q2, q3, q4, q5⟩ : _ := add1_grow s (formOf (nth a 0)) hlast
            have both : a = [nth a 0] ∧ ((nth a 0).kind = 3 ∨ (nth a 0).kind = 4) ∧ SameX (formOf (nth a 0)) (nth l k) := by
              rcases hkd with ⟨h3, hnum⟩ | ⟨h4, htx⟩
              · have hit : itemsS l (f' + 1) (k : Int) = [⟨3, (nth l k).text, 0⟩] := by
                  conv => lhs; unfold itemsS
                  rw [fm_nat, if_neg (by omega), if_pos h3]
                rw [hit] at hfa
                obtain ⟨t, rfl, ht⟩ := hfa.one
                have tk : t.kind = 3 := ht.1
                have tt : t.text = (nth l k).text := ht.2.1 rfl
                refine ⟨rfl, .inl tk, ?_⟩
                show SameX (formOf t) _
                unfold formOf
                refine ⟨by simp [tk, h3], by simp [tk, tt], by simp [tk, hnum], by simp [hks]⟩
              · have hit : itemsS l (f' + 1) (k : Int) = [⟨4, ⟨#[]⟩, (nth l k).num⟩] := by
                  conv => lhs; unfold itemsS
                  rw [fm_nat, if_pos h4]
                rw [hit] at hfa
                obtain ⟨t, rfl, ht⟩ := hfa.one
                have tk : t.kind = 4 := ht.1
                have tt : t.num = (nth l k).num := ht.2.2 rfl
                refine ⟨rfl, .inr tk, ?_⟩
                show SameX (formOf t) _
                unfold formOf
                refine ⟨by simp [tk, h4], by simp [tk, htx], by simp [tk, tt], by simp [hks]⟩
            obtain ⟨ea, hk34, hsx⟩ := both
            refine ⟨add1 s (formOf (nth a 0)), fun rest => ?_, q1, by rw [q2, hlk], by rw [q3]; omega, fun j hj hj2 => ?_, fun j hj => ?_⟩
            · have t1 : takeP s (nth a 0) = .inl (add1 s (formOf (nth a 0))) := by
                unfold takeP
                rw [if_neg (by omega), if_neg (by omega), if_pos (by omega), if_pos (by omega)]
                unfold addP
                rw [if_neg (by show ¬ (nth a 0).kind = 1; omega)]
              rw [ea]
              show parseLoop s (nth a 0 :: rest) = parseLoop (add1 s (formOf (nth a 0))) rest
              simp only [parseLoop, t1]
            · have : j = k := by omega
              subst this
              rw [hlk] at q4
              exact q4.trans hsx
            · have w2 := q5 j (by omega)
              rw [hlk] at w2
              exact w2
        obtain ⟨s1, hp1, g1⟩ := first
        have hle : (k : Int) ≤ nx1 := by omega
        obtain ⟨s2, hp2, g2⟩ := parse_walk hwf ha h400 g r nx1 nx (by omega) h (f' + 1) s1 b (fun p hp => hkin p (by simp [hp])) g1.len
          (by unfold LastIn; rw [g1.opn]; rcases hlast with hl | hl
              · exact .inl hl
              · right; have := g1.len; omega)
          (by intro p hp; rw [g1.opn]; exact hdeep p (by simp [hp])) hfb
        refine ⟨s2, fun rest => ?_, g1.more g2 (by rcases hlast with hl | hl; exact .inl hl; right; omega) hle⟩
        rw [List.append_assoc, hp1, hp2]
      · cases h
/-! ### back -/
/-- a printed text parsed again gives the same forms, but for where they stood -/
theorem source_print {l : List Form} {top : List Int} (hs : ShowOk l) (hr : rightS l top = true) :
    ((sourceS ⟨(printS l top).toArray⟩).2.2 = 4 ∧ (3000 < (printS l top).length ∨ 600 < (printI l top).length)) ∨ ∃ l', SameF l l' ∧ sourceS ⟨(printS l top).toArray⟩ = readS l' top := by
  have hf := right_facts hr
  have hal := hf.alone
  have hr2 := hr
  unfold rightS walkedS at hr2
  simp only [Bool.and_eq_true, decide_eq_true_eq, List.all_eq_true] at hr2
  obtain ⟨_, ⟨hb, hx⟩, hd⟩ := hr2
  have he : walkS l (l.length + 1) top 0 = ((l.length : Int), true) := by rw [← hx, ← hb]
  have hwk := walk_facts l (l.length + 1) top 0 (l.length : Int) (Int.le_refl _) he
  have hwd : ∀ n, n < l.length → (nth l n).kind = 3 → wordKind (nth l n).text = 3 := by
    intro n hn h3
    have := hal _ (nth_mem hn)
    unfold aloneS at this
    rw [if_neg (by simp [h3]), if_pos (by simp [h3])] at this
    simp only [Bool.and_eq_true, beq_iff_eq] at this
    exact this.2
  have hss : (⟨(printS l top).toArray⟩ : ByteArray).size = (printS l top).length := by show (printS l top).toArray.size = _; simp
  by_cases hbig : 3000 < (printS l top).length
  · left
    refine ⟨?_, .inl hbig⟩
    have ht : tokensS ⟨(printS l top).toArray⟩ = ([], 0, 4) := by unfold tokensS; rw [hss, if_pos hbig]
    unfold sourceS
    rw [ht]; rfl
  · rcases tokens_print hs hwd hf.topIn (by omega) with ⟨ts, h1, h2⟩ | ⟨h1, h2⟩
    · right
      obtain ⟨s', hp, hg⟩ := parse_walk hf.wf hal hf.len (l.length + 1) top 0 (l.length : Int) (Int.le_refl _) he (l.length + 1) ⟨[], [], []⟩ ts hf.topIn rfl (.inl rfl)
        (fun p hp => by
          obtain ⟨kn, rfl, hk, _⟩ := hf.topIn p hp
          have := top_deep hd (kn : Int) hp (by omega) (by omega)
          show ((0 : Nat) : Int) + _ ≤ 12
          omega) h1
      have hp0 := hp []
      simp only [List.append_nil] at hp0
      have hlen := hg.len
      have hz : SameF l s'.l := by
        have key : ∀ k : Nat, SameX (nth s'.l k) (nth l k) := by
          intro k
          by_cases hk : k < l.length
          · exact hg.new k (by omega) (by omega)
          · rw [nth_out (by omega), nth_out (by omega)]; exact SameX.refl _
        exact ⟨by omega, fun n => (key n.toNat).1, fun n => (key n.toNat).2.1, fun n => (key n.toNat).2.2.1, fun n => (key n.toNat).2.2.2⟩
      refine ⟨s'.l, hz, ?_⟩
      have ht : s'.top = top := by have := hg.top; simpa using this
      have ho : s'.opn = [] := by have := hg.opn; simpa using this
      have hps : parseS ts = (s'.l, top, 0, 0) := by
        unfold parseS
        rw [hp0]
        simp only [parseLoop]
        rw [ho, ht]
        rfl
      unfold sourceS
      rw [h2]
      simp only [hps]
      rfl
    · left
      refine ⟨?_, .inr h2⟩
      unfold sourceS
      rw [h1]
      rfl
theorem right_walk {l : List Form} {top : List Int} (hr : rightS l top = true) : walkS l (l.length + 1) top 0 = ((l.length : Int), true) := by
  unfold rightS walkedS at hr
  simp only [Bool.and_eq_true, decide_eq_true_eq, List.all_eq_true] at hr
  obtain ⟨_, ⟨hb, hx⟩, hd⟩ := hr
  rw [← hx, ← hb]
end Go.Proofs.Ytgaginegcjpddaa
