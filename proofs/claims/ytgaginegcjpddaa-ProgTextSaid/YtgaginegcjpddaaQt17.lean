/- What is written of a program: texts that are its names or fixed words, numbers that are its numbers. -/
import Derived.Test.YtgaginegcjpddaaQt16
set_option linter.unusedVariables false
set_option linter.unusedSimpArgs false
namespace Go.Proofs.Ytgaginegcjpddaa
def SzOk (s : ByteArray) : Prop := s.size ≤ 9223372036854775807
def FOk (f : Form) : Prop := SzOk f.text ∧ InW f.num
def AllOk (s : WSt) : Prop := ∀ f ∈ s.1, FOk f
theorem szOk_small {s : ByteArray} (h : s.size ≤ 100) : SzOk s := by unfold SzOk; omega
theorem inW_zero : InW 0 := by unfold InW; omega
theorem fOk_default : FOk (default : Form) := ⟨szOk_small (Nat.zero_le _), inW_zero⟩
theorem formS_ok {br : Int} {f : Form} {s : WSt} {r : Int × WSt} (h : formS br f s = some r) (hf : FOk f) (hs : AllOk s) : AllOk r.2 := by
  have h1 : ∀ g ∈ s.1 ++ [f], FOk g := fun g hg => by
    rcases List.mem_append.1 hg with hg | hg
    · exact hs g hg
    · simp only [List.mem_singleton] at hg; subst hg; exact hf
  unfold formS at h
  split at h
  · cases h
  · split at h
    · cases h; exact h1
    · cases h
      intro g hg
      rcases List.mem_or_eq_of_mem_set hg with hg | hg
      · exact h1 g hg
      · subst hg
        show FOk { nth (s.1 ++ [f]) br.toNat with kids := _ }
        have : FOk (nth (s.1 ++ [f]) br.toNat) := by
          by_cases hlt : br.toNat < (s.1 ++ [f]).length
          · exact h1 _ (nth_mem hlt)
          · rw [nth_out (by omega)]; exact fOk_default
        exact this
theorem wordS_ok {br : Int} {t : ByteArray} {s r : WSt} (h : wordS br t s = some r) (ht : SzOk t) (hs : AllOk s) : AllOk r := by
  unfold wordS at h
  cases hr : formS br (wordF t) s with
  | none => rw [hr] at h; cases h
  | some q =>
    rw [hr] at h
    simp only [Option.map_some, Option.some.injEq] at h
    subst h
    exact formS_ok hr ⟨ht, inW_zero⟩ hs
theorem wordsS_ok {n : Int} : ∀ {ws : List ByteArray} {s r : WSt}, wordsS n ws s = some r → (∀ t ∈ ws, SzOk t) → AllOk s → AllOk r
  | [], s, r, h, _, hs => by simp only [wordsS, Option.some.injEq] at h; subst h; exact hs
  | t :: ws, s, r, h, hw, hs => by
    simp only [wordsS] at h
    split at h
    · cases h
    · rename_i s1 h1
      exact wordsS_ok h (fun t ht => hw t (by simp [ht])) (wordS_ok h1 (hw t (by simp)) hs)
theorem openS_ok {br : Int} {ws : List ByteArray} {s : WSt} {r : Int × WSt} (h : openS br ws s = some r) (hw : ∀ t ∈ ws, SzOk t) (hs : AllOk s) : AllOk r.2 := by
  unfold openS at h
  split at h
  · cases h
  · rename_i n s1 h1
    have h2 := formS_ok h1 ⟨szOk_small (Nat.zero_le _), inW_zero⟩ hs
    cases h3 : wordsS n ws s1 with
    | none => rw [h3] at h; cases h
    | some s2 =>
      rw [h3] at h
      simp only [Option.map_some, Option.some.injEq] at h
      subst h
      exact wordsS_ok h3 hw h2
theorem sndS_ok {br : Int} {ws : List ByteArray} {s r : WSt} (h : sndS (openS br ws s) = some r) (hw : ∀ t ∈ ws, SzOk t) (hs : AllOk s) : AllOk r := by
  cases hr : openS br ws s with
  | none => rw [hr] at h; cases h
  | some q =>
    rw [hr] at h
    simp only [sndS, Option.map_some, Option.some.injEq] at h
    subst h
    exact openS_ok hr hw hs
theorem kidsWS_ok {g : Int → WSt → Option WSt} (hg : ∀ k s r, g k s = some r → AllOk s → AllOk r) : ∀ {ks : List Int} {s r : WSt}, kidsWS g ks s = some r → AllOk s → AllOk r
  | [], s, r, h, hs => by simp only [kidsWS, Option.some.injEq] at h; subst h; exact hs
  | k :: ks, s, r, h, hs => by
    simp only [kidsWS] at h
    split at h
    · cases h
    · rename_i s1 h1
      exact kidsWS_ok hg h (hg _ _ _ h1 hs)
theorem opWord_ok (o : Int) : SzOk (opWordS o) := by
  apply szOk_small
  unfold opWordS
  split
  · exact Nat.zero_le _
  · have : ∀ n, (nth opWords n).size ≤ 100 := by
      intro n
      by_cases hn : n < opWords.length
      · have : ∀ w ∈ opWords, w.size ≤ 100 := by decide
        exact this _ (nth_mem hn)
      · rw [nth_out (by omega)]; exact Nat.zero_le _
    exact this _
theorem side_ok (b : Bool) : SzOk (sideS b) := szOk_small (by cases b <;> decide)
/-- names and numbers that may stand in a program -/
structure NumsOk (p : Prg) : Prop where
  decls : ∀ d ∈ p.decls, SzOk d.name
  exprs : ∀ x ∈ p.exprs, 0 ≤ x.op ∧ SzOk x.name ∧ InW x.num
  stmts : ∀ x ∈ p.stmts, 0 ≤ x.op ∧ SzOk x.name ∧ ∀ a ∈ x.acts, 0 ≤ a.op ∧ SzOk a.name
theorem literalS_ok {br : Int} {x : Expr} {s r : WSt} (h : literalS br x s = some r) (hx : InW x.num) (hs : AllOk s) : AllOk r := by
  unfold literalS at h
  split at h
  · cases hr : formS br (numF x.num) s with
    | none => rw [hr] at h; cases h
    | some q =>
      rw [hr] at h
      simp only [Option.map_some, Option.some.injEq] at h
      subst h
      exact formS_ok hr ⟨szOk_small (Nat.zero_le _), hx⟩ hs
  · split at h
    · exact wordS_ok h (szOk_small (by decide)) hs
    · exact wordS_ok h (szOk_small (by decide)) hs
theorem fixed_ok : SzOk wOwn ∧ SzOk wFar ∧ SzOk wVia ∧ SzOk wId ∧ SzOk wFarid ∧ SzOk wCount ∧ SzOk wDeg ∧ SzOk wPut ∧ SzOk wPush ∧ SzOk wPull ∧ SzOk wSet ∧ SzOk wFold ∧ SzOk wEach ∧ SzOk wIf ∧ SzOk wWhile ∧ SzOk wLoop ∧ SzOk wBfs := by
  refine ⟨?_, ?_, ?_, ?_, ?_, ?_, ?_, ?_, ?_, ?_, ?_, ?_, ?_, ?_, ?_, ?_, ?_⟩ <;> exact szOk_small (by decide)
theorem exprKW_ok {x : Expr} {br : Int} {g : Int → Int → WSt → Option WSt} (hg : ∀ b k s r, g b k s = some r → AllOk s → AllOk r) {s r : WSt} (h : exprKW x br g s = some r) (hn : SzOk x.name) (hx : InW x.num) (hs : AllOk s) : AllOk r := by
  obtain ⟨f1, f2, f3, f4, f5, f6, f7, _⟩ := fixed_ok
  have hside := side_ok (x.num == 1)
  unfold exprKW at h
  repeat' split at h
  · exact literalS_ok h hx hs
  · exact wordS_ok h hn hs
  · exact sndS_ok h (by simp_all) hs
  · exact sndS_ok h (by simp_all) hs
  · exact sndS_ok h (by simp_all) hs
  · exact sndS_ok h (by simp_all) hs
  · exact sndS_ok h (by simp_all) hs
  · exact sndS_ok h (by simp_all) hs
  · exact sndS_ok h (by simp_all) hs
  · cases h
  · rename_i b s1 h1
    exact kidsWS_ok (fun k s r => hg b k s r) h (openS_ok h1 (by intro t ht; simp only [List.mem_singleton] at ht; subst ht; exact opWord_ok _) hs)
  · cases h
theorem exprWS_ok {es : List Expr} (he : ∀ x ∈ es, SzOk x.name ∧ InW x.num) : ∀ (f : Nat) (br e lim : Int) (s r : WSt), exprWS es f br e lim s = some r → AllOk s → AllOk r
  | 0, _, _, _, _, _, h, _ => by simp [exprWS] at h
  | f + 1, br, e, lim, s, r, h, hs => by
    unfold exprWS at h
    split at h
    · rename_i hb
      have hlt : e.toNat < es.length := by
        obtain ⟨h0, h1⟩ := hb
        unfold minI at h1
        split at h1 <;> omega
      have hx := he _ (nth_mem hlt)
      exact exprKW_ok (fun b k s r h hs => exprWS_ok he f _ _ _ _ _ h hs) h hx.1 hx.2 hs
    · cases h
theorem partsWS_ok {es : List Expr} (he : ∀ x ∈ es, SzOk x.name ∧ InW x.num) {br e cond : Int} {s r : WSt} (h : partsWS es br e cond s = some r) (hs : AllOk s) : AllOk r := by
  unfold partsWS at h
  split at h
  · cases h
  · rename_i s1 h1
    have h2 := exprWS_ok he _ _ _ _ _ _ h1 hs
    split at h
    · simp only [Option.some.injEq] at h; subst h; exact h2
    · exact exprWS_ok he _ _ _ _ _ _ h h2
theorem actWS_ok {es : List Expr} (he : ∀ x ∈ es, SzOk x.name ∧ InW x.num) {br : Int} {a : PAct} {s r : WSt} (h : actWS es br a s = some r) (ha : SzOk a.name) (hs : AllOk s) : AllOk r := by
  obtain ⟨_, _, _, _, _, _, _, f8, f9, f10, _⟩ := fixed_ok
  have hside := side_ok a.inn
  have hop := opWord_ok a.op
  unfold actWS at h
  split at h
  · cases h
  · rename_i b s1 h1
    refine partsWS_ok he h ?_
    unfold actOpen at h1
    repeat' split at h1
    · exact openS_ok (r := (b, s1)) h1 (by simp_all) hs
    · exact openS_ok (r := (b, s1)) h1 (by simp_all) hs
    · exact openS_ok (r := (b, s1)) h1 (by simp_all) hs
    · cases h1
theorem actsWS_ok {es : List Expr} (he : ∀ x ∈ es, SzOk x.name ∧ InW x.num) {b : Int} : ∀ {al : List PAct} {s r : WSt}, actsWS es b al s = some r → (∀ a ∈ al, SzOk a.name) → AllOk s → AllOk r
  | [], s, r, h, _, hs => by simp only [actsWS, Option.some.injEq] at h; subst h; exact hs
  | a :: al, s, r, h, ha, hs => by
    simp only [actsWS] at h
    split at h
    · cases h
    · rename_i s1 h1
      exact actsWS_ok he h (fun a h => ha a (by simp [h])) (actWS_ok he h1 (ha a (by simp)) hs)
theorem andB_some {r : Option (Int × WSt)} {k : Int → WSt → Option WSt} {t : WSt} (h : andB r k = some t) : ∃ b s, r = some (b, s) ∧ k b s = some t := by
  unfold andB at h
  split at h
  · cases h
  · exact ⟨_, _, rfl, h⟩
theorem andS_some {r : Option WSt} {k : WSt → Option WSt} {t : WSt} (h : andS r k = some t) : ∃ s, r = some s ∧ k s = some t := by
  unfold andS at h
  split at h
  · cases h
  · exact ⟨_, rfl, h⟩
theorem subWS_ok {g : Int → WSt → Option WSt} {lim : Int} (hg : ∀ k s r, 0 ≤ k → k < lim → g k s = some r → AllOk s → AllOk r) {ks : List Int} {s r : WSt} (h : subWS g lim ks s = some r) (hs : AllOk s) : AllOk r :=
  kidsWS_ok (fun k s r h hs => by
    split at h
    · rename_i hk; exact hg k s r hk.1 hk.2 h hs
    · cases h) h hs
theorem bodyWS_ok {es : List Expr} (he : ∀ x ∈ es, SzOk x.name ∧ InW x.num) {b e : Int} {g : Int → WSt → Option WSt} {lim : Int} (hg : ∀ k s r, 0 ≤ k → k < lim → g k s = some r → AllOk s → AllOk r) {ks : List Int} {s r : WSt} (h : bodyWS es b e g lim ks s = some r) (hs : AllOk s) : AllOk r := by
  unfold bodyWS at h
  split at h
  · cases h
  · rename_i s1 h1
    exact subWS_ok hg h (exprWS_ok he _ _ _ _ _ _ h1 hs)
theorem stmtKW_ok {es : List Expr} (he : ∀ x ∈ es, SzOk x.name ∧ InW x.num) {x : PStmt} (hx : SzOk x.name ∧ ∀ a ∈ x.acts, SzOk a.name) {br lim : Int} {g : Int → Int → WSt → Option WSt} (hg : ∀ b k s r, 0 ≤ k → k < lim → g b k s = some r → AllOk s → AllOk r) {s r : WSt} (h : stmtKW es x br lim g s = some r) (hs : AllOk s) : AllOk r := by
  obtain ⟨_, _, _, _, _, _, _, _, _, _, g1, g2, g3, g4, g5, g6, g7⟩ := fixed_ok
  have hop := opWord_ok x.op
  have hxn := hx.1
  unfold stmtKW at h
  repeat' split at h
  · obtain ⟨b, s1, h1, h2⟩ := andB_some h
    exact exprWS_ok he _ _ _ _ _ _ h2 (openS_ok (r := (b, s1)) h1 (by simp_all) hs)
  · obtain ⟨b, s1, h1, h2⟩ := andB_some h
    exact partsWS_ok he h2 (openS_ok (r := (b, s1)) h1 (by simp_all) hs)
  · obtain ⟨b, s1, h1, h2⟩ := andB_some h
    exact actsWS_ok he h2 hx.2 (openS_ok (r := (b, s1)) h1 (by simp_all) hs)
  · obtain ⟨b, s1, h1, h2⟩ := andB_some h
    obtain ⟨s2, h3, h4⟩ := andS_some h2
    obtain ⟨b1, s3, h5, h6⟩ := andB_some h4
    obtain ⟨s4, h7, h8⟩ := andS_some h6
    obtain ⟨b2, s5, h9, h10⟩ := andB_some h8
    have q1 := openS_ok (r := (b, s1)) h1 (by simp_all) hs
    have q2 := exprWS_ok he _ _ _ _ _ _ h3 q1
    have q3 := openS_ok (r := (b1, s3)) h5 (by simp) q2
    have q4 := subWS_ok (hg b1) h7 q3
    have q5 := openS_ok (r := (b2, s5)) h9 (by simp) q4
    exact subWS_ok (hg b2) h10 q5
  · obtain ⟨b, s1, h1, h2⟩ := andB_some h
    exact bodyWS_ok he (hg b) h2 (openS_ok (r := (b, s1)) h1 (by simp_all) hs)
  · obtain ⟨b, s1, h1, h2⟩ := andB_some h
    exact bodyWS_ok he (hg b) h2 (openS_ok (r := (b, s1)) h1 (by simp_all) hs)
  · obtain ⟨b, s1, h1, h2⟩ := andB_some h
    exact bodyWS_ok he (hg b) h2 (openS_ok (r := (b, s1)) h1 (by simp_all) hs)
  · cases h
theorem stmtWS_ok {es : List Expr} {ss : List PStmt} (he : ∀ x ∈ es, SzOk x.name ∧ InW x.num) (hss : ∀ x ∈ ss, SzOk x.name ∧ ∀ a ∈ x.acts, SzOk a.name) : ∀ (f : Nat) (br n : Int) (s r : WSt), 0 ≤ n → n < ss.length → stmtWS es ss f br n s = some r → AllOk s → AllOk r
  | 0, _, _, _, _, _, _, h, _ => by simp [stmtWS] at h
  | f + 1, br, n, s, r, h0, hl, h, hs => by
    unfold stmtWS at h
    exact stmtKW_ok he (hss _ (nth_mem (by omega))) (fun b k s r hk0 hk h hs => stmtWS_ok he hss f b k s r hk0 (by omega) h hs) h hs
theorem declsWS_ok : ∀ {ds : List PDecl} {s r : WSt}, declsWS ds s = some r → (∀ d ∈ ds, SzOk d.name) → AllOk s → AllOk r
  | [], s, r, h, _, hs => by simp only [declsWS, Option.some.injEq] at h; subst h; exact hs
  | d :: ds, s, r, h, hd, hs => by
    simp only [declsWS] at h
    split at h
    · cases h
    · rename_i s1 h1
      refine declsWS_ok h (fun d h => hd d (by simp [h])) ?_
      unfold declareS at h1
      split at h1
      · cases h1
      · rename_i wd hw
        have : SzOk wd := by
          unfold declWord at hw
          obtain ⟨q, hq, rfl⟩ := Option.map_eq_some_iff.1 hw
          have hm := List.mem_of_find?_eq_some hq
          have key : ∀ q ∈ declL, q.1.size ≤ 100 := by decide
          exact szOk_small (key q hm)
        exact sndS_ok h1 (by intro t ht; simp only [List.mem_cons, List.not_mem_nil, or_false] at ht; rcases ht with rfl | rfl; exact this; exact hd d (by simp)) hs
theorem writtenS_ok {p : Prg} (hp : NumsOk p) {s : WSt} (h : writtenS p = some s) : AllOk s := by
  unfold writtenS at h
  split at h
  · cases h
  · rename_i s1 h1
    have q1 : AllOk s1 := declsWS_ok h1 hp.decls (by intro f hf; simp at hf)
    exact subWS_ok (fun k s r h0 hl h hs => stmtWS_ok (fun x hx => (hp.exprs x hx).2) (fun x hx => ⟨(hp.stmts x hx).2.1, fun a ha => ((hp.stmts x hx).2.2 a ha).2⟩) _ _ _ _ _ h0 hl h hs) h q1
theorem wOk_of {p : Prg} (hp : NumsOk p) : WOk2 p :=
  { ops := ⟨fun x hx => (hp.exprs x hx).1, fun x hx => ⟨(hp.stmts x hx).1, fun a ha => ((hp.stmts x hx).2.2 a ha).1⟩⟩
    texts := fun s hs f hf => (writtenS_ok hp hs f hf).1
    nums := fun s hs f hf => (writtenS_ok hp hs f hf).2 }
end Go.Proofs.Ytgaginegcjpddaa
/- Forms put one behind the other: what the writer does with what was read. -/
namespace Go.Proofs.Ytgaginegcjpddaa
/-- a form without what is in it -/
def bare (f : Form) : Form := { f with kids := [], pos := 0 }
/-- a form more, in a bracket (below 0: in none) -/
def put1 (br : Int) (f : Form) (s : WSt) : WSt :=
  if br < 0 then (s.1 ++ [f], s.2 ++ [(s.1.length : Int)])
  else ((s.1 ++ [f]).set br.toNat { nth (s.1 ++ [f]) br.toNat with kids := (nth (s.1 ++ [f]) br.toNat).kids ++ [(s.1.length : Int)] }, s.2)
theorem formS_put (br : Int) (f : Form) (s : WSt) (h : s.1.length < 400) : formS br f s = some ((s.1.length : Int), put1 br f s) := by
  unfold formS put1
  rw [if_neg (by omega)]
  split <;> rfl
theorem put1_len (br : Int) (f : Form) (s : WSt) : (put1 br f s).1.length = s.1.length + 1 := by
  unfold put1; split <;> simp
/-- a form, with all that is in it -/
def putS (l : List Form) : Nat → Int → Int → WSt → WSt
  | 0, _, _, s => s
  | f + 1, br, n, s => (fm l n).kids.foldl (fun t k => putS l f (s.1.length : Int) k t) (put1 br (bare (fm l n)) s)
def InL (l : List Form) (n : Int) : Prop := ∃ k : Nat, n = (k : Int) ∧ k < l.length
theorem InL.kin {l : List Form} {n : Int} (h : InL l n) : Kin l (l.length + 1) n := by
  obtain ⟨k, rfl, hk⟩ := h
  exact ⟨k, rfl, hk, by omega⟩
theorem Kin.inL {l : List Form} {f : Nat} {n : Int} (h : Kin l f n) : InL l n := by
  obtain ⟨k, rfl, hk, _⟩ := h
  exact ⟨k, rfl, hk⟩
theorem InL.kid {l : List Form} (hwf : WF l) {n : Int} (h : InL l n) : ∀ k ∈ (fm l n).kids, InL l k := fun k hk => by
  obtain ⟨j, rfl, hj⟩ := h
  rw [fm_nat] at hk
  have := hwf j hj k hk
  exact ⟨k.toNat, by omega, by omega⟩
theorem foldl_congr2 {α σ : Type} {g h : σ → α → σ} : ∀ (ks : List α) (s : σ), (∀ k ∈ ks, ∀ t, g t k = h t k) → ks.foldl g s = ks.foldl h s
  | [], s, _ => rfl
  | k :: r, s, hk => by
    simp only [List.foldl_cons]
    rw [hk k (by simp)]
    exact foldl_congr2 r _ fun j hj => hk j (by simp [hj])
theorem putS_fuel {l : List Form} (hwf : WF l) : ∀ (f g : Nat) (n : Int), Kin l f n → Kin l g n → ∀ br s, putS l f br n s = putS l g br n s
  | 0, g, n, h, _ => by obtain ⟨k, h1, h2, h3⟩ := h; omega
  | f + 1, 0, n, _, h => by obtain ⟨k, h1, h2, h3⟩ := h; omega
  | f + 1, g + 1, n, h, h2 => by
    intro br s
    unfold putS
    exact foldl_congr2 _ _ fun k hk t => putS_fuel hwf f g k (kin_tail hwf h k hk) (kin_tail hwf h2 k hk) _ _
theorem cntE_fuel {l : List Form} (hwf : WF l) : ∀ (f g : Nat) (n : Int), Kin l f n → Kin l g n → cntE l f n = cntE l g n
  | 0, g, n, h, _ => by obtain ⟨k, h1, h2, h3⟩ := h; omega
  | f + 1, 0, n, _, h => by obtain ⟨k, h1, h2, h3⟩ := h; omega
  | f + 1, g + 1, n, h, h2 => by
    have key : ∀ ks : List Int, (∀ k ∈ ks, Kin l f k ∧ Kin l g k) → cntL l f ks = cntL l g ks := by
      intro ks
      induction ks with
      | nil => intro _; rfl
      | cons a r ih =>
        intro hks
        rw [cntL_cons, cntL_cons, ih fun k hk => hks k (by simp [hk]), cntE_fuel hwf f g a (hks a (by simp)).1 (hks a (by simp)).2]
    have e1 : cntE l (f + 1) n = 1 + cntL l f (fm l n).kids := rfl
    have e2 : cntE l (g + 1) n = 1 + cntL l g (fm l n).kids := rfl
    rw [e1, e2, key _ fun k hk => ⟨kin_tail hwf h k hk, kin_tail hwf h2 k hk⟩]
/-- a form with all in it, in a bracket; forms; how many they are -/
def put (l : List Form) (br n : Int) (s : WSt) : WSt := putS l (l.length + 1) br n s
def puts (l : List Form) (br : Int) (ks : List Int) (s : WSt) : WSt := ks.foldl (fun t k => put l br k t) s
def many (l : List Form) (n : Int) : Nat := cntE l (l.length + 1) n
def manys (l : List Form) (ks : List Int) : Nat := cntL l (l.length + 1) ks
theorem puts_nil (l : List Form) (br : Int) (s : WSt) : puts l br [] s = s := rfl
theorem puts_cons (l : List Form) (br k : Int) (r : List Int) (s : WSt) : puts l br (k :: r) s = puts l br r (put l br k s) := rfl
theorem puts_app (l : List Form) (br : Int) (a b : List Int) (s : WSt) : puts l br (a ++ b) s = puts l br b (puts l br a s) := by unfold puts; rw [List.foldl_append]
theorem manys_nil (l : List Form) : manys l [] = 0 := rfl
theorem manys_cons (l : List Form) (k : Int) (r : List Int) : manys l (k :: r) = many l k + manys l r := cntL_cons _ _ _ _
section
variable {l : List Form} (hwf : WF l)
include hwf
theorem putF_eq {n : Int} (h : InL l n) (br : Int) (s : WSt) : put l br n s = puts l (s.1.length : Int) (fm l n).kids (put1 br (bare (fm l n)) s) := by
  unfold put puts
  rw [putS_fuel hwf (l.length + 1) (l.length + 1 + 1) n h.kin (by obtain ⟨k, h1, h2, h3⟩ := h.kin; exact ⟨k, h1, h2, by omega⟩)]
  rfl
theorem many_eq {n : Int} (h : InL l n) : many l n = 1 + manys l (fm l n).kids := by
  unfold many manys
  rw [cntE_fuel hwf (l.length + 1) (l.length + 1 + 1) n h.kin (by obtain ⟨k, h1, h2, h3⟩ := h.kin; exact ⟨k, h1, h2, by omega⟩)]
  rfl
theorem put_len {n : Int} (h : InL l n) : ∀ br s, (put l br n s).1.length = s.1.length + many l n := by
  have key : ∀ (m : Nat) (n : Int), InL l n → (l.length : Int) - n ≤ m → ∀ br s, (put l br n s).1.length = s.1.length + many l n := by
    intro m
    induction m with
    | zero => intro n h hm; obtain ⟨k, rfl, hk⟩ := h; omega
    | succ m ih =>
      intro n h hm br s
      rw [putF_eq hwf h, many_eq hwf h]
      have hk := h.kid hwf
      have hlt : ∀ k ∈ (fm l n).kids, (l.length : Int) - k ≤ m := by
        intro k hk2
        obtain ⟨j, rfl, hj⟩ := h
        rw [fm_nat] at hk2
        have := hwf j hj k hk2
        omega
      have : ∀ (ks : List Int), (∀ k ∈ ks, InL l k ∧ (l.length : Int) - k ≤ m) → ∀ br t, (puts l br ks t).1.length = t.1.length + manys l ks := by
        intro ks
        induction ks with
        | nil => intro _ br t; simp [puts_nil, manys_nil]
        | cons a r ih2 =>
          intro hks br t
          rw [puts_cons, ih2 (fun k hk => hks k (by simp [hk])), ih a (hks a (by simp)).1 (hks a (by simp)).2, manys_cons]
          omega
      rw [this _ fun k hk2 => ⟨hk k hk2, hlt k hk2⟩, put1_len]
      omega
  exact key l.length n h (by obtain ⟨k, rfl, hk⟩ := h; omega)
theorem puts_len {ks : List Int} (h : ∀ k ∈ ks, InL l k) (br : Int) (s : WSt) : (puts l br ks s).1.length = s.1.length + manys l ks := by
  induction ks generalizing s with
  | nil => simp [puts_nil, manys_nil]
  | cons a r ih =>
    rw [puts_cons, ih (fun k hk => h k (by simp [hk])), put_len hwf (h a (by simp)), manys_cons]
    omega
end
/-! ### what is put is what was there -/
def asP (br : Int) (s : WSt) : PSt := ⟨s.1, s.2, if br < 0 then [] else [br]⟩
theorem asP_opn (br : Int) (s : WSt) : (asP br s).opn.length = 0 ↔ br < 0 := by unfold asP; simp only; split <;> simp_all
theorem asP_last {br : Int} (s : WSt) (h : ¬ br < 0) : last0 (asP br s).opn = br := by unfold asP; simp only; rw [if_neg h]; rfl
theorem asP_put1 (br : Int) (f : Form) (s : WSt) : asP br (put1 br f s) = add1 (asP br s) f := by
  unfold add1
  by_cases h : br < 0
  · rw [if_pos ((asP_opn br s).2 h)]
    unfold asP put1
    simp only [if_pos h]
  · rw [if_neg (fun e => h ((asP_opn br s).1 e)), asP_last s h]
    unfold asP put1
    simp only [if_neg h]
theorem put_walk {l : List Form} (hwf : WF l) : ∀ (g : Nat) (ps : List Int) (next nx : Int), 0 ≤ next → walkS l g ps next = (nx, true) →
    ∀ (br : Int) (s : WSt), (∀ p ∈ ps, InL l p) → (s.1.length : Int) = next → br < next → PGrow l (asP br s) (asP br (puts l br ps s)) ps next nx
  | 0, ps, next, nx, _, h => by simp [walkS] at h
  | g + 1, [], next, nx, _, h => by
    intro br s _ hlen _
    have := walk_nil h
    subst this
    refine ⟨rfl, ?_, hlen, fun k h1 h2 => by omega, fun k hk => ?_⟩
    · simp [puts_nil]
    · simp only [ite_self, List.append_nil, puts_nil]
      exact SameX.refl _
  | g + 1, n :: r, next, nx, h0, h => by
    intro br s hin hlen hbr
    simp only [walkS] at h
    split at h
    · cases h
    · rename_i hn
      split at h
      · rename_i nx1 he
        have hnn : n = next := by omega
        subst hnn
        obtain ⟨k, rfl, hk⟩ := hin n (by simp)
        simp only [Int.toNat_natCast] at he
        have hg1 := walkS_ge l g (nth l k).kids ((k : Int) + 1)
        rw [he] at hg1
        simp only at hg1
        have hlk : s.1.length = k := by omega
        have hink : InL l (k : Int) := ⟨k, rfl, hk⟩
        have hlast : LastIn (asP br s) := by
          by_cases hb : br < 0
          · exact .inl ((asP_opn br s).2 hb)
          · right; rw [asP_last s hb]; show 0 ≤ br ∧ br < (s.1.length : Int); omega
        obtain ⟨q1, q2, q3, q4, q5⟩ := add1_grow (asP br s) (bare (nth l k)) hlast
        rw [← asP_put1] at q1 q2 q3 q4 q5
        have q3' : (put1 br (bare (nth l k)) s).1.length = s.1.length + 1 := put1_len _ _ _
        have g2 := put_walk hwf g _ _ _ (by omega) he (k : Int) (put1 br (bare (nth l k)) s) (by have := hink.kid hwf; rw [fm_nat] at this; exact this) (by rw [q3']; omega) (by omega)
        have hput : put l br (k : Int) s = puts l (k : Int) (nth l k).kids (put1 br (bare (nth l k)) s) := by rw [putF_eq hwf hink, hlk, fm_nat]
        rw [← hput] at g2
        have hl2 : ((put l br (k : Int) s).1.length : Int) = nx1 := g2.len
        have first : PGrow l (asP br s) (asP br (put l br (k : Int) s)) [(k : Int)] (k : Int) nx1 := by
          refine ⟨rfl, ?_, hl2, fun j hj hj2 => ?_, fun j hj => ?_⟩
          · have t1 := g2.top
            rw [if_neg (by rw [asP_opn]; omega)] at t1
            show (put l br (k : Int) s).2 = _
            have t1 : (put l br (k : Int) s).2 = (put1 br (bare (nth l k)) s).2 := t1
            rw [t1]
            have t2 : (put1 br (bare (nth l k)) s).2 = _ := q2
            rw [t2]
            show (if _ then _ ++ [(s.1.length : Int)] else _) = _
            rw [hlk]
          · show SameX (nth (put l br (k : Int) s).1 j) _
            by_cases hjk : j = k
            · subst hjk
              have w := g2.old j (by omega)
              rw [if_pos ⟨by have := (asP_opn (j : Int) (put1 br (bare (nth l j)) s)); omega, by rw [asP_last _ (by omega)]⟩] at w
              have q4 : SameX (nth (put1 br (bare (nth l j)) s).1 s.1.length) (bare (nth l j)) := q4
              rw [hlk] at q4
              obtain ⟨a1, a2, a3, a4⟩ := w
              obtain ⟨b1, b2, b3, b4⟩ := q4
              refine ⟨a1.trans b1, a2.trans b2, a3.trans b3, a4.trans ?_⟩
              show (nth (put1 br (bare (nth l j)) s).1 j).kids ++ _ = _
              rw [b4]; rfl
            · exact g2.new j (by omega) hj2
          · show SameX (nth (put l br (k : Int) s).1 j) _
            have w := g2.old j (by omega)
            rw [if_neg (by rintro ⟨_, c⟩; rw [asP_last _ (by omega)] at c; omega)] at w
            simp only [List.append_nil] at w
            have w2 := q5 j (by show j < s.1.length; omega)
            have e : ((asP br s).l.length : Int) = k := by show (s.1.length : Int) = k; omega
            rw [e] at w2
            exact w.trans w2
        have rest := put_walk hwf g r nx1 nx (by omega) h br (put l br (k : Int) s) (fun p hp => hin p (by simp [hp])) hl2 (by omega)
        rw [puts_cons]
        refine first.more rest ?_ (by omega)
        by_cases hb : br < 0
        · exact .inl ((asP_opn br s).2 hb)
        · right; rw [asP_last s hb]; omega
      · cases h
/-- all put: the same forms, but for where they stood -/
theorem puts_same {l : List Form} {top : List Int} (hr : rightS l top = true) : SameF l (puts l (-1) top ([], [])).1 ∧ (puts l (-1) top ([], [])).2 = top ∧ manys l top = l.length := by
  have hf := right_facts hr
  have hin : ∀ p ∈ top, InL l p := fun p hp => (hf.topIn p hp).inL
  have hg := put_walk hf.wf _ top 0 _ (Int.le_refl _) (right_walk hr) (-1) ([], []) hin rfl (by omega)
  have hlen : ((puts l (-1) top ([], [])).1.length : Int) = l.length := hg.len
  have key : ∀ k : Nat, SameX (nth (puts l (-1) top ([], [])).1 k) (nth l k) := by
    intro k
    by_cases hk : k < l.length
    · exact hg.new k (by omega) (by omega)
    · rw [nth_out (by omega), nth_out (by omega)]; exact SameX.refl _
  refine ⟨⟨by omega, fun n => (key n.toNat).1, fun n => (key n.toNat).2.1, fun n => (key n.toNat).2.2.1, fun n => (key n.toNat).2.2.2⟩, ?_, ?_⟩
  · have := hg.top
    simpa [asP] using this
  · have := puts_len hf.wf hin (-1) ([], [])
    simp only [List.length_nil] at this
    omega
end Go.Proofs.Ytgaginegcjpddaa
/- Expressions that were read are written as they stood. -/
set_option linter.unusedSectionVars false
namespace Go.Proofs.Ytgaginegcjpddaa
def wordsPut (n : Int) (ws : List ByteArray) (s : WSt) : WSt := ws.foldl (fun t w => put1 n (wordF w) t) s
theorem wordS_put (br : Int) (t : ByteArray) (s : WSt) (h : s.1.length < 400) : wordS br t s = some (put1 br (wordF t) s) := by
  unfold wordS; rw [formS_put _ _ _ h]; rfl
theorem wordsS_put (n : Int) : ∀ (ws : List ByteArray) (s : WSt), s.1.length + ws.length ≤ 400 → wordsS n ws s = some (wordsPut n ws s)
  | [], s, _ => rfl
  | t :: r, s, h => by
    simp only [List.length_cons] at h
    simp only [wordsS]
    rw [wordS_put _ _ _ (by omega)]
    simp only
    rw [wordsS_put n r _ (by rw [put1_len]; omega)]
    rfl
theorem openS_put (br : Int) (ws : List ByteArray) (s : WSt) (h : s.1.length + 1 + ws.length ≤ 400) : openS br ws s = some ((s.1.length : Int), wordsPut (s.1.length : Int) ws (put1 br openF s)) := by
  unfold openS
  rw [formS_put _ _ _ (by omega)]
  simp only
  rw [wordsS_put _ _ _ (by rw [put1_len]; omega)]
  rfl
theorem wordsPut_len (n : Int) : ∀ (ws : List ByteArray) (s : WSt), (wordsPut n ws s).1.length = s.1.length + ws.length
  | [], s => rfl
  | t :: r, s => by
    show (wordsPut n r (put1 n (wordF t) s)).1.length = _
    rw [wordsPut_len n r, put1_len, List.length_cons]; omega
theorem pre_nth {α : Type} [Inhabited α] {a b : List α} (h : a <+: b) {i : Nat} (hi : i < a.length) : nth b i = nth a i := by
  obtain ⟨t, rfl⟩ := h
  simp [nth, List.getD_eq_getElem?_getD, List.getElem?_append_left hi]
theorem list1 {α : Type} [Inhabited α] {l : List α} (h : l.length = 1) : l = [nth l 0] := by
  match l, h with
  | [a], _ => rfl
section
variable {l : List Form} (hwf : WF l) (ha : ∀ f ∈ l, aloneS f = true)
include hwf ha
theorem alone_at {n : Int} (h : InL l n) : aloneS (fm l n) = true := by
  obtain ⟨k, rfl, hk⟩ := h
  rw [fm_nat]; exact ha _ (nth_mem hk)
theorem put_num {n : Int} (h : InL l n) (h4 : (fm l n).kind = 4) (br : Int) (s : WSt) : put l br n s = put1 br (numF (fm l n).num) s ∧ many l n = 1 := by
  obtain ⟨hk, hd⟩ := alone_leaf (alone_at hwf ha h) (by omega)
  have ht : (fm l n).text = ⟨#[]⟩ := by
    rcases hd with hd | hd
    · omega
    · exact hd.2
  rw [putF_eq hwf h, many_eq hwf h, hk]
  refine ⟨?_, rfl⟩
  show put1 br (bare (fm l n)) s = _
  have : bare (fm l n) = numF (fm l n).num := by unfold bare numF; rw [h4, ht]
  rw [this]
theorem put_word {n : Int} (h : InL l n) (h3 : (fm l n).kind = 3) (br : Int) (s : WSt) : put l br n s = put1 br (wordF (fm l n).text) s ∧ many l n = 1 := by
  obtain ⟨hk, hd⟩ := alone_leaf (alone_at hwf ha h) (by omega)
  have ht : (fm l n).num = 0 := by
    rcases hd with hd | hd
    · exact hd.2
    · omega
  rw [putF_eq hwf h, many_eq hwf h, hk]
  refine ⟨?_, rfl⟩
  show put1 br (bare (fm l n)) s = _
  have : bare (fm l n) = wordF (fm l n).text := by unfold bare wordF; rw [h3, ht]
  rw [this]
theorem bare_open {n : Int} (h : InL l n) (h1 : (fm l n).kind = 1) : bare (fm l n) = openF := by
  obtain ⟨hn, ht⟩ := alone_brk (alone_at hwf ha h) h1
  unfold bare openF; rw [h1, ht, hn]
theorem put_split {n : Int} (h : InL l n) (hs : splitOk l n = true) (br : Int) (s : WSt) :
    put l br n s = puts l (s.1.length : Int) (tailK l n) (wordsPut (s.1.length : Int) [headW l n] (put1 br openF s)) ∧ many l n = 2 + manys l (tailK l n) ∧ ∀ k ∈ tailK l n, InL l k := by
  unfold splitOk at hs
  simp only [Bool.and_eq_true, beq_iff_eq, decide_eq_true_eq] at hs
  obtain ⟨⟨h1, h0⟩, h3⟩ := hs
  have hk : (fm l n).kids = nth (fm l n).kids 0 :: tailK l n := by
    have := drop_nth h0
    simpa [tailK] using this
  have hin : ∀ k ∈ (fm l n).kids, InL l k := h.kid hwf
  have hin0 : InL l (nth (fm l n).kids 0) := hin _ (nth_mem h0)
  have hw := put_word hwf ha hin0 h3
  refine ⟨?_, ?_, fun k hk2 => hin k (by rw [hk]; exact List.mem_cons_of_mem _ hk2)⟩
  · rw [putF_eq hwf h, bare_open hwf ha h h1]
    conv => lhs; rw [hk]
    rw [puts_cons, (hw _ _).1]
    rfl
  · rw [many_eq hwf h]
    conv => lhs; rw [hk]
    rw [manys_cons, (hw 0 ([], [])).2]
    omega
theorem name_kind {n : Int} (h : nameOk l n = true) : (fm l n).kind = 3 := by
  unfold nameOk at h
  simp only [Bool.and_eq_true, beq_iff_eq] at h
  exact h.1
omit hwf ha in
theorem says_kind {n : Int} {w : ByteArray} (h : saysS l n w = true) : (fm l n).kind = 3 ∧ (fm l n).text = w := by
  unfold saysS at h
  simp only [Bool.and_eq_true, beq_iff_eq, decide_eq_true_eq] at h
  exact h
end
/-- what reading an expression comes to -/
structure ExR (l : List Form) (n : Int) (es : List Expr) (p : Int) (es1 : List Expr) : Prop where
  pre : es <+: es1
  at0 : 0 ≤ p
  lt : p < es1.length
  ops : (∀ x ∈ es, 0 ≤ x.op) → ∀ x ∈ es1, 0 ≤ x.op
  wr : ∀ esF, es1 <+: esF → ∀ (F : Nat) (br lim : Int) (s : WSt), p < F → p < lim → s.1.length + many l n ≤ 400 → exprWS esF F br p lim s = some (put l br n s)
structure ExsR (l : List Form) (ks : List Int) (es : List Expr) (ps : List Int) (es1 : List Expr) : Prop where
  pre : es <+: es1
  ops : (∀ x ∈ es, 0 ≤ x.op) → ∀ x ∈ es1, 0 ≤ x.op
  wr : ∀ esF, es1 <+: esF → ∀ (F : Nat) (br lim : Int) (s : WSt), es1.length ≤ F → (es1.length : Int) ≤ lim → s.1.length + manys l ks ≤ 400 → kidsWS (fun k t => exprWS esF F br k lim t) ps s = some (puts l br ks s)
theorem addE_R {l : List Form} {n : Int} {es es0 : List Expr} {x : Expr} (hpre : es <+: es0) (hops : (∀ x ∈ es, 0 ≤ x.op) → ∀ x ∈ es0, 0 ≤ x.op) (hx : 0 ≤ x.op)
    (hw : ∀ esF, (es0 ++ [x]) <+: esF → ∀ (F : Nat) (br : Int) (s : WSt), es0.length ≤ F → s.1.length + many l n ≤ 400 → exprKW x br (fun b k t => exprWS esF F b k (es0.length : Int) t) s = some (put l br n s)) :
    ExR l n es (es0.length : Int) (es0 ++ [x]) := by
  refine ⟨hpre.trans (List.prefix_append _ _), by omega, by simp; omega, fun h y hy => ?_, fun esF hF F br lim s h1 h2 h3 => ?_⟩
  · rcases List.mem_append.1 hy with hy | hy
    · exact hops h y hy
    · simp only [List.mem_singleton] at hy; subst hy; exact hx
  · obtain ⟨G, rfl⟩ : ∃ G, F = G + 1 := ⟨F - 1, by omega⟩
    have hle := hF.length_le
    simp only [List.length_append, List.length_cons, List.length_nil] at hle
    unfold exprWS
    have hm : (es0.length : Int) < minI lim esF.length := by unfold minI; split <;> omega
    rw [if_pos ⟨by omega, hm⟩, Int.toNat_natCast, pre_nth hF (by simp), nth_app_last]
    exact hw esF hF G br s (by omega) h3
theorem readGo_word : ∀ (f k : Nat) (s : ByteArray), (readGo f k s).2 = true → ∃ m : Nat, (readGo f k s).1 = (m : Int) ∧ m < k + f ∧ nth opWords m = s
  | 0, k, s, h => by simp [readGo] at h
  | f + 1, k, s, h => by
    unfold readGo at h ⊢
    by_cases hk : nth opWords k = s
    · rw [if_pos hk]; exact ⟨k, rfl, by omega, hk⟩
    · rw [if_neg hk] at h ⊢
      obtain ⟨m, h1, h2, h3⟩ := readGo_word f (k + 1) s h
      exact ⟨m, h1, by omega, h3⟩
theorem readOp_word {s : ByteArray} (h : (readOpS s).2 = true) : 0 ≤ (readOpS s).1 ∧ opWordS (readOpS s).1 = s := by
  obtain ⟨m, h1, h2, h3⟩ := readGo_word 19 1 s h
  have e : (readOpS s).1 = (m : Int) := h1
  rw [e]
  refine ⟨by omega, ?_⟩
  unfold opWordS
  rw [if_neg (by omega), Int.toNat_natCast, h3]
theorem truth_cases {s : ByteArray} (h : (truthS s).2 = true) : (s = wTrue ∧ (truthS s).1 = { exprK 1 with of_ := 2, num := 1 }) ∨ (s = wFalse ∧ (truthS s).1 = { exprK 1 with of_ := 2 }) := by
  unfold truthS at h ⊢
  by_cases h1 : s = ⟨#[116, 114, 117, 101]⟩
  · left; rw [if_pos h1]; exact ⟨h1, rfl⟩
  · right
    rw [if_neg h1] at h ⊢
    simp only [decide_eq_true_eq] at h
    exact ⟨h, rfl⟩
theorem aloneK_cases {w : ByteArray} (h : aloneK w ≠ 0) : (w = wId ∧ aloneK w = 6) ∨ (w = wFarid ∧ aloneK w = 7) ∨ (w = wCount ∧ aloneK w = 9) := by
  unfold aloneK at h ⊢
  split
  · rename_i e; exact .inl ⟨e, rfl⟩
  · rename_i e1
    rw [if_neg e1] at h
    split
    · rename_i e; exact .inr (.inl ⟨e, rfl⟩)
    · rename_i e2
      rw [if_neg e2] at h
      split
      · rename_i e; exact .inr (.inr ⟨e, rfl⟩)
      · rename_i e3; rw [if_neg e3] at h; exact absurd rfl h
theorem columnK_cases {w : ByteArray} (h : columnK w ≠ 0) : (w = wOwn ∧ columnK w = 3) ∨ (w = wFar ∧ columnK w = 4) ∨ (w = wVia ∧ columnK w = 5) := by
  unfold columnK at h ⊢
  split
  · rename_i e; exact .inl ⟨e, rfl⟩
  · rename_i e1
    rw [if_neg e1] at h
    split
    · rename_i e; exact .inr (.inl ⟨e, rfl⟩)
    · rename_i e2
      rw [if_neg e2] at h
      split
      · rename_i e; exact .inr (.inr ⟨e, rfl⟩)
      · rename_i e3; rw [if_neg e3] at h; exact absurd rfl h
theorem sndS_put (br : Int) (ws : List ByteArray) (s : WSt) (h : s.1.length + 1 + ws.length ≤ 400) : sndS (openS br ws s) = some (wordsPut (s.1.length : Int) ws (put1 br openF s)) := by
  rw [openS_put _ _ _ h]; rfl
section
variable {l : List Form} (hwf : WF l) (ha : ∀ f ∈ l, aloneS f = true)
include hwf ha
/-- an expression without expressions in it -/
theorem leafS_put {n : Int} (h : InL l n) (hs : splitOk l n = true) {x : Expr} (he : leafS l (headW l n) (tailK l n) = .inl (some x)) : 0 ≤ x.op ∧ ∀ (br : Int) (g : Int → Int → WSt → Option WSt) (s : WSt), s.1.length + many l n ≤ 400 → exprKW x br g s = some (put l br n s) := by
  obtain ⟨_, hm, hin⟩ := put_split hwf ha h hs 0 ([], [])
  have hput := fun br s => (put_split hwf ha h hs br s).1
  unfold leafS at he
  split at he
  · rename_i hc
    have ht : tailK l n = [] := List.eq_nil_of_length_eq_zero hc.2
    simp only [Sum.inl.injEq, Option.some.injEq] at he
    subst he
    refine ⟨Int.le_refl _, fun br g s hr => ?_⟩
    rw [hput br s, ht]
    rw [ht, manys_nil] at hm
    rcases aloneK_cases hc.1 with ⟨e1, e2⟩ | ⟨e1, e2⟩ | ⟨e1, e2⟩ <;> rw [e2, e1] <;> exact sndS_put br [_] s (by simp; omega)
  · split at he
    · cases he
    · rename_i hc1 hc2
      have ht : tailK l n = [nth (tailK l n) 0] := list1 (by omega)
      have hin0 : InL l (nth (tailK l n) 0) := hin _ (nth_mem (by omega))
      have key : ∀ (w : ByteArray), (fm l (nth (tailK l n) 0)).kind = 3 → (fm l (nth (tailK l n) 0)).text = w → (∀ br s, put l br n s = wordsPut (s.1.length : Int) [headW l n, w] (put1 br openF s)) ∧ many l n = 3 := by
        intro w h3 hw
        have hq := put_word hwf ha hin0 h3
        refine ⟨fun br s => ?_, ?_⟩
        · rw [hput br s]
          conv => lhs; rw [ht]
          rw [puts_cons, puts_nil, (hq _ _).1, hw]
          rfl
        · rw [hm, ht, manys_cons, manys_nil, (hq 0 ([], [])).2]
      split at he
      · rename_i hcol
        split at he
        · rename_i hname
          simp only [Sum.inl.injEq, Option.some.injEq] at he
          subst he
          obtain ⟨k1, k2⟩ := key _ (name_kind hwf ha hname) rfl
          refine ⟨Int.le_refl _, fun br g s hr => ?_⟩
          rw [k1 br s]
          rcases columnK_cases hcol with ⟨e1, e2⟩ | ⟨e1, e2⟩ | ⟨e1, e2⟩ <;> rw [e2, e1] <;> exact sndS_put br [_, _] s (by simp; omega)
        · cases he
      · split at he
        · rename_i hd
          simp only [Sum.inl.injEq, Option.some.injEq] at he
          subst he
          obtain ⟨s1, s2⟩ := says_kind hd.2
          obtain ⟨k1, k2⟩ := key _ s1 s2
          refine ⟨Int.le_refl _, fun br g s hr => ?_⟩
          rw [k1 br s, hd.1]
          exact sndS_put br [_, _] s (by simp; omega)
        · split at he
          · rename_i hd
            simp only [Sum.inl.injEq, Option.some.injEq] at he
            subst he
            obtain ⟨s1, s2⟩ := says_kind hd.2
            obtain ⟨k1, k2⟩ := key _ s1 s2
            refine ⟨Int.le_refl _, fun br g s hr => ?_⟩
            rw [k1 br s, hd.1]
            exact sndS_put br [_, _] s (by simp; omega)
          · cases he
theorem seqE_R {f : Nat} (ih : ∀ n es p es1, InL l n → exprS l f n es = .inl (p, es1) → ExR l n es p es1) : ∀ (ks : List Int) (es : List Expr) (ps : List Int) (es1 : List Expr), (∀ k ∈ ks, InL l k) → seqS (exprS l f) ks es = .inl (ps, es1) → ExsR l ks es ps es1
  | [], es, ps, es1, _, h => by
    simp only [seqS, Sum.inl.injEq, Prod.mk.injEq] at h
    obtain ⟨rfl, rfl⟩ := h
    exact ⟨List.prefix_refl _, fun h => h, fun esF hF F br lim s _ _ _ => rfl⟩
  | k :: r, es, ps, es1, hin, h => by
    simp only [seqS] at h
    split at h
    · cases h
    · rename_i p es0 h0
      split at h
      · cases h
      · rename_i qs es2 h2
        simp only [Sum.inl.injEq, Prod.mk.injEq] at h
        obtain ⟨rfl, rfl⟩ := h
        have a := ih k es p es0 (hin k (by simp)) h0
        have b := seqE_R ih r es0 qs es2 (fun j hj => hin j (by simp [hj])) h2
        have hb := b.pre.length_le
        refine ⟨a.pre.trans b.pre, fun h => b.ops (a.ops h), fun esF hF F br lim s h1 h2 h3 => ?_⟩
        rw [manys_cons] at h3
        have hlt := a.lt
        have w1 := a.wr esF (b.pre.trans hF) F br lim s (by omega) (by omega) (by omega)
        have w2 := b.wr esF hF F br lim (put l br k s) h1 h2 (by rw [put_len hwf (hin k (by simp))]; omega)
        simp only [kidsWS, w1]
        rw [puts_cons]
        exact w2
theorem exprS_R : ∀ (f : Nat) (n : Int) (es : List Expr) (p : Int) (es1 : List Expr), InL l n → exprS l f n es = .inl (p, es1) → ExR l n es p es1
  | 0, n, es, p, es1, _, h => by simp [exprS] at h
  | f + 1, n, es, p, es1, hin, h => by
    unfold exprS at h
    split at h
    · rename_i h4
      simp only [addE, Sum.inl.injEq, Prod.mk.injEq] at h
      obtain ⟨rfl, rfl⟩ := h
      refine addE_R (List.prefix_refl _) (fun h => h) (Int.le_refl _) fun esF hF F br s _ hr => ?_
      obtain ⟨e1, e2⟩ := put_num hwf ha hin h4 br s
      rw [e1]
      show (formS br (numF (fm l n).num) s).map (·.2) = _
      rw [formS_put _ _ _ (by omega)]; rfl
    · split at h
      · rename_i h3
        have hp := put_word hwf ha hin h3
        split at h
        · rename_i ht
          simp only [addE, Sum.inl.injEq, Prod.mk.injEq] at h
          obtain ⟨rfl, rfl⟩ := h
          rcases truth_cases ht with ⟨e1, e2⟩ | ⟨e1, e2⟩
          · rw [e2]
            refine addE_R (List.prefix_refl _) (fun h => h) (Int.le_refl _) fun esF hF F br s _ hr => ?_
            obtain ⟨q1, q2⟩ := hp br s
            rw [q1, e1]
            exact wordS_put br wTrue s (by omega)
          · rw [e2]
            refine addE_R (List.prefix_refl _) (fun h => h) (Int.le_refl _) fun esF hF F br s _ hr => ?_
            obtain ⟨q1, q2⟩ := hp br s
            rw [q1, e1]
            exact wordS_put br wFalse s (by omega)
        · split at h
          · simp only [addE, Sum.inl.injEq, Prod.mk.injEq] at h
            obtain ⟨rfl, rfl⟩ := h
            refine addE_R (List.prefix_refl _) (fun h => h) (Int.le_refl _) fun esF hF F br s _ hr => ?_
            obtain ⟨q1, q2⟩ := hp br s
            rw [q1]
            exact wordS_put br _ s (by omega)
          · cases h
      · split at h
        · rename_i hs
          split at h
          · cases h
          · rename_i x hx
            simp only [addE, Sum.inl.injEq, Prod.mk.injEq] at h
            obtain ⟨rfl, rfl⟩ := h
            obtain ⟨hop, hw⟩ := leafS_put hwf ha hin hs hx
            exact addE_R (List.prefix_refl _) (fun h => h) hop fun esF hF F br s _ hr => hw br _ s hr
          · split at h
            · rename_i hcall
              split at h
              · cases h
              · rename_i ps es0 hseq
                simp only [addE, Sum.inl.injEq, Prod.mk.injEq] at h
                obtain ⟨rfl, rfl⟩ := h
                obtain ⟨_, hm, hint⟩ := put_split hwf ha hin hs 0 ([], [])
                have q := seqE_R hwf ha (exprS_R f) (tailK l n) es ps es0 hint hseq
                unfold callOk at hcall
                simp only [Bool.and_eq_true, decide_eq_true_eq] at hcall
                obtain ⟨ho, how⟩ := readOp_word hcall.1
                refine addE_R q.pre q.ops ho fun esF hF F br s hl hr => ?_
                rw [(put_split hwf ha hin hs br s).1]
                have hopen := openS_put br [headW l n] s (by simp; omega)
                show (match openS br [opWordS (readOpS (headW l n)).1] s with
                  | none => none
                  | some (b, s1) => kidsWS (fun k t => exprWS esF F b k (es0.length : Int) t) ps s1) = _
                rw [how, hopen]
                simp only
                exact q.wr esF ((List.prefix_append _ _).trans hF) F (s.1.length : Int) (es0.length : Int) _ hl (Int.le_refl _) (by rw [wordsPut_len, put1_len]; simp; omega)
            · cases h
        · cases h
end
end Go.Proofs.Ytgaginegcjpddaa
/- Acts and statements that were read are written as they stood. -/
set_option linter.unusedSectionVars false
namespace Go.Proofs.Ytgaginegcjpddaa
theorem list_1 {α : Type} [Inhabited α] {l : List α} (h : 1 ≤ l.length) : l = nth l 0 :: l.drop 1 := by
  match l, h with
  | a :: r, _ => rfl
theorem list_2 {α : Type} [Inhabited α] {l : List α} (h : 2 ≤ l.length) : l = nth l 0 :: nth l 1 :: l.drop 2 := by
  match l, h with
  | a :: b :: r, _ => rfl
theorem list_3 {α : Type} [Inhabited α] {l : List α} (h : 3 ≤ l.length) : l = nth l 0 :: nth l 1 :: nth l 2 :: l.drop 3 := by
  match l, h with
  | a :: b :: c :: r, _ => rfl
/-- what reading an expression and a condition comes to -/
structure PaR (l : List Form) (ks : List Int) (es : List Expr) (e c : Int) (es1 : List Expr) : Prop where
  pre : es <+: es1
  ops : (∀ x ∈ es, 0 ≤ x.op) → ∀ x ∈ es1, 0 ≤ x.op
  wr : ∀ esF, es1 <+: esF → ∀ (br : Int) (s : WSt), s.1.length + manys l ks ≤ 400 → partsWS esF br e c s = some (puts l br ks s)
theorem ExR.w1 {l : List Form} {n : Int} {es : List Expr} {p : Int} {es1 : List Expr} (h : ExR l n es p es1) {esF : List Expr} (hF : es1 <+: esF) (br : Int) (s : WSt) (hr : s.1.length + many l n ≤ 400) : exprW1 esF br p s = some (put l br n s) := by
  have := hF.length_le
  have := h.lt
  exact h.wr esF hF esF.length br esF.length s (by omega) (by omega) hr
structure AcR (l : List Form) (n : Int) (es : List Expr) (a : PAct) (es1 : List Expr) : Prop where
  pre : es <+: es1
  ops : (∀ x ∈ es, 0 ≤ x.op) → ∀ x ∈ es1, 0 ≤ x.op
  op : 0 ≤ a.op
  wr : ∀ esF, es1 <+: esF → ∀ (br : Int) (s : WSt), s.1.length + many l n ≤ 400 → actWS esF br a s = some (put l br n s)
structure AcsR (l : List Form) (ks : List Int) (es : List Expr) (al : List PAct) (es1 : List Expr) : Prop where
  pre : es <+: es1
  ops : (∀ x ∈ es, 0 ≤ x.op) → ∀ x ∈ es1, 0 ≤ x.op
  op : ∀ a ∈ al, 0 ≤ a.op
  wr : ∀ esF, es1 <+: esF → ∀ (br : Int) (s : WSt), s.1.length + manys l ks ≤ 400 → actsWS esF br al s = some (puts l br ks s)
def SQ (x : PStmt) : Prop := 0 ≤ x.op ∧ ∀ a ∈ x.acts, 0 ≤ a.op
structure StR (l : List Form) (n : Int) (s0 : ESt) (p : Int) (s1 : ESt) : Prop where
  preE : s0.1 <+: s1.1
  preS : s0.2 <+: s1.2
  at0 : 0 ≤ p
  lt : p < s1.2.length
  opsE : (∀ x ∈ s0.1, 0 ≤ x.op) → ∀ x ∈ s1.1, 0 ≤ x.op
  opsS : (∀ x ∈ s0.2, SQ x) → ∀ x ∈ s1.2, SQ x
  wr : ∀ esF ssF, s1.1 <+: esF → s1.2 <+: ssF → ∀ (F : Nat) (br : Int) (s : WSt), p < F → s.1.length + many l n ≤ 400 → stmtWS esF ssF F br p s = some (put l br n s)
structure StsR (l : List Form) (ks : List Int) (s0 : ESt) (ps : List Int) (s1 : ESt) : Prop where
  preE : s0.1 <+: s1.1
  preS : s0.2 <+: s1.2
  opsE : (∀ x ∈ s0.1, 0 ≤ x.op) → ∀ x ∈ s1.1, 0 ≤ x.op
  opsS : (∀ x ∈ s0.2, SQ x) → ∀ x ∈ s1.2, SQ x
  wr : ∀ esF ssF, s1.1 <+: esF → s1.2 <+: ssF → ∀ (F : Nat) (br lim : Int) (s : WSt), s1.2.length ≤ F → (s1.2.length : Int) ≤ lim → s.1.length + manys l ks ≤ 400 → subWS (fun k t => stmtWS esF ssF F br k t) lim ps s = some (puts l br ks s)
theorem addS_R {l : List Form} {n : Int} {s0 : ESt} {es0 : List Expr} {ss0 : List PStmt} {x : PStmt} (hE : s0.1 <+: es0) (hS : s0.2 <+: ss0) (oE : (∀ x ∈ s0.1, 0 ≤ x.op) → ∀ x ∈ es0, 0 ≤ x.op) (oS : (∀ x ∈ s0.2, SQ x) → ∀ x ∈ ss0, SQ x) (hx : SQ x)
    (hw : ∀ esF ssF, es0 <+: esF → (ss0 ++ [x]) <+: ssF → ∀ (F : Nat) (br : Int) (s : WSt), ss0.length ≤ F → s.1.length + many l n ≤ 400 → stmtKW esF x br (ss0.length : Int) (fun b k t => stmtWS esF ssF F b k t) s = some (put l br n s)) :
    StR l n s0 (ss0.length : Int) (es0, ss0 ++ [x]) := by
  refine ⟨hE, hS.trans (List.prefix_append _ _), by omega, by simp; omega, oE, fun h y hy => ?_, fun esF ssF hF hG F br s h1 h3 => ?_⟩
  · rcases List.mem_append.1 hy with hy | hy
    · exact oS h y hy
    · simp only [List.mem_singleton] at hy; subst hy; exact hx
  · obtain ⟨G, rfl⟩ : ∃ G, F = G + 1 := ⟨F - 1, by omega⟩
    unfold stmtWS
    rw [Int.toNat_natCast, pre_nth hG (by simp), nth_app_last]
    exact hw esF ssF hF hG G br s (by omega) h3
theorem andB_open {br : Int} {ws : List ByteArray} {s : WSt} {k : Int → WSt → Option WSt} (h : s.1.length + 1 + ws.length ≤ 400) : andB (openS br ws s) k = k (s.1.length : Int) (wordsPut (s.1.length : Int) ws (put1 br openF s)) := by
  rw [openS_put _ _ _ h]; rfl
theorem andS_of {r : Option WSt} {t : WSt} {k : WSt → Option WSt} (h : r = some t) : andS r k = k t := by rw [h]; rfl
theorem stmtK_cases (w : ByteArray) (c : Nat) : (stmtK w c = 1 ∧ w = wSet ∧ c = 2) ∨ (stmtK w c = 2 ∧ w = wFold ∧ (c = 3 ∨ c = 4)) ∨ (stmtK w c = 3 ∧ w = wEach ∧ 1 ≤ c ∧ c ≤ 6) ∨ (stmtK w c = 4 ∧ w = wIf ∧ c = 3) ∨ (stmtK w c = 5 ∧ w = wWhile ∧ 1 ≤ c) ∨ (stmtK w c = 6 ∧ w = wLoop ∧ 1 ≤ c) ∨ (stmtK w c = 7 ∧ w = wBfs ∧ 2 ≤ c) ∨ stmtK w c = 0 := by
  unfold stmtK
  repeat' split
  all_goals simp_all
theorem actK_cases (w : ByteArray) (c : Nat) : (actK w c = 1 ∧ w = wPut ∧ (c = 2 ∨ c = 3)) ∨ (actK w c = 2 ∧ w = wPush ∧ (c = 4 ∨ c = 5)) ∨ (actK w c = 3 ∧ w = wPull ∧ c = 4) ∨ actK w c = 0 := by
  unfold actK
  repeat' split
  all_goals simp_all
section
variable {l : List Form} (hwf : WF l) (ha : ∀ f ∈ l, aloneS f = true)
include hwf ha
theorem puts_words : ∀ (ks : List Int) (br : Int) (s : WSt), (∀ k ∈ ks, InL l k ∧ (fm l k).kind = 3) → puts l br ks s = wordsPut br (ks.map fun k => (fm l k).text) s ∧ manys l ks = ks.length
  | [], br, s, _ => ⟨rfl, rfl⟩
  | k :: r, br, s, h => by
    obtain ⟨h1, h2⟩ := h k (by simp)
    obtain ⟨q1, q2⟩ := put_word hwf ha h1 h2 br s
    obtain ⟨q3, q4⟩ := puts_words r br (put1 br (wordF (fm l k).text) s) fun j hj => h j (by simp [hj])
    rw [puts_cons, manys_cons, q1, q3, q2, q4]
    refine ⟨rfl, ?_⟩
    simp only [List.length_cons]; omega
/-- a bracket whose first kids are words -/
theorem put_heads {n : Int} (h : InL l n) (hs : splitOk l n = true) (ks rest : List Int) (ws : List ByteArray) (ht : tailK l n = ks ++ rest) (hk : ∀ k ∈ ks, (fm l k).kind = 3) (hws : (ks.map fun k => (fm l k).text) = ws) :
    (∀ br s, put l br n s = puts l (s.1.length : Int) rest (wordsPut (s.1.length : Int) (headW l n :: ws) (put1 br openF s))) ∧ many l n = 2 + ws.length + manys l rest ∧ ∀ k ∈ rest, InL l k := by
  obtain ⟨_, hm, hin⟩ := put_split hwf ha h hs 0 ([], [])
  have hks : ∀ k ∈ ks, InL l k ∧ (fm l k).kind = 3 := fun k hk2 => ⟨hin k (by rw [ht]; simp [hk2]), hk k hk2⟩
  have hl : ws.length = ks.length := by rw [← hws]; simp
  refine ⟨fun br s => ?_, ?_, fun k hk2 => hin k (by rw [ht]; simp [hk2])⟩
  · rw [(put_split hwf ha h hs br s).1, ht, puts_app, (puts_words hwf ha ks _ _ hks).1, hws]
    rfl
  · have key : ∀ a b : List Int, manys l (a ++ b) = manys l a + manys l b := by
      intro a b
      induction a with
      | nil => simp [manys_nil]
      | cons x r ih => rw [List.cons_append, manys_cons, manys_cons, ih]; omega
    rw [hm, ht, key, (puts_words hwf ha ks 0 ([], []) hks).2]
    omega
theorem takes_word {n : Int} (h : takingOk l n = true) : (fm l n).kind = 3 ∧ 0 ≤ takingOp l n ∧ opWordS (takingOp l n) = (fm l n).text := by
  unfold takingOk at h
  simp only [Bool.and_eq_true, beq_iff_eq] at h
  obtain ⟨h1, h2⟩ := readOp_word h.1.2
  exact ⟨h.1.1, h1, h2⟩
theorem partsS_R {f : Nat} {ks : List Int} {es : List Expr} {e c : Int} {es1 : List Expr} (hin : ∀ k ∈ ks, InL l k) (hl : ks.length = 1 ∨ ks.length = 2) (h : partsS l f ks es = .inl ((e, c), es1)) : PaR l ks es e c es1 := by
  unfold partsS at h
  split at h
  · cases h
  · rename_i p es0 h0
    have a := exprS_R hwf ha f _ _ _ _ (hin _ (nth_mem (by omega))) h0
    have q0 := a.at0
    split at h
    · rename_i h1
      split at h
      · cases h
      · rename_i q es2 h2
        simp only [Sum.inl.injEq, Prod.mk.injEq] at h
        obtain ⟨⟨rfl, rfl⟩, rfl⟩ := h
        have b := exprS_R hwf ha f _ _ _ _ (hin _ (nth_mem (by omega))) h2
        have q1 := b.at0
        have hks : ks = [nth ks 0, nth ks 1] := by
          have := list_2 (show 2 ≤ ks.length by omega)
          rw [List.drop_eq_nil_of_le (by omega)] at this
          exact this
        refine ⟨a.pre.trans b.pre, fun h => b.ops (a.ops h), fun esF hF br s hr => ?_⟩
        have hm : manys l ks = many l (nth ks 0) + many l (nth ks 1) := by
          conv => lhs; rw [hks]
          rw [manys_cons, manys_cons, manys_nil]; omega
        unfold partsWS
        rw [a.w1 (b.pre.trans hF) br s (by omega)]
        simp only
        rw [if_neg (by omega), b.w1 hF br _ (by rw [put_len hwf (hin _ (nth_mem (by omega)))]; omega)]
        conv => rhs; rw [hks]
        rfl
    · rename_i h1
      simp only [Sum.inl.injEq, Prod.mk.injEq] at h
      obtain ⟨⟨rfl, rfl⟩, rfl⟩ := h
      have hks : ks = [nth ks 0] := list1 (by omega)
      refine ⟨a.pre, a.ops, fun esF hF br s hr => ?_⟩
      have hm : manys l ks = many l (nth ks 0) := by
        conv => lhs; rw [hks]
        rw [manys_cons, manys_nil]; omega
      unfold partsWS
      rw [a.w1 hF br s (by omega)]
      simp only [if_pos]
      conv => rhs; rw [hks]
      rfl
theorem actBody_R {f : Nat} {n : Int} {k o : Int} {inn : Bool} {fr : Nat} {es : List Expr} {a : PAct} {es1 : List Expr} (h : InL l n) (hs : splitOk l n = true) (he : actBody l f (tailK l n) k o inn fr es = .inl (a, es1)) (ho : 0 ≤ o)
    (ks : List Int) (ws : List ByteArray) (ht : tailK l n = ks ++ (tailK l n).drop fr) (hrest : ((tailK l n).drop fr).length = 1 ∨ ((tailK l n).drop fr).length = 2) (hk : nameOk l (nth (tailK l n) 0) = true → (∀ k ∈ ks, (fm l k).kind = 3) ∧ (ks.map fun k => (fm l k).text) = ws)
    (hopen : ∀ e c br s, actOpen br { kind := k, name := (fm l (nth (tailK l n) 0)).text, op := o, inn, e, cond := c } s = openS br (headW l n :: ws) s) : AcR l n es a es1 := by
  unfold actBody at he
  split at he
  · rename_i hname
    split at he
    · cases he
    · rename_i e c es2 hp
      simp only [Sum.inl.injEq, Prod.mk.injEq] at he
      obtain ⟨rfl, rfl⟩ := he
      obtain ⟨hk1, hk2⟩ := hk hname
      obtain ⟨q1, q2, q3⟩ := put_heads hwf ha h hs ks _ ws ht hk1 hk2
      have r := partsS_R hwf ha q3 hrest hp
      refine ⟨r.pre, r.ops, ho, fun esF hF br s hr => ?_⟩
      unfold actWS
      rw [hopen, openS_put _ _ _ (by simp; omega)]
      simp only
      rw [r.wr esF hF _ _ (by rw [wordsPut_len, put1_len]; simp; omega), q1]
  · cases he
theorem actS_R {f : Nat} {n : Int} {es : List Expr} {a : PAct} {es1 : List Expr} (h : InL l n) (he : actS l f n es = .inl (a, es1)) : AcR l n es a es1 := by
  unfold actS at he
  split at he
  · rename_i hs
    rcases actK_cases (headW l n) (tailK l n).length with ⟨e1, e2, e3⟩ | ⟨e1, e2, e3⟩ | ⟨e1, e2, e3⟩ | e1
    · rw [e1] at he
      rw [if_neg (by omega), if_pos rfl] at he
      refine actBody_R hwf ha h hs he (Int.le_refl _) [nth (tailK l n) 0] [(fm l (nth (tailK l n) 0)).text] (list_1 (by omega)) (by simp only [List.length_drop]; omega) (fun hn => ⟨by intro k hk; simp only [List.mem_singleton] at hk; subst hk; exact name_kind hwf ha hn, rfl⟩) fun e c br s => ?_
      rw [e2]; rfl
    · rw [e1] at he
      rw [if_neg (by omega), if_neg (by omega)] at he
      split at he
      · rename_i htk
        split at he
        · rename_i hd
          obtain ⟨t1, t2, t3⟩ := takes_word hwf ha htk
          refine actBody_R hwf ha h hs he t2 [nth (tailK l n) 0, nth (tailK l n) 1, nth (tailK l n) 2] [(fm l (nth (tailK l n) 0)).text, opWordS (takingOp l (nth (tailK l n) 1)), sideS (saysS l (nth (tailK l n) 2) wIn)] (list_3 (by omega)) (by simp only [List.length_drop]; omega) (fun hn => ?_) fun e c br s => ?_
          · have hdir : (fm l (nth (tailK l n) 2)).kind = 3 ∧ (fm l (nth (tailK l n) 2)).text = sideS (saysS l (nth (tailK l n) 2) wIn) := by
              cases hin : saysS l (nth (tailK l n) 2) wIn with
              | true => exact says_kind hin
              | false => rw [hin] at hd; exact says_kind (w := wOut) (by simpa using hd)
            refine ⟨?_, by simp only [List.map_cons, List.map_nil, t3, hdir.2]⟩
            intro k hk
            simp only [List.mem_cons, List.not_mem_nil, or_false] at hk
            rcases hk with rfl | rfl | rfl
            · exact name_kind hwf ha hn
            · exact t1
            · exact hdir.1
          · rw [e2]; rfl
        · cases he
      · cases he
    · rw [e1] at he
      rw [if_neg (by omega), if_neg (by omega)] at he
      split at he
      · rename_i htk
        split at he
        · rename_i hd
          obtain ⟨t1, t2, t3⟩ := takes_word hwf ha htk
          refine actBody_R hwf ha h hs he t2 [nth (tailK l n) 0, nth (tailK l n) 1, nth (tailK l n) 2] [(fm l (nth (tailK l n) 0)).text, opWordS (takingOp l (nth (tailK l n) 1)), sideS (saysS l (nth (tailK l n) 2) wIn)] (list_3 (by omega)) (by simp only [List.length_drop]; omega) (fun hn => ?_) fun e c br s => ?_
          · have hdir : (fm l (nth (tailK l n) 2)).kind = 3 ∧ (fm l (nth (tailK l n) 2)).text = sideS (saysS l (nth (tailK l n) 2) wIn) := by
              cases hin : saysS l (nth (tailK l n) 2) wIn with
              | true => exact says_kind hin
              | false => rw [hin] at hd; exact says_kind (w := wOut) (by simpa using hd)
            refine ⟨?_, by simp only [List.map_cons, List.map_nil, t3, hdir.2]⟩
            intro k hk
            simp only [List.mem_cons, List.not_mem_nil, or_false] at hk
            rcases hk with rfl | rfl | rfl
            · exact name_kind hwf ha hn
            · exact t1
            · exact hdir.1
          · rw [e2]; rfl
        · cases he
      · cases he
    · rw [e1] at he
      rw [if_pos rfl] at he
      cases he
  · cases he
theorem seqA_R {f : Nat} : ∀ (ks : List Int) (es : List Expr) (al : List PAct) (es1 : List Expr), (∀ k ∈ ks, InL l k) → seqS (actS l f) ks es = .inl (al, es1) → AcsR l ks es al es1
  | [], es, al, es1, _, h => by
    simp only [seqS, Sum.inl.injEq, Prod.mk.injEq] at h
    obtain ⟨rfl, rfl⟩ := h
    exact ⟨List.prefix_refl _, fun h => h, by simp, fun esF hF br s _ => rfl⟩
  | k :: r, es, al, es1, hin, h => by
    simp only [seqS] at h
    split at h
    · cases h
    · rename_i p es0 h0
      split at h
      · cases h
      · rename_i qs es2 h2
        simp only [Sum.inl.injEq, Prod.mk.injEq] at h
        obtain ⟨rfl, rfl⟩ := h
        have a := actS_R hwf ha (hin k (by simp)) h0
        have b := seqA_R r es0 qs es2 (fun j hj => hin j (by simp [hj])) h2
        refine ⟨a.pre.trans b.pre, fun h => b.ops (a.ops h), ?_, fun esF hF br s h3 => ?_⟩
        · intro x hx
          rcases List.mem_cons.1 hx with rfl | hx
          · exact a.op
          · exact b.op x hx
        · rw [manys_cons] at h3
          have w1 := a.wr esF (b.pre.trans hF) br s (by omega)
          have w2 := b.wr esF hF br (put l br k s) (by rw [put_len hwf (hin k (by simp))]; omega)
          simp only [actsWS, w1]
          rw [puts_cons]
          exact w2
theorem seqT_R {f : Nat} (ih : ∀ n s p s1, InL l n → stmtS l f n s = .inl (p, s1) → StR l n s p s1) : ∀ (ks : List Int) (s : ESt) (ps : List Int) (s1 : ESt), (∀ k ∈ ks, InL l k) → seqS (stmtS l f) ks s = .inl (ps, s1) → StsR l ks s ps s1
  | [], s, ps, s1, _, h => by
    simp only [seqS, Sum.inl.injEq, Prod.mk.injEq] at h
    obtain ⟨rfl, rfl⟩ := h
    exact ⟨List.prefix_refl _, List.prefix_refl _, fun h => h, fun h => h, fun esF ssF hF hG F br lim s _ _ _ => rfl⟩
  | k :: r, s, ps, s1, hin, h => by
    simp only [seqS] at h
    split at h
    · cases h
    · rename_i p s0 h0
      split at h
      · cases h
      · rename_i qs s2 h2
        simp only [Sum.inl.injEq, Prod.mk.injEq] at h
        obtain ⟨rfl, rfl⟩ := h
        have a := ih k s p s0 (hin k (by simp)) h0
        have b := seqT_R ih r s0 qs s2 (fun j hj => hin j (by simp [hj])) h2
        have hb := b.preS.length_le
        refine ⟨a.preE.trans b.preE, a.preS.trans b.preS, fun h => b.opsE (a.opsE h), fun h => b.opsS (a.opsS h), fun esF ssF hF hG F br lim t h1 h2 h3 => ?_⟩
        rw [manys_cons] at h3
        have hlt := a.lt
        have h0 := a.at0
        have w1 := a.wr esF ssF (b.preE.trans hF) (b.preS.trans hG) F br t (by omega) (by omega)
        have w2 := b.wr esF ssF hF hG F br lim (put l br k t) h1 h2 (by rw [put_len hwf (hin k (by simp))]; omega)
        unfold subWS at w2 ⊢
        simp only [kidsWS]
        rw [if_pos ⟨h0, by omega⟩, w1]
        simp only
        rw [puts_cons]
        exact w2
/-- an expression, statements in a body -/
theorem bodyS_R {f : Nat} (ih : ∀ n s p s1, InL l n → stmtS l f n s = .inl (p, s1) → StR l n s p s1) {n : Int} (h : InL l n) (hs : splitOk l n = true) {m : Int} {rest : List Int} {mk : Int → List Int → PStmt} {s s1 : ESt} {p : Int} (he : bodyS l f (stmtS l f) m rest mk s = .inl (p, s1))
    (ks : List Int) (ws : List ByteArray) (ht : tailK l n = ks ++ m :: rest) (hk : ∀ k ∈ ks, (fm l k).kind = 3) (hws : (ks.map fun k => (fm l k).text) = ws) (hq : ∀ e ps, SQ (mk e ps))
    (hkw : ∀ es e ps br lim g t, stmtKW es (mk e ps) br lim g t = andB (openS br (headW l n :: ws) t) fun b s1 => bodyWS es b e (g b) lim ps s1) : StR l n s p s1 := by
  unfold bodyS at he
  split at he
  · cases he
  · rename_i e es0 h0
    split at he
    · cases he
    · rename_i ps s2 h2
      simp only [addS, Sum.inl.injEq, Prod.mk.injEq] at he
      obtain ⟨rfl, rfl⟩ := he
      obtain ⟨q1, q2, q3⟩ := put_heads hwf ha h hs ks (m :: rest) ws ht hk hws
      have a := exprS_R hwf ha f _ _ _ _ (q3 m (by simp)) h0
      have b := seqT_R hwf ha ih rest (es0, s.2) ps s2 (fun k hk => q3 k (by simp [hk])) h2
      rw [manys_cons] at q2
      refine addS_R (a.pre.trans b.preE) b.preS (fun h => b.opsE (a.ops h)) b.opsS (hq e ps) fun esF ssF hF hG F br t hl hr => ?_
      rw [hkw, andB_open (by simp; omega), q1, puts_cons]
      unfold bodyWS
      rw [a.w1 (b.preE.trans hF) _ _ (by rw [wordsPut_len, put1_len]; simp; omega)]
      simp only
      exact b.wr esF ssF hF ((List.prefix_append _ _).trans hG) F _ _ _ hl (Int.le_refl _) (by rw [put_len hwf (q3 m (by simp)), wordsPut_len, put1_len]; simp; omega)
theorem put_open {n : Int} (h : InL l n) (h1 : (fm l n).kind = 1) (br : Int) (s : WSt) : put l br n s = puts l (s.1.length : Int) (fm l n).kids (put1 br openF s) ∧ many l n = 1 + manys l (fm l n).kids := by
  rw [putF_eq hwf h, many_eq hwf h, bare_open hwf ha h h1]
  exact ⟨rfl, rfl⟩
theorem stmtS_R : ∀ (f : Nat) (n : Int) (s : ESt) (p : Int) (s1 : ESt), InL l n → stmtS l f n s = .inl (p, s1) → StR l n s p s1
  | 0, n, s, p, s1, _, h => by simp [stmtS] at h
  | f + 1, n, s, p, s1, hin, h => by
    have ih := stmtS_R f
    unfold stmtS at h
    split at h
    · rename_i hs
      simp only at h
      rcases stmtK_cases (headW l n) (tailK l n).length with ⟨e1, e2, e3⟩ | ⟨e1, e2, e3⟩ | ⟨e1, e2, e3⟩ | ⟨e1, e2, e3⟩ | ⟨e1, e2, e3⟩ | ⟨e1, e2, e3⟩ | ⟨e1, e2, e3⟩ | e1
      · rw [e1, if_pos rfl] at h
        split at h
        · rename_i hname
          split at h
          · cases h
          · rename_i e es0 h0
            simp only [addS, Sum.inl.injEq, Prod.mk.injEq] at h
            obtain ⟨rfl, rfl⟩ := h
            have ht : tailK l n = [nth (tailK l n) 0] ++ [nth (tailK l n) 1] := by
              have := list_2 (show 2 ≤ (tailK l n).length by omega)
              rw [List.drop_eq_nil_of_le (by omega)] at this
              exact this
            obtain ⟨q1, q2, q3⟩ := put_heads hwf ha hin hs _ _ [(fm l (nth (tailK l n) 0)).text] ht (by intro k hk; simp only [List.mem_singleton] at hk; subst hk; exact name_kind hwf ha hname) rfl
            have a := exprS_R hwf ha f _ _ _ _ (q3 _ (by simp)) h0
            rw [manys_cons, manys_nil] at q2
            refine addS_R a.pre (List.prefix_refl _) a.ops (fun h => h) ⟨Int.le_refl _, by intro a ha; cases ha⟩ fun esF ssF hF hG F br t hl hr => ?_
            show andB (openS br [wSet, _] t) (fun b s1 => exprW1 esF b e s1) = _
            rw [← e2, andB_open (by simp; simp at q2; omega), q1, puts_cons, puts_nil]
            exact a.w1 hF _ _ (by rw [wordsPut_len, put1_len]; simp at q2 ⊢; omega)
        · cases h
      · rw [e1, if_neg (by omega), if_pos rfl] at h
        split at h
        · rename_i htk
          split at h
          · rename_i hname
            split at h
            · cases h
            · rename_i e c es0 h0
              simp only [addS, Sum.inl.injEq, Prod.mk.injEq] at h
              obtain ⟨rfl, rfl⟩ := h
              obtain ⟨t1, t2, t3⟩ := takes_word hwf ha htk
              obtain ⟨q1, q2, q3⟩ := put_heads hwf ha hin hs [nth (tailK l n) 0, nth (tailK l n) 1] ((tailK l n).drop 2) [(fm l (nth (tailK l n) 0)).text, opWordS (takingOp l (nth (tailK l n) 1))] (list_2 (by omega)) (by intro k hk; simp only [List.mem_cons, List.not_mem_nil, or_false] at hk; rcases hk with rfl | rfl; exact name_kind hwf ha hname; exact t1) (by simp only [List.map_cons, List.map_nil, t3])
              have a := partsS_R hwf ha q3 (by simp only [List.length_drop]; omega) h0
              refine addS_R a.pre (List.prefix_refl _) a.ops (fun h => h) ⟨t2, by intro a ha; cases ha⟩ fun esF ssF hF hG F br t hl hr => ?_
              show andB (openS br [wFold, _, _] t) (fun b s1 => partsWS esF b e c s1) = _
              rw [← e2, andB_open (by simp; simp at q2; omega), q1]
              exact a.wr esF hF _ _ (by rw [wordsPut_len, put1_len]; simp at q2 ⊢; omega)
          · cases h
        · cases h
      · rw [e1, if_neg (by omega), if_neg (by omega), if_pos rfl] at h
        split at h
        · cases h
        · rename_i acs es0 h0
          simp only [addS, Sum.inl.injEq, Prod.mk.injEq] at h
          obtain ⟨rfl, rfl⟩ := h
          obtain ⟨q1, q2, q3⟩ := put_heads hwf ha hin hs [] (tailK l n) [] rfl (by simp) rfl
          have a := seqA_R hwf ha (tailK l n) _ _ _ q3 h0
          refine addS_R a.pre (List.prefix_refl _) a.ops (fun h => h) ⟨Int.le_refl _, a.op⟩ fun esF ssF hF hG F br t hl hr => ?_
          show andB (openS br [wEach] t) (fun b s1 => actsWS esF b acs s1) = _
          rw [← e2, andB_open (by simp; simp at q2; omega), q1]
          exact a.wr esF hF _ _ (by rw [wordsPut_len, put1_len]; simp at q2 ⊢; omega)
      · rw [e1, if_neg (by omega), if_neg (by omega), if_neg (by omega), if_pos rfl] at h
        split at h
        · rename_i hkk
          split at h
          · cases h
          · rename_i e es0 h0
            split at h
            · cases h
            · rename_i ts s2 h2
              split at h
              · cases h
              · rename_i fs s3 h3
                simp only [addS, Sum.inl.injEq, Prod.mk.injEq] at h
                obtain ⟨rfl, rfl⟩ := h
                have ht : tailK l n = [] ++ [nth (tailK l n) 0, nth (tailK l n) 1, nth (tailK l n) 2] := by
                  have := list_3 (show 3 ≤ (tailK l n).length by omega)
                  rw [List.drop_eq_nil_of_le (by omega)] at this
                  exact this
                obtain ⟨q1, q2, q3⟩ := put_heads hwf ha hin hs [] _ [] ht (by simp) rfl
                have i0 := q3 (nth (tailK l n) 0) (by simp)
                have i1 := q3 (nth (tailK l n) 1) (by simp)
                have i2 := q3 (nth (tailK l n) 2) (by simp)
                have a := exprS_R hwf ha f _ _ _ _ i0 h0
                have b := seqT_R hwf ha ih _ _ _ _ (i1.kid hwf) h2
                have c := seqT_R hwf ha ih _ _ _ _ (i2.kid hwf) h3
                rw [manys_cons, manys_cons, manys_cons, manys_nil, (put_open hwf ha i1 hkk.1 0 ([], [])).2, (put_open hwf ha i2 hkk.2 0 ([], [])).2] at q2
                simp only [List.length_nil] at q2
                have hcl := c.preS.length_le
                refine addS_R ((a.pre.trans b.preE).trans c.preE) (b.preS.trans c.preS) (fun h => c.opsE (b.opsE (a.ops h))) (fun h => c.opsS (b.opsS h)) ⟨Int.le_refl _, by intro a ha; cases ha⟩ fun esF ssF hF hG F br t hl hr => ?_
                have hG2 := (List.prefix_append _ _).trans hG
                obtain ⟨T1, hT1⟩ : ∃ T1, wordsPut (t.1.length : Int) [headW l n] (put1 br openF t) = T1 := ⟨_, rfl⟩
                have r1 : T1.1.length = t.1.length + 2 := by rw [← hT1, wordsPut_len, put1_len]; rfl
                have w0 := a.w1 ((b.preE.trans c.preE).trans hF) (t.1.length : Int) T1 (by omega)
                obtain ⟨U0, hU0⟩ : ∃ U0, put l (t.1.length : Int) (nth (tailK l n) 0) T1 = U0 := ⟨_, rfl⟩
                have r0 : U0.1.length = T1.1.length + many l (nth (tailK l n) 0) := by rw [← hU0, put_len hwf i0]
                have w1 := b.wr esF ssF (c.preE.trans hF) (c.preS.trans hG2) F (U0.1.length : Int) (s3.2.length : Int) (put1 (t.1.length : Int) openF U0) (by omega) (by omega) (by rw [put1_len]; omega)
                rw [← (put_open hwf ha i1 hkk.1 (t.1.length : Int) U0).1] at w1
                obtain ⟨U1, hU1⟩ : ∃ U1, put l (t.1.length : Int) (nth (tailK l n) 1) U0 = U1 := ⟨_, rfl⟩
                have r2 : U1.1.length = U0.1.length + (1 + manys l (fm l (nth (tailK l n) 1)).kids) := by rw [← hU1, put_len hwf i1, (put_open hwf ha i1 hkk.1 0 ([], [])).2]
                have w2 := c.wr esF ssF hF hG2 F (U1.1.length : Int) (s3.2.length : Int) (put1 (t.1.length : Int) openF U1) hl (Int.le_refl _) (by rw [put1_len]; omega)
                rw [← (put_open hwf ha i2 hkk.2 (t.1.length : Int) U1).1] at w2
                rw [q1, puts_cons, puts_cons, puts_cons, puts_nil]
                rw [hU0] at w0
                rw [hU1] at w1
                have key : ∀ (g : Int → Int → WSt → Option WSt) (lim : Int), (∀ b, g b = fun k t => stmtWS esF ssF F b k t) → lim = (s3.2.length : Int) →
                    (andB (openS br [wIf] t) fun b s1 => andS (exprW1 esF b e s1) fun s2 => andB (openS b [] s2) fun b1 s3 => andS (subWS (g b1) lim ts s3) fun s4 => andB (openS b [] s4) fun b2 s5 => subWS (g b2) lim fs s5) = some (put l (t.1.length : Int) (nth (tailK l n) 2) U1) := by
                  intro g lim hg hlim
                  rw [andB_open (by simp; omega), ← e2, hT1, andS_of w0, andB_open (by simp; omega), hg, hlim]
                  have e3 : ∀ (m : Int) (u : WSt), wordsPut m [] u = u := fun _ _ => rfl
                  rw [e3, andS_of w1, andB_open (by simp; omega), hg, e3]
                  exact w2
                rw [hT1, hU0, hU1]
                exact key _ _ (fun b => rfl) rfl
        · cases h
      · rw [e1, if_neg (by omega), if_neg (by omega), if_neg (by omega), if_neg (by omega), if_pos (by omega)] at h
        exact bodyS_R hwf ha ih hin hs h [] [] (list_1 (by omega)) (by simp) rfl (fun e ps => ⟨Int.le_refl _, by intro a ha; cases ha⟩) fun es e ps br lim g t => by rw [e2]; rfl
      · rw [e1, if_neg (by omega), if_neg (by omega), if_neg (by omega), if_neg (by omega), if_pos (by omega)] at h
        exact bodyS_R hwf ha ih hin hs h [] [] (list_1 (by omega)) (by simp) rfl (fun e ps => ⟨Int.le_refl _, by intro a ha; cases ha⟩) fun es e ps br lim g t => by rw [e2]; rfl
      · rw [e1, if_neg (by omega), if_neg (by omega), if_neg (by omega), if_neg (by omega), if_neg (by omega), if_pos rfl] at h
        split at h
        · rename_i hname
          exact bodyS_R hwf ha ih hin hs h [nth (tailK l n) 0] [(fm l (nth (tailK l n) 0)).text] (list_2 (by omega)) (by intro k hk; simp only [List.mem_singleton] at hk; subst hk; exact name_kind hwf ha hname) rfl (fun e ps => ⟨Int.le_refl _, by intro a ha; cases ha⟩) fun es e ps br lim g t => by rw [e2]; rfl
        · cases h
      · rw [e1, if_neg (by omega), if_neg (by omega), if_neg (by omega), if_neg (by omega), if_neg (by omega), if_neg (by omega)] at h
        cases h
    · cases h
end
end Go.Proofs.Ytgaginegcjpddaa
/- A program that was read is written as it stood. -/
set_option linter.unusedSectionVars false
namespace Go.Proofs.Ytgaginegcjpddaa
/-! ### what is wrong has a number -/
def Wrong {α : Type} (r : α ⊕ Wr) : Prop := ∀ e, r = .inr e → e.2 ≠ 0
theorem Wrong.inl {α : Type} (a : α) : Wrong (.inl a : α ⊕ Wr) := by intro e h; cases h
theorem Wrong.at_ {α : Type} (l : List Form) (n : Int) : Wrong (.inr (wrongS l n) : α ⊕ Wr) := by
  intro e h; cases h; show (8 : Int) ≠ 0; decide
theorem Wrong.pass {α β : Type} {r : α ⊕ Wr} (h : Wrong r) {e : Wr} (he : r = .inr e) : Wrong (.inr e : β ⊕ Wr) := by
  intro e' h'; cases h'; exact h e he
theorem leafS_wr (l : List Form) (w : ByteArray) (kids : List Int) : Wrong (leafS l w kids) := by
  unfold leafS
  repeat' split
  all_goals first | exact Wrong.inl _ | exact Wrong.at_ _ _
theorem seqS_wr {σ α : Type} {g : Int → σ → (α × σ) ⊕ Wr} (hg : ∀ k s, Wrong (g k s)) : ∀ (ks : List Int) (s : σ), Wrong (seqS g ks s)
  | [], s => Wrong.inl _
  | k :: r, s => by
    unfold seqS
    split
    · rename_i e he; exact (hg k s).pass he
    · split
      · rename_i e he; exact (seqS_wr hg r _).pass he
      · exact Wrong.inl _
theorem exprS_wr (l : List Form) : ∀ f n es, Wrong (exprS l f n es)
  | 0, n, es => Wrong.at_ _ _
  | f + 1, n, es => by
    unfold exprS
    split
    · exact Wrong.inl _
    · split
      · split
        · exact Wrong.inl _
        · split
          · exact Wrong.inl _
          · exact Wrong.at_ _ _
      · split
        · split
          · rename_i e he; exact (leafS_wr l _ _).pass he
          · exact Wrong.inl _
          · split
            · split
              · rename_i e he; exact (seqS_wr (exprS_wr l f) _ _).pass he
              · exact Wrong.inl _
            · exact Wrong.at_ _ _
        · exact Wrong.at_ _ _
theorem partsS_wr (l : List Form) (f : Nat) (ks : List Int) (es : List Expr) : Wrong (partsS l f ks es) := by
  unfold partsS
  split
  · rename_i e he; exact (exprS_wr l f _ _).pass he
  · split
    · split
      · rename_i e he; exact (exprS_wr l f _ _).pass he
      · exact Wrong.inl _
    · exact Wrong.inl _
theorem actB_wr (l : List Form) (f : Nat) (ks : List Int) (k o : Int) (inn : Bool) (fr : Nat) (es : List Expr) : Wrong (actBody l f ks k o inn fr es) := by
  unfold actBody
  split
  · split
    · rename_i e he; exact (partsS_wr l f _ _).pass he
    · exact Wrong.inl _
  · exact Wrong.at_ _ _
theorem actS_wr (l : List Form) (f : Nat) (n : Int) (es : List Expr) : Wrong (actS l f n es) := by
  unfold actS
  repeat' split
  all_goals first | exact Wrong.at_ _ _ | exact actB_wr _ _ _ _ _ _ _ _
theorem bodyS_wr (l : List Form) (f : Nat) {g : Int → ESt → (Int × ESt) ⊕ Wr} (hg : ∀ k s, Wrong (g k s)) (n : Int) (rest : List Int) (mk : Int → List Int → PStmt) (s : ESt) : Wrong (bodyS l f g n rest mk s) := by
  unfold bodyS
  split
  · rename_i e he; exact (exprS_wr l f _ _).pass he
  · split
    · rename_i e he; exact (seqS_wr hg _ _).pass he
    · exact Wrong.inl _
theorem stmtS_wr (l : List Form) : ∀ f n s, Wrong (stmtS l f n s)
  | 0, n, s => Wrong.at_ _ _
  | f + 1, n, s => by
    have ih := stmtS_wr l f
    unfold stmtS
    split
    · simp only
      split
      · split
        · split
          · rename_i e he; exact (exprS_wr l f _ _).pass he
          · exact Wrong.inl _
        · exact Wrong.at_ _ _
      · split
        · split
          · split
            · split
              · rename_i e he; exact (partsS_wr l f _ _).pass he
              · exact Wrong.inl _
            · exact Wrong.at_ _ _
          · exact Wrong.at_ _ _
        · split
          · split
            · rename_i e he; exact (seqS_wr (actS_wr l f) _ _).pass he
            · exact Wrong.inl _
          · split
            · split
              · split
                · rename_i e he; exact (exprS_wr l f _ _).pass he
                · split
                  · rename_i e he; exact (seqS_wr ih _ _).pass he
                  · split
                    · rename_i e he; exact (seqS_wr ih _ _).pass he
                    · exact Wrong.inl _
              · exact Wrong.at_ _ _
            · split
              · exact bodyS_wr l f ih _ _ _ _
              · split
                · split
                  · exact bodyS_wr l f ih _ _ _ _
                  · exact Wrong.at_ _ _
                · exact Wrong.at_ _ _
    · exact Wrong.at_ _ _
theorem lineS_wr (l : List Form) (f : Nat) (n : Int) (p : Prg) : Wrong (lineS l f n p) := by
  unfold lineS
  split
  · split
    · split
      · rename_i e he; exact (stmtS_wr l f _ _).pass he
      · exact Wrong.inl _
    · split
      · split
        · intro e h; cases h; show (4 : Int) ≠ 0; decide
        · split
          · exact Wrong.inl _
          · exact Wrong.at_ _ _
      · exact Wrong.at_ _ _
  · exact Wrong.at_ _ _
theorem linesS_wr (l : List Form) (f : Nat) : ∀ (ks : List Int) (p : Prg), Wrong (linesS l f ks p)
  | [], p => Wrong.inl _
  | k :: r, p => by
    unfold linesS
    split
    · rename_i e he; exact (lineS_wr l f k p).pass he
    · exact linesS_wr l f r _
theorem readS_ok {l : List Form} {top : List Int} (h : (readS l top).2.2 = 0) : rightS l top = true ∧ ∃ p, linesS l (l.length + 1) top Prg.none = .inl p ∧ readS l top = (p, 0, 0) := by
  unfold readS at h ⊢
  split at h
  · rename_i hr
    rw [if_pos hr]
    split at h
    · rename_i p hp
      exact ⟨hr, p, hp, rfl⟩
    · rename_i e he
      exact absurd h (linesS_wr l _ top _ e he)
  · cases h
/-! ### lines -/
structure LnR (l : List Form) (ks : List Int) (p q : Prg) : Prop where
  preE : p.exprs <+: q.exprs
  preS : p.stmts <+: q.stmts
  opsE : (∀ x ∈ p.exprs, 0 ≤ x.op) → ∀ x ∈ q.exprs, 0 ≤ x.op
  opsS : (∀ x ∈ p.stmts, SQ x) → ∀ x ∈ q.stmts, SQ x
  wr : ∀ esF ssF, q.exprs <+: esF → q.stmts <+: ssF → ∀ sd s, declsWS p.decls ([], []) = some sd → subWS (fun k t => stmtWS esF ssF ssF.length (-1) k t) (ssF.length : Int) p.main sd = some s → s.1.length + manys l ks ≤ 400 →
    ∃ sd', declsWS q.decls ([], []) = some sd' ∧ subWS (fun k t => stmtWS esF ssF ssF.length (-1) k t) (ssF.length : Int) q.main sd' = some (puts l (-1) ks s)
theorem declsWS_app : ∀ (a b : List PDecl) (s : WSt), declsWS (a ++ b) s = (declsWS a s).bind (declsWS b)
  | [], b, s => rfl
  | d :: a, b, s => by
    simp only [List.cons_append, declsWS]
    split
    · rfl
    · exact declsWS_app a b _
theorem kidsWS_app (g : Int → WSt → Option WSt) : ∀ (a b : List Int) (s : WSt), kidsWS g (a ++ b) s = (kidsWS g a s).bind (kidsWS g b)
  | [], b, s => rfl
  | d :: a, b, s => by
    simp only [List.cons_append, kidsWS]
    split
    · rfl
    · exact kidsWS_app g a b _
theorem declK_cases {w : ByteArray} (h : (declK w).1 ≠ 0) : (w, declK w) ∈ declL := by
  unfold declK at h ⊢
  unfold declL
  repeat' split at h
  all_goals simp_all
section
variable {l : List Form} (hwf : WF l) (ha : ∀ f ∈ l, aloneS f = true)
include hwf ha
theorem lineS_R {f : Nat} {n : Int} {p q : Prg} (hin : InL l n) (h : lineS l f n p = .inl q) : LnR l [n] p q := by
  unfold lineS at h
  split at h
  · rename_i hs
    split at h
    · rename_i hd
      split at h
      · cases h
      · rename_i m s1 h1
        simp only [Sum.inl.injEq] at h
        subst h
        have a := stmtS_R hwf ha f n (p.exprs, p.stmts) m s1 hin h1
        refine ⟨a.preE, a.preS, a.opsE, a.opsS, fun esF ssF hF hG sd s hsd hsm hr => ⟨sd, hsd, ?_⟩⟩
        rw [manys_cons, manys_nil] at hr
        have hlt := a.lt
        have h0 := a.at0
        have hgl := hG.length_le
        simp only at hgl
        unfold subWS at hsm ⊢
        simp only
        rw [kidsWS_app, hsm]
        simp only [Option.bind_some, kidsWS]
        rw [if_pos ⟨h0, by omega⟩, a.wr esF ssF hF hG ssF.length (-1) s (by omega) (by omega)]
        rfl
    · rename_i hd
      split at h
      · rename_i hc
        split at h
        · cases h
        · split at h
          · rename_i hname
            simp only [Sum.inl.injEq] at h
            subst h
            have hm : p.main = [] := List.eq_nil_of_length_eq_zero hc.2
            refine ⟨List.prefix_refl _, List.prefix_refl _, fun h => h, fun h => h, fun esF ssF hF hG sd s hsd hsm hr => ?_⟩
            have ht : tailK l n = [nth (tailK l n) 0] ++ [] := list1 hc.1
            obtain ⟨q1, q2, q3⟩ := put_heads hwf ha hin hs _ [] [(fm l (nth (tailK l n) 0)).text] ht (by intro k hk; simp only [List.mem_singleton] at hk; subst hk; exact name_kind hwf ha hname) rfl
            rw [hm] at hsm
            have hss : sd = s := by simpa [subWS, kidsWS] using hsm
            subst hss
            rw [manys_cons, manys_nil, q2, manys_nil] at hr
            simp only [List.length_cons, List.length_nil] at hr
            refine ⟨put l (-1) n sd, ?_, ?_⟩
            · simp only
              rw [declsWS_app, hsd]
              simp only [Option.bind_some, declsWS, declareS]
              have hw : declWord ((declK (headW l n)).1, (declK (headW l n)).2) = some (headW l n) := declWord_some (declK_cases hd)
              rw [hw]
              simp only
              rw [sndS_put _ _ _ (by simp; omega), q1]
              rfl
            · simp only
              rw [hm]
              rfl
          · cases h
      · cases h
  · cases h
theorem linesS_R {f : Nat} : ∀ (ks : List Int) (p q : Prg), (∀ k ∈ ks, InL l k) → linesS l f ks p = .inl q → LnR l ks p q
  | [], p, q, _, h => by
    simp only [linesS, Sum.inl.injEq] at h
    subst h
    exact ⟨List.prefix_refl _, List.prefix_refl _, fun h => h, fun h => h, fun esF ssF hF hG sd s hsd hsm hr => ⟨sd, hsd, hsm⟩⟩
  | k :: r, p, q, hin, h => by
    unfold linesS at h
    split at h
    · cases h
    · rename_i p1 h1
      have a := lineS_R hwf ha (hin k (by simp)) h1
      have b := linesS_R r p1 q (fun j hj => hin j (by simp [hj])) h
      refine ⟨a.preE.trans b.preE, a.preS.trans b.preS, fun h => b.opsE (a.opsE h), fun h => b.opsS (a.opsS h), fun esF ssF hF hG sd s hsd hsm hr => ?_⟩
      rw [manys_cons] at hr
      obtain ⟨sd1, g1, g2⟩ := a.wr esF ssF (b.preE.trans hF) (b.preS.trans hG) sd s hsd hsm (by rw [manys_cons, manys_nil]; omega)
      rw [puts_cons, puts_nil] at g2
      obtain ⟨sd2, g3, g4⟩ := b.wr esF ssF hF hG sd1 _ g1 g2 (by rw [put_len hwf (hin k (by simp))]; omega)
      exact ⟨sd2, g3, by rw [puts_cons]; exact g4⟩
end
/-- what was read can be written: the same forms, but for where they stood -/
theorem read_written {l : List Form} {top : List Int} {p : Prg} (hr : rightS l top = true) (h : linesS l (l.length + 1) top Prg.none = .inl p) : ∃ s, writtenS p = some s ∧ SameF l s.1 ∧ s.2 = top ∧ (∀ x ∈ p.exprs, 0 ≤ x.op) ∧ ∀ x ∈ p.stmts, SQ x := by
  have hf := right_facts hr
  have hin : ∀ k ∈ top, InL l k := fun k hk => (hf.topIn k hk).inL
  have a := linesS_R hf.wf hf.alone top _ _ hin h
  obtain ⟨s1, s2, s3⟩ := puts_same hr
  have h4 := hf.len
  obtain ⟨sd, g1, g2⟩ := a.wr p.exprs p.stmts (List.prefix_refl _) (List.prefix_refl _) ([], []) ([], []) rfl rfl (by rw [s3]; simpa using h4)
  refine ⟨puts l (-1) top ([], []), ?_, s1, s2, a.opsE (by intro x hx; cases hx), a.opsS (by intro x hx; cases hx)⟩
  unfold writtenS
  rw [g1]
  exact g2
end Go.Proofs.Ytgaginegcjpddaa
