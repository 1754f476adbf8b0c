/- Tokens of forms' text, parsed again: the same forms, but for where they stood. -/
import Derived.Test.YtgaginegcjpddaaQb16
import Derived.Deep.Slices
import Derived.Deep.Fields
import Derived.ProofKit
import Derived.OpenShut
import Derived.KernelRfl
import Derived.Test.YtgaginegcjpddaaRows
import Derived.WalkKit
import Derived.ChangeOld
import Derived.ChangeMaps5
import Derived.Below
import Derived.SizedLaws
set_option linter.unusedVariables false
set_option linter.unusedSimpArgs false
namespace Go.Proofs.Ytgaginegcjpddaa
def SameX (a b : Form) : Prop := a.kind = b.kind ∧ a.text = b.text ∧ a.num = b.num ∧ a.kids = b.kids
theorem SameX.trans {a b c : Form} (h : SameX a b) (k : SameX b c) : SameX a c := ⟨h.1.trans k.1, h.2.1.trans k.2.1, h.2.2.1.trans k.2.2.1, h.2.2.2.trans k.2.2.2⟩
theorem SameX.refl (a : Form) : SameX a a := ⟨rfl, rfl, rfl, rfl⟩
theorem AllFit.cut {is : List Item} : ∀ {js : List Item} {ts : List Token}, AllFit (is ++ js) ts → ∃ a b, ts = a ++ b ∧ AllFit is a ∧ AllFit js b := by
  induction is with
  | nil => intro js ts h; exact ⟨[], ts, rfl, .nil, h⟩
  | cons i is ih =>
    intro js ts h
    cases h with
    | cons h1 h2 =>
      obtain ⟨a, b, rfl, h3, h4⟩ := ih h2
      exact ⟨_ :: a, b, rfl, .cons h1 h3, h4⟩
theorem AllFit.head {i : Item} {is : List Item} {ts : List Token} (h : AllFit (i :: is) ts) : ∃ t r, ts = t :: r ∧ Fits i t ∧ AllFit is r := by
  cases h with
  | cons h1 h2 => exact ⟨_, _, rfl, h1, h2⟩
theorem AllFit.one {i : Item} {ts : List Token} (h : AllFit [i] ts) : ∃ t, ts = [t] ∧ Fits i t := by
  obtain ⟨t, r, rfl, h1, h2⟩ := h.head
  cases h2
  exact ⟨t, rfl, h1⟩
theorem nth_set_ne2 {α : Type} [Inhabited α] {l : List α} {i j : Nat} {a : α} (h : j ≠ i) : nth (l.set j a) i = nth l i := by
  simp [nth, List.getD_eq_getElem?_getD, List.getElem?_set_ne h]
theorem nth_set_eq2 {α : Type} [Inhabited α] {l : List α} {i : Nat} {a : α} (h : i < l.length) : nth (l.set i a) i = a := by
  rw [nth_set h, if_pos rfl]
/-! ### how deep forms are -/
theorem deepS_keep (l : List Form) (i : Nat) : ∀ d j, l.length - i ≤ j → j + d ≤ l.length → nth (deepS l (j + d)) i = nth (deepS l j) i
  | 0, j, _, _ => rfl
  | d + 1, j, h, h2 => by
    rw [← deepS_keep l i d j h (by omega)]
    show nth (deepS l ((j + d) + 1)) i = _
    conv => lhs; unfold deepS
    split
    · rw [nth_set_ne2 (by omega)]
    · rfl
theorem maxK_le (d : List Int) (ks : List Int) (k : Int) (hk : k ∈ ks) : nth d k.toNat ≤ maxK d ks := by
  have key : ∀ (ks : List Int) (a : Int), a ≤ ks.foldl (fun a k => max a (nth d k.toNat)) a ∧ ∀ k ∈ ks, nth d k.toNat ≤ ks.foldl (fun a k => max a (nth d k.toNat)) a := by
    intro ks
    induction ks with
    | nil => intro a; simp
    | cons x r ih =>
      intro a
      obtain ⟨h1, h2⟩ := ih (max a (nth d x.toNat))
      simp only [List.foldl_cons]
      refine ⟨by omega, fun k hk => ?_⟩
      rcases List.mem_cons.1 hk with rfl | hk
      · omega
      · exact h2 k hk
  exact (key ks 0).2 k hk
theorem deep_kid {l : List Form} (hwf : WF l) {n : Nat} (hn : n < l.length) (h1 : (nth l n).kind = 1) (h12 : nth (deepS l l.length) n ≤ 12) : 1 ≤ nth (deepS l l.length) n ∧ ∀ k ∈ (nth l n).kids, nth (deepS l l.length) k.toNat + 1 ≤ nth (deepS l l.length) n := by
  obtain ⟨j, hj⟩ : ∃ j, l.length = n + 1 + j := ⟨l.length - (n + 1), by omega⟩
  have e0 : l.length - 1 - j = n := by omega
  have e1 : nth (deepS l l.length) n = nth (deepS l (j + 1)) n := by
    have := deepS_keep l n n (j + 1) (by omega) (by omega)
    rw [← this]; congr 2; omega
  have e2 : nth (deepS l (j + 1)) n = min (maxK (deepS l j) (behind l.length (n : Int) (nth l n).kids) + 1) 13 := by
    conv => lhs; unfold deepS
    rw [e0, if_pos h1, nth_set_eq2 (by rw [deepS_len]; exact hn)]
  have hb := (maxK_bd (deepS l j) (deepS_bd l j) (behind l.length (n : Int) (nth l n).kids)).1
  rw [e1, e2] at h12 ⊢
  refine ⟨by omega, fun k hk => ?_⟩
  have hw := hwf n hn k hk
  have hm : k ∈ behind l.length (n : Int) (nth l n).kids := by
    unfold behind
    rw [List.mem_filter]
    refine ⟨hk, ?_⟩
    simp only [Bool.and_eq_true, decide_eq_true_eq]
    omega
  have hle := maxK_le (deepS l j) _ k hm
  have e3 : nth (deepS l l.length) k.toNat = nth (deepS l j) k.toNat := by
    have := deepS_keep l k.toNat (n + 1) j (by omega) (by omega)
    rw [← this]; congr 2; omega
  omega
theorem top_deep {l : List Form} {top : List Int} (h : depthS l top ≤ 12) : ∀ k ∈ top, 0 ≤ k → k < l.length → nth (deepS l l.length) k.toNat ≤ 12 := by
  have key : ∀ (d ks : List Int) (a : Int), a ≤ ks.foldl (fun (a n : Int) => if 0 ≤ n ∧ n < d.length then max a (nth d n.toNat) else a) a ∧ ∀ k ∈ ks, 0 ≤ k → k < d.length → nth d k.toNat ≤ ks.foldl (fun (a n : Int) => if 0 ≤ n ∧ n < d.length then max a (nth d n.toNat) else a) a := by
    intro d ks
    induction ks with
    | nil => intro a; simp
    | cons x r ih =>
      intro a
      simp only [List.foldl_cons]
      by_cases hx : 0 ≤ x ∧ x < d.length
      · rw [if_pos hx]
        obtain ⟨h1, h2⟩ := ih (max a (nth d x.toNat))
        refine ⟨by omega, fun k hk ha hb => ?_⟩
        rcases List.mem_cons.1 hk with rfl | hk
        · omega
        · exact h2 k hk ha hb
      · rw [if_neg hx]
        obtain ⟨h1, h2⟩ := ih a
        refine ⟨h1, fun k hk ha hb => ?_⟩
        rcases List.mem_cons.1 hk with rfl | hk
        · exact absurd ⟨ha, hb⟩ hx
        · exact h2 k hk ha hb
  intro k hk h0 hl
  have := (key (deepS l l.length) top 0).2 k hk h0 (by rw [deepS_len]; exact hl)
  unfold depthS mostS at h
  omega
/-! ### the parser's steps -/
structure PGrow (l : List Form) (s s' : PSt) (ps : List Int) (next nx : Int) : Prop where
  opn : s'.opn = s.opn
  top : s'.top = if s.opn.length = 0 then s.top ++ ps else s.top
  len : (s'.l.length : Int) = nx
  new : ∀ k : Nat, next ≤ k → (k : Int) < nx → SameX (nth s'.l k) (nth l k)
  old : ∀ k : Nat, (k : Int) < next → SameX (nth s'.l k) { nth s.l k with kids := (nth s.l k).kids ++ if 0 < s.opn.length ∧ (k : Int) = last0 s.opn then ps else [] }
def LastIn (s : PSt) : Prop := s.opn.length = 0 ∨ (0 ≤ last0 s.opn ∧ last0 s.opn < s.l.length)
theorem nth_app {α : Type} [Inhabited α] {l : List α} {a : α} {k : Nat} (h : k < l.length) : nth (l ++ [a]) k = nth l k := by
  simp [nth, List.getD_eq_getElem?_getD, List.getElem?_append_left h]
theorem nth_app_last {α : Type} [Inhabited α] {l : List α} {a : α} : nth (l ++ [a]) l.length = a := by
  simp [nth, List.getD_eq_getElem?_getD]
theorem add1_grow (s : PSt) (f : Form) (h : LastIn s) :
    (add1 s f).opn = s.opn ∧ (add1 s f).top = (if s.opn.length = 0 then s.top ++ [(s.l.length : Int)] else s.top) ∧ (add1 s f).l.length = s.l.length + 1 ∧ SameX (nth (add1 s f).l s.l.length) f ∧
      ∀ k < s.l.length, SameX (nth (add1 s f).l k) { nth s.l k with kids := (nth s.l k).kids ++ if 0 < s.opn.length ∧ (k : Int) = last0 s.opn then [(s.l.length : Int)] else [] } := by
  unfold add1
  by_cases h0 : s.opn.length = 0
  · rw [if_pos h0]
    refine ⟨rfl, by rw [if_pos h0], by simp, ?_, fun k hk => ?_⟩
    · simp only [nth_app_last]; exact SameX.refl _
    · simp only [nth_app hk]
      rw [if_neg (by omega)]
      simp only [List.append_nil]
      exact SameX.refl _
  · rw [if_neg h0]
    have hl := h.resolve_left h0
    have hlt : (last0 s.opn).toNat < s.l.length := by omega
    refine ⟨rfl, by rw [if_neg h0], by simp, ?_, fun k hk => ?_⟩
    · simp only []
      rw [nth_set_ne2 (by omega), nth_app_last]; exact SameX.refl _
    · simp only []
      by_cases hk2 : (k : Int) = last0 s.opn
      · have e : k = (last0 s.opn).toNat := by omega
        rw [if_pos ⟨by omega, hk2⟩, ← e, nth_set_eq2 (by simp; omega), nth_app hk]
        exact SameX.refl _
      · rw [if_neg (fun c => hk2 c.2), nth_set_ne2 (by omega), nth_app hk]
        simp only [List.append_nil]
        exact SameX.refl _
theorem PGrow.more {l : List Form} {s s1 s2 : PSt} {n nx1 nx : Int} {r : List Int} (h : PGrow l s s1 [n] n nx1) (k : PGrow l s1 s2 r nx1 nx) (hl : s.opn.length = 0 ∨ last0 s.opn < n) (h1 : n ≤ nx1) : PGrow l s s2 (n :: r) n nx := by
  have ho := h.opn
  refine ⟨k.opn.trans ho, ?_, k.len, fun j hj hj2 => ?_, fun j hj => ?_⟩
  · rw [k.top, ho, h.top]
    split <;> simp
  · by_cases hc : (j : Int) < nx1
    · have q := k.old j hc
      rw [ho, if_neg (by omega)] at q
      simp only [List.append_nil] at q
      exact q.trans (h.new j hj hc)
    · exact k.new j (by omega) hj2
  · have q := k.old j (by omega)
    have q1 := h.old j hj
    rw [ho] at q
    obtain ⟨a1, a2, a3, a4⟩ := q
    obtain ⟨b1, b2, b3, b4⟩ := q1
    simp only at a1 a2 a3 a4 b1 b2 b3 b4
    refine ⟨a1.trans b1, a2.trans b2, a3.trans b3, ?_⟩
    rw [a4, b4]
    simp only []
    split <;> simp
theorem empty_of {b : ByteArray} (h : b.toList.isEmpty = true) : b = ⟨#[]⟩ := by
  rw [ByteArray.toList_eq] at h
  have h2 : b.data.toList = [] := by simpa using h
  cases b with
  | mk d => rw [show d = #[] from by simpa using h2]
theorem alone_leaf {f : Form} (h : aloneS f = true) (h1 : f.kind ≠ 1) : f.kids = [] ∧ (f.kind = 3 ∧ f.num = 0 ∨ f.kind = 4 ∧ f.text = ⟨#[]⟩) := by
  unfold aloneS at h
  split at h
  · rename_i h2; exact absurd (by simpa using h2) h1
  · split at h
    · rename_i h3
      simp only [Bool.and_eq_true, beq_iff_eq] at h h3
      exact ⟨List.eq_nil_of_length_eq_zero (by omega), .inl ⟨h3, h.1.1⟩⟩
    · split at h
      · rename_i h4
        simp only [Bool.and_eq_true, beq_iff_eq] at h h4
        exact ⟨List.eq_nil_of_length_eq_zero (by omega), .inr ⟨h4, empty_of h.1⟩⟩
      · cases h
theorem alone_brk {f : Form} (h : aloneS f = true) (h1 : f.kind = 1) : f.num = 0 ∧ f.text = ⟨#[]⟩ := by
  unfold aloneS at h
  rw [if_pos (by simp [h1])] at h
  simp only [Bool.and_eq_true, beq_iff_eq] at h
  exact ⟨h.2, empty_of h.1⟩
theorem walk_nil {l : List Form} {g : Nat} {n nx : Int} (h : walkS l g [] n = (nx, true)) : nx = n := by
  cases g with
  | zero => simp [walkS] at h
  | succ g => simp only [walkS, Prod.mk.injEq, and_true] at h; exact h.symm
theorem last0_snoc (o : List Int) (x : Int) : last0 (o ++ [x]) = x := by
  unfold last0
  have : (o ++ [x]).length - 1 = o.length := by simp
  rw [this, nth_app_last]
theorem parse_walk {l : List Form} (hwf : WF l) (ha : ∀ f ∈ l, aloneS f = true) (h400 : l.length ≤ 400) : ∀ (g : Nat) (ps : List Int) (next nx : Int), 0 ≤ next → walkS l g ps next = (nx, true) →
    ∀ (f : Nat) (s : PSt) (ts : List Token), (∀ p ∈ ps, Kin l f p) → (s.l.length : Int) = next → LastIn s → (∀ p ∈ ps, (s.opn.length : Int) + nth (deepS l l.length) p.toNat ≤ 12) → AllFit (ps.flatMap (itemsS l f)) ts →
    ∃ s', (∀ rest, parseLoop s (ts ++ rest) = parseLoop s' rest) ∧ PGrow l s s' ps next nx
  | 0, ps, next, nx, _, h => by simp [walkS] at h
  | g + 1, [], next, nx, _, h => by
    intro f s ts _ hlen _ _ hfit
    have := walk_nil h
    subst this
    cases hfit
    refine ⟨s, fun rest => rfl, rfl, by simp, hlen, fun k h1 h2 => by omega, fun k hk => ?_⟩
    simp only [ite_self, List.append_nil]
    exact SameX.refl _
  | g + 1, n :: r, next, nx, h0, h => by
    intro f s ts hkin hlen hlast hdeep hfit
    simp only [walkS] at h
    split at h
    · cases h
    · rename_i hn
      split at h
      · rename_i nx1 he
        have hnn : n = next := by omega
        subst hnn
        obtain ⟨k, rfl, hk, hf⟩ := hkin n (by simp)
        simp only [Int.toNat_natCast] at he
        have hg1 := walkS_ge l g (nth l k).kids ((k : Int) + 1)
        rw [he] at hg1
        simp only at hg1
        obtain ⟨f', rfl⟩ : ∃ f', f = f' + 1 := ⟨f - 1, by omega⟩
        rw [List.flatMap_cons] at hfit
        obtain ⟨a, b, rfl, hfa, hfb⟩ := hfit.cut
        have hlk : s.l.length = k := by omega
        have hal := ha _ (nth_mem hk)
        have hd0 := hdeep (k : Int) (by simp)
        simp only [Int.toNat_natCast] at hd0
        have first : ∃ s1, (∀ rest, parseLoop s (a ++ rest) = parseLoop s1 rest) ∧ PGrow l s s1 [(k : Int)] (k : Int) nx1 := by
          by_cases h1 : (nth l k).kind = 1
          · have hb := alone_brk hal h1
            have hit : itemsS l (f' + 1) (k : Int) = ⟨1, ⟨#[]⟩, 0⟩ :: ((nth l k).kids.flatMap (itemsS l f') ++ [⟨2, ⟨#[]⟩, 0⟩]) := by
              conv => lhs; unfold itemsS
              rw [fm_nat, if_neg (by omega), if_neg (by omega)]
            rw [hit] at hfa
            obtain ⟨t, ar, rfl, ht, hfa⟩ := hfa.head
            obtain ⟨m, z, rfl, hm, hz⟩ := hfa.cut
            obtain ⟨u, rfl, hu⟩ := hz.one
            have hdk := deep_kid hwf hk h1 (by omega)
            obtain ⟨q1, q2, q3, q4, q5⟩ := add1_grow s (formOf t) hlast
            have hfk : (formOf t).kind = 1 := ht.1
            have t1 : takeP s t = .inl { add1 s (formOf t) with opn := s.opn ++ [(s.l.length : Int)] } := by
              unfold takeP
              have := ht.1
              simp only at this
              rw [if_neg (by omega), if_neg (by omega), if_pos (by omega), if_pos (by omega)]
              unfold addP
              rw [if_pos hfk]
            obtain ⟨s2, hp2, g2⟩ := parse_walk hwf ha h400 g _ _ _ (by omega) he f' { add1 s (formOf t) with opn := s.opn ++ [(s.l.length : Int)] } m
              (by have := kin_tail hwf (f := f') (n := (k : Int)) ⟨k, rfl, hk, hf⟩; rw [fm_nat] at this; exact this)
              (by show ((add1 s (formOf t)).l.length : Int) = _; rw [q3]; omega)
              (by right; show 0 ≤ last0 (s.opn ++ [(s.l.length : Int)]) ∧ last0 (s.opn ++ [(s.l.length : Int)]) < ((add1 s (formOf t)).l.length : Int); rw [last0_snoc, q3]; omega)
              (by intro p hp; show ((s.opn ++ [(s.l.length : Int)]).length : Int) + _ ≤ 12; have := hdk.2 p hp; simp; omega)
              hm
            have o2 : s2.opn = s.opn ++ [(s.l.length : Int)] := g2.opn
            refine ⟨{ s2 with opn := s2.opn.dropLast }, fun rest => ?_, ?_⟩
            · have t2 : takeP s2 u = .inl { s2 with opn := s2.opn.dropLast } := by
                unfold takeP
                rw [if_pos hu.1, if_pos (by rw [o2]; simp)]
              show parseLoop s (t :: ((m ++ [u]) ++ rest)) = _
              simp only [parseLoop, t1, List.append_assoc]
              rw [hp2]
              simp only [List.cons_append, List.nil_append, parseLoop, t2]
            · refine ⟨?_, ?_, g2.len, fun j hj hj2 => ?_, fun j hj => ?_⟩
              · show s2.opn.dropLast = s.opn
                rw [o2]; simp
              · show s2.top = _
                rw [g2.top, if_neg (by simp)]
                show (add1 s (formOf t)).top = _
                rw [q2, hlk]
              · show SameX (nth s2.l j) _
                by_cases hjk : j = k
                · subst hjk
                  have w := g2.old j (by omega)
                  rw [if_pos ⟨by simp, by show (j : Int) = last0 (s.opn ++ [(s.l.length : Int)]); rw [last0_snoc]; omega⟩] at w
                  rw [hlk] at q4
                  obtain ⟨a1, a2, a3, a4⟩ := w
                  obtain ⟨b1, b2, b3, b4⟩ := q4
                  simp only at a1 a2 a3 a4
                  refine ⟨a1.trans (b1.trans (hfk.trans h1.symm)), a2.trans (b2.trans ?_), a3.trans (b3.trans ?_), ?_⟩
                  · rw [hb.2]; unfold formOf; have := ht.1; simp only at this; simp [this]
                  · rw [hb.1]; unfold formOf; have := ht.1; simp only at this; simp [this]
                  · rw [a4, b4]; unfold formOf; simp
                · exact g2.new j (by omega) hj2
              · show SameX (nth s2.l j) _
                have w := g2.old j (by omega)
                rw [if_neg (by rintro ⟨_, c⟩; revert c; show (j : Int) ≠ last0 (s.opn ++ [(s.l.length : Int)]); rw [last0_snoc]; omega)] at w
                simp only [List.append_nil] at w
                have w2 := q5 j (by omega)
                rw [hlk] at w2
                exact w.trans w2
          · obtain ⟨hks, hkd⟩ := alone_leaf hal h1
            rw [hks] at he
            have hx1 := walk_nil he
            obtain ⟨q1, q2, q3, q4, q5⟩ : _ := add1_grow s (formOf (nth a 0)) hlast
            have both : a = [nth a 0] ∧ ((nth a 0).kind = 3 ∨ (nth a 0).kind = 4) ∧ SameX (formOf (nth a 0)) (nth l k) := by
              rcases hkd with ⟨h3, hnum⟩ | ⟨h4, htx⟩
              · have hit : itemsS l (f' + 1) (k : Int) = [⟨3, (nth l k).text, 0⟩] := by
                  conv => lhs; unfold itemsS
                  rw [fm_nat, if_neg (by omega), if_pos h3]
                rw [hit] at hfa
                obtain ⟨t, rfl, ht⟩ := hfa.one
                have tk : t.kind = 3 := ht.1
                have tt : t.text = (nth l k).text := ht.2.1 rfl
                refine ⟨rfl, .inl tk, ?_⟩
                show SameX (formOf t) _
                unfold formOf
                refine ⟨by simp [tk, h3], by simp [tk, tt], by simp [tk, hnum], by simp [hks]⟩
              · have hit : itemsS l (f' + 1) (k : Int) = [⟨4, ⟨#[]⟩, (nth l k).num⟩] := by
                  conv => lhs; unfold itemsS
                  rw [fm_nat, if_pos h4]
                rw [hit] at hfa
                obtain ⟨t, rfl, ht⟩ := hfa.one
                have tk : t.kind = 4 := ht.1
                have tt : t.num = (nth l k).num := ht.2.2 rfl
                refine ⟨rfl, .inr tk, ?_⟩
                show SameX (formOf t) _
                unfold formOf
                refine ⟨by simp [tk, h4], by simp [tk, htx], by simp [tk, tt], by simp [hks]⟩
            obtain ⟨ea, hk34, hsx⟩ := both
            refine ⟨add1 s (formOf (nth a 0)), fun rest => ?_, q1, by rw [q2, hlk], by rw [q3]; omega, fun j hj hj2 => ?_, fun j hj => ?_⟩
            · have t1 : takeP s (nth a 0) = .inl (add1 s (formOf (nth a 0))) := by
                unfold takeP
                rw [if_neg (by omega), if_neg (by omega), if_pos (by omega), if_pos (by omega)]
                unfold addP
                rw [if_neg (by show ¬ (nth a 0).kind = 1; omega)]
              rw [ea]
              show parseLoop s (nth a 0 :: rest) = parseLoop (add1 s (formOf (nth a 0))) rest
              simp only [parseLoop, t1]
            · have : j = k := by omega
              subst this
              rw [hlk] at q4
              exact q4.trans hsx
            · have w2 := q5 j (by omega)
              rw [hlk] at w2
              exact w2
        obtain ⟨s1, hp1, g1⟩ := first
        have hle : (k : Int) ≤ nx1 := by omega
        obtain ⟨s2, hp2, g2⟩ := parse_walk hwf ha h400 g r nx1 nx (by omega) h (f' + 1) s1 b (fun p hp => hkin p (by simp [hp])) g1.len
          (by unfold LastIn; rw [g1.opn]; rcases hlast with hl | hl
              · exact .inl hl
              · right; have := g1.len; omega)
          (by intro p hp; rw [g1.opn]; exact hdeep p (by simp [hp])) hfb
        refine ⟨s2, fun rest => ?_, g1.more g2 (by rcases hlast with hl | hl; exact .inl hl; right; omega) hle⟩
        rw [List.append_assoc, hp1, hp2]
      · cases h
/-! ### back -/
theorem items_len (l : List Form) : ∀ f n, (itemsS l f n).length ≤ 2 * cntE l f n
  | 0, n => by simp [itemsS]
  | f + 1, n => by
    have hc : cntE l (f + 1) n = 1 + cntL l f (fm l n).kids := rfl
    have key : ∀ ks : List Int, (ks.flatMap (itemsS l f)).length ≤ 2 * cntL l f ks := by
      intro ks
      induction ks with
      | nil => simp [cntL]
      | cons a r ih =>
        have := items_len l f a
        rw [cntL_cons, List.flatMap_cons, List.length_append]
        omega
    have := key (fm l n).kids
    rw [hc]
    unfold itemsS
    split
    · simp; omega
    · split
      · simp; omega
      · simp only [List.length_cons, List.length_append, List.length_nil]; omega
theorem printI_len (l : List Form) (top : List Int) : (printI l top).length ≤ 2 * cntL l (l.length + 1) top := by
  unfold printI
  induction top with
  | nil => simp [cntL]
  | cons a r ih =>
    have := items_len l (l.length + 1) a
    rw [cntL_cons, List.flatMap_cons, List.length_append]
    omega
/-- a printed text parsed again gives the same forms, but for where they stood -/
theorem source_print {l : List Form} {top : List Int} (hs : ShowOk l) (hr : rightS l top = true) :
    ((sourceS ⟨(printS l top).toArray⟩).2.2 = 4 ∧ (3000 < (printS l top).length ∨ 600 < (printI l top).length)) ∨ ∃ l', SameF l l' ∧ sourceS ⟨(printS l top).toArray⟩ = readS l' top := by
  have hf := right_facts hr
  have hal := hf.alone
  have hr2 := hr
  unfold rightS walkedS at hr2
  simp only [Bool.and_eq_true, decide_eq_true_eq, List.all_eq_true] at hr2
  obtain ⟨_, ⟨hb, hx⟩, hd⟩ := hr2
  have he : walkS l (l.length + 1) top 0 = ((l.length : Int), true) := by rw [← hx, ← hb]
  have hwk := walk_facts l (l.length + 1) top 0 (l.length : Int) (Int.le_refl _) he
  have hwd : ∀ n, n < l.length → (nth l n).kind = 3 → wordKind (nth l n).text = 3 := by
    intro n hn h3
    have := hal _ (nth_mem hn)
    unfold aloneS at this
    rw [if_neg (by simp [h3]), if_pos (by simp [h3])] at this
    simp only [Bool.and_eq_true, beq_iff_eq] at this
    exact this.2
  have hss : (⟨(printS l top).toArray⟩ : ByteArray).size = (printS l top).length := by show (printS l top).toArray.size = _; simp
  by_cases hbig : 3000 < (printS l top).length
  · left
    refine ⟨?_, .inl hbig⟩
    have ht : tokensS ⟨(printS l top).toArray⟩ = ([], 0, 4) := by unfold tokensS; rw [hss, if_pos hbig]
    unfold sourceS
    rw [ht]; rfl
  · rcases tokens_print hs hwd hf.topIn (by omega) with ⟨ts, h1, h2⟩ | ⟨h1, h2⟩
    · right
      obtain ⟨s', hp, hg⟩ := parse_walk hf.wf hal hf.len (l.length + 1) top 0 (l.length : Int) (Int.le_refl _) he (l.length + 1) ⟨[], [], []⟩ ts hf.topIn rfl (.inl rfl)
        (fun p hp => by
          obtain ⟨kn, rfl, hk, _⟩ := hf.topIn p hp
          have := top_deep hd (kn : Int) hp (by omega) (by omega)
          show ((0 : Nat) : Int) + _ ≤ 12
          omega) h1
      have hp0 := hp []
      simp only [List.append_nil] at hp0
      have hlen := hg.len
      have hz : SameF l s'.l := by
        have key : ∀ k : Nat, SameX (nth s'.l k) (nth l k) := by
          intro k
          by_cases hk : k < l.length
          · exact hg.new k (by omega) (by omega)
          · rw [nth_out (by omega), nth_out (by omega)]; exact SameX.refl _
        exact ⟨by omega, fun n => (key n.toNat).1, fun n => (key n.toNat).2.1, fun n => (key n.toNat).2.2.1, fun n => (key n.toNat).2.2.2⟩
      refine ⟨s'.l, hz, ?_⟩
      have ht : s'.top = top := by have := hg.top; simpa using this
      have ho : s'.opn = [] := by have := hg.opn; simpa using this
      have hps : parseS ts = (s'.l, top, 0, 0) := by
        unfold parseS
        rw [hp0]
        simp only [parseLoop]
        rw [ho, ht]
        rfl
      unfold sourceS
      rw [h2]
      simp only [hps]
      rfl
    · left
      refine ⟨?_, .inr h2⟩
      unfold sourceS
      rw [h1]
      rfl
theorem right_walk {l : List Form} {top : List Int} (hr : rightS l top = true) : walkS l (l.length + 1) top 0 = ((l.length : Int), true) := by
  unfold rightS walkedS at hr
  simp only [Bool.and_eq_true, decide_eq_true_eq, List.all_eq_true] at hr
  obtain ⟨_, ⟨hb, hx⟩, hd⟩ := hr
  rw [← hx, ← hb]
theorem back_any (p : Prg) (hok : WOk2 p) : Back p := by
  intro h0
  rcases writeS_cases p with hw | ⟨s, hs, hw, hr, hm⟩
  · rw [hw] at h0; simp at h0
  · have hT : textOf p = (printS s.1 s.2, 0) := by unfold textOf; rw [hw]; rfl
    rw [hT, hw]
    have hrt := readS_right hr
    rcases source_print (showOk hrt (hok.nums s hs)) hrt with h1 | ⟨l', h1, h2⟩
    · refine .inl ⟨h1.1, ?_⟩
      rcases h1.2 with h2 | h2
      · exact .inl h2
      · right
        have := printI_len s.1 s.2
        have := (walk_facts s.1 _ _ 0 _ (Int.le_refl _) (right_walk hrt)).cnt (s.1.length + 1)
        simp only
        omega
    · right
      simp only at h2 ⊢
      rw [h2]
      obtain ⟨h3, h4⟩ := h1.read s.2
      rw [h3, h4]
      exact ⟨hr, hm⟩
end Go.Proofs.Ytgaginegcjpddaa
/- What is written of a program: texts that are its names or fixed words, numbers that are its numbers. -/
namespace Go.Proofs.Ytgaginegcjpddaa
def SzOk (s : ByteArray) : Prop := s.size ≤ 9223372036854775807
def FOk (f : Form) : Prop := SzOk f.text ∧ InW f.num
def AllOk (s : WSt) : Prop := ∀ f ∈ s.1, FOk f
theorem szOk_small {s : ByteArray} (h : s.size ≤ 100) : SzOk s := by unfold SzOk; omega
theorem inW_zero : InW 0 := by unfold InW; omega
theorem fOk_default : FOk (default : Form) := ⟨szOk_small (Nat.zero_le _), inW_zero⟩
theorem formS_ok {br : Int} {f : Form} {s : WSt} {r : Int × WSt} (h : formS br f s = some r) (hf : FOk f) (hs : AllOk s) : AllOk r.2 := by
  have h1 : ∀ g ∈ s.1 ++ [f], FOk g := fun g hg => by
    rcases List.mem_append.1 hg with hg | hg
    · exact hs g hg
    · simp only [List.mem_singleton] at hg; subst hg; exact hf
  unfold formS at h
  split at h
  · cases h
  · split at h
    · cases h; exact h1
    · cases h
      intro g hg
      rcases List.mem_or_eq_of_mem_set hg with hg | hg
      · exact h1 g hg
      · subst hg
        show FOk { nth (s.1 ++ [f]) br.toNat with kids := _ }
        have : FOk (nth (s.1 ++ [f]) br.toNat) := by
          by_cases hlt : br.toNat < (s.1 ++ [f]).length
          · exact h1 _ (nth_mem hlt)
          · rw [nth_out (by omega)]; exact fOk_default
        exact this
theorem wordS_ok {br : Int} {t : ByteArray} {s r : WSt} (h : wordS br t s = some r) (ht : SzOk t) (hs : AllOk s) : AllOk r := by
  unfold wordS at h
  cases hr : formS br (wordF t) s with
  | none => rw [hr] at h; cases h
  | some q =>
    rw [hr] at h
    simp only [Option.map_some, Option.some.injEq] at h
    subst h
    exact formS_ok hr ⟨ht, inW_zero⟩ hs
theorem wordsS_ok {n : Int} : ∀ {ws : List ByteArray} {s r : WSt}, wordsS n ws s = some r → (∀ t ∈ ws, SzOk t) → AllOk s → AllOk r
  | [], s, r, h, _, hs => by simp only [wordsS, Option.some.injEq] at h; subst h; exact hs
  | t :: ws, s, r, h, hw, hs => by
    simp only [wordsS] at h
    split at h
    · cases h
    · rename_i s1 h1
      exact wordsS_ok h (fun t ht => hw t (by simp [ht])) (wordS_ok h1 (hw t (by simp)) hs)
theorem openS_ok {br : Int} {ws : List ByteArray} {s : WSt} {r : Int × WSt} (h : openS br ws s = some r) (hw : ∀ t ∈ ws, SzOk t) (hs : AllOk s) : AllOk r.2 := by
  unfold openS at h
  split at h
  · cases h
  · rename_i n s1 h1
    have h2 := formS_ok h1 ⟨szOk_small (Nat.zero_le _), inW_zero⟩ hs
    cases h3 : wordsS n ws s1 with
    | none => rw [h3] at h; cases h
    | some s2 =>
      rw [h3] at h
      simp only [Option.map_some, Option.some.injEq] at h
      subst h
      exact wordsS_ok h3 hw h2
theorem sndS_ok {br : Int} {ws : List ByteArray} {s r : WSt} (h : sndS (openS br ws s) = some r) (hw : ∀ t ∈ ws, SzOk t) (hs : AllOk s) : AllOk r := by
  cases hr : openS br ws s with
  | none => rw [hr] at h; cases h
  | some q =>
    rw [hr] at h
    simp only [sndS, Option.map_some, Option.some.injEq] at h
    subst h
    exact openS_ok hr hw hs
theorem kidsWS_ok {g : Int → WSt → Option WSt} (hg : ∀ k s r, g k s = some r → AllOk s → AllOk r) : ∀ {ks : List Int} {s r : WSt}, kidsWS g ks s = some r → AllOk s → AllOk r
  | [], s, r, h, hs => by simp only [kidsWS, Option.some.injEq] at h; subst h; exact hs
  | k :: ks, s, r, h, hs => by
    simp only [kidsWS] at h
    split at h
    · cases h
    · rename_i s1 h1
      exact kidsWS_ok hg h (hg _ _ _ h1 hs)
theorem opWord_ok (o : Int) : SzOk (opWordS o) := by
  apply szOk_small
  unfold opWordS
  split
  · exact Nat.zero_le _
  · have : ∀ n, (nth opWords n).size ≤ 100 := by
      intro n
      by_cases hn : n < opWords.length
      · have : ∀ w ∈ opWords, w.size ≤ 100 := by decide
        exact this _ (nth_mem hn)
      · rw [nth_out (by omega)]; exact Nat.zero_le _
    exact this _
theorem side_ok (b : Bool) : SzOk (sideS b) := szOk_small (by cases b <;> decide)
/-- names and numbers that may stand in a program -/
structure NumsOk (p : Prg) : Prop where
  decls : ∀ d ∈ p.decls, SzOk d.name
  exprs : ∀ x ∈ p.exprs, 0 ≤ x.op ∧ SzOk x.name ∧ InW x.num
  stmts : ∀ x ∈ p.stmts, 0 ≤ x.op ∧ SzOk x.name ∧ ∀ a ∈ x.acts, 0 ≤ a.op ∧ SzOk a.name
theorem literalS_ok {br : Int} {x : Expr} {s r : WSt} (h : literalS br x s = some r) (hx : InW x.num) (hs : AllOk s) : AllOk r := by
  unfold literalS at h
  split at h
  · cases hr : formS br (numF x.num) s with
    | none => rw [hr] at h; cases h
    | some q =>
      rw [hr] at h
      simp only [Option.map_some, Option.some.injEq] at h
      subst h
      exact formS_ok hr ⟨szOk_small (Nat.zero_le _), hx⟩ hs
  · split at h
    · exact wordS_ok h (szOk_small (by decide)) hs
    · exact wordS_ok h (szOk_small (by decide)) hs
theorem fixed_ok : SzOk wOwn ∧ SzOk wFar ∧ SzOk wVia ∧ SzOk wId ∧ SzOk wFarid ∧ SzOk wCount ∧ SzOk wDeg ∧ SzOk wPut ∧ SzOk wPush ∧ SzOk wPull ∧ SzOk wSet ∧ SzOk wFold ∧ SzOk wEach ∧ SzOk wIf ∧ SzOk wWhile ∧ SzOk wLoop ∧ SzOk wBfs := by
  refine ⟨?_, ?_, ?_, ?_, ?_, ?_, ?_, ?_, ?_, ?_, ?_, ?_, ?_, ?_, ?_, ?_, ?_⟩ <;> exact szOk_small (by decide)
theorem exprKW_ok {x : Expr} {br : Int} {g : Int → Int → WSt → Option WSt} (hg : ∀ b k s r, g b k s = some r → AllOk s → AllOk r) {s r : WSt} (h : exprKW x br g s = some r) (hn : SzOk x.name) (hx : InW x.num) (hs : AllOk s) : AllOk r := by
  obtain ⟨f1, f2, f3, f4, f5, f6, f7, _⟩ := fixed_ok
  have hside := side_ok (x.num == 1)
  unfold exprKW at h
  repeat' split at h
  · exact literalS_ok h hx hs
  · exact wordS_ok h hn hs
  · exact sndS_ok h (by simp_all) hs
  · exact sndS_ok h (by simp_all) hs
  · exact sndS_ok h (by simp_all) hs
  · exact sndS_ok h (by simp_all) hs
  · exact sndS_ok h (by simp_all) hs
  · exact sndS_ok h (by simp_all) hs
  · exact sndS_ok h (by simp_all) hs
  · cases h
  · rename_i b s1 h1
    exact kidsWS_ok (fun k s r => hg b k s r) h (openS_ok h1 (by intro t ht; simp only [List.mem_singleton] at ht; subst ht; exact opWord_ok _) hs)
  · cases h
theorem exprWS_ok {es : List Expr} (he : ∀ x ∈ es, SzOk x.name ∧ InW x.num) : ∀ (f : Nat) (br e lim : Int) (s r : WSt), exprWS es f br e lim s = some r → AllOk s → AllOk r
  | 0, _, _, _, _, _, h, _ => by simp [exprWS] at h
  | f + 1, br, e, lim, s, r, h, hs => by
    unfold exprWS at h
    split at h
    · rename_i hb
      have hlt : e.toNat < es.length := by
        obtain ⟨h0, h1⟩ := hb
        unfold minI at h1
        split at h1 <;> omega
      have hx := he _ (nth_mem hlt)
      exact exprKW_ok (fun b k s r h hs => exprWS_ok he f _ _ _ _ _ h hs) h hx.1 hx.2 hs
    · cases h
theorem partsWS_ok {es : List Expr} (he : ∀ x ∈ es, SzOk x.name ∧ InW x.num) {br e cond : Int} {s r : WSt} (h : partsWS es br e cond s = some r) (hs : AllOk s) : AllOk r := by
  unfold partsWS at h
  split at h
  · cases h
  · rename_i s1 h1
    have h2 := exprWS_ok he _ _ _ _ _ _ h1 hs
    split at h
    · simp only [Option.some.injEq] at h; subst h; exact h2
    · exact exprWS_ok he _ _ _ _ _ _ h h2
theorem actWS_ok {es : List Expr} (he : ∀ x ∈ es, SzOk x.name ∧ InW x.num) {br : Int} {a : PAct} {s r : WSt} (h : actWS es br a s = some r) (ha : SzOk a.name) (hs : AllOk s) : AllOk r := by
  obtain ⟨_, _, _, _, _, _, _, f8, f9, f10, _⟩ := fixed_ok
  have hside := side_ok a.inn
  have hop := opWord_ok a.op
  unfold actWS at h
  split at h
  · cases h
  · rename_i b s1 h1
    refine partsWS_ok he h ?_
    unfold actOpen at h1
    repeat' split at h1
    · exact openS_ok (r := (b, s1)) h1 (by simp_all) hs
    · exact openS_ok (r := (b, s1)) h1 (by simp_all) hs
    · exact openS_ok (r := (b, s1)) h1 (by simp_all) hs
    · cases h1
theorem actsWS_ok {es : List Expr} (he : ∀ x ∈ es, SzOk x.name ∧ InW x.num) {b : Int} : ∀ {al : List PAct} {s r : WSt}, actsWS es b al s = some r → (∀ a ∈ al, SzOk a.name) → AllOk s → AllOk r
  | [], s, r, h, _, hs => by simp only [actsWS, Option.some.injEq] at h; subst h; exact hs
  | a :: al, s, r, h, ha, hs => by
    simp only [actsWS] at h
    split at h
    · cases h
    · rename_i s1 h1
      exact actsWS_ok he h (fun a h => ha a (by simp [h])) (actWS_ok he h1 (ha a (by simp)) hs)
theorem andB_some {r : Option (Int × WSt)} {k : Int → WSt → Option WSt} {t : WSt} (h : andB r k = some t) : ∃ b s, r = some (b, s) ∧ k b s = some t := by
  unfold andB at h
  split at h
  · cases h
  · exact ⟨_, _, rfl, h⟩
theorem andS_some {r : Option WSt} {k : WSt → Option WSt} {t : WSt} (h : andS r k = some t) : ∃ s, r = some s ∧ k s = some t := by
  unfold andS at h
  split at h
  · cases h
  · exact ⟨_, rfl, h⟩
theorem subWS_ok {g : Int → WSt → Option WSt} {lim : Int} (hg : ∀ k s r, 0 ≤ k → k < lim → g k s = some r → AllOk s → AllOk r) {ks : List Int} {s r : WSt} (h : subWS g lim ks s = some r) (hs : AllOk s) : AllOk r :=
  kidsWS_ok (fun k s r h hs => by
    split at h
    · rename_i hk; exact hg k s r hk.1 hk.2 h hs
    · cases h) h hs
theorem bodyWS_ok {es : List Expr} (he : ∀ x ∈ es, SzOk x.name ∧ InW x.num) {b e : Int} {g : Int → WSt → Option WSt} {lim : Int} (hg : ∀ k s r, 0 ≤ k → k < lim → g k s = some r → AllOk s → AllOk r) {ks : List Int} {s r : WSt} (h : bodyWS es b e g lim ks s = some r) (hs : AllOk s) : AllOk r := by
  unfold bodyWS at h
  split at h
  · cases h
  · rename_i s1 h1
    exact subWS_ok hg h (exprWS_ok he _ _ _ _ _ _ h1 hs)
theorem stmtKW_ok {es : List Expr} (he : ∀ x ∈ es, SzOk x.name ∧ InW x.num) {x : PStmt} (hx : SzOk x.name ∧ ∀ a ∈ x.acts, SzOk a.name) {br lim : Int} {g : Int → Int → WSt → Option WSt} (hg : ∀ b k s r, 0 ≤ k → k < lim → g b k s = some r → AllOk s → AllOk r) {s r : WSt} (h : stmtKW es x br lim g s = some r) (hs : AllOk s) : AllOk r := by
  obtain ⟨_, _, _, _, _, _, _, _, _, _, g1, g2, g3, g4, g5, g6, g7⟩ := fixed_ok
  have hop := opWord_ok x.op
  have hxn := hx.1
  unfold stmtKW at h
  repeat' split at h
  · obtain ⟨b, s1, h1, h2⟩ := andB_some h
    exact exprWS_ok he _ _ _ _ _ _ h2 (openS_ok (r := (b, s1)) h1 (by simp_all) hs)
  · obtain ⟨b, s1, h1, h2⟩ := andB_some h
    exact partsWS_ok he h2 (openS_ok (r := (b, s1)) h1 (by simp_all) hs)
  · obtain ⟨b, s1, h1, h2⟩ := andB_some h
    exact actsWS_ok he h2 hx.2 (openS_ok (r := (b, s1)) h1 (by simp_all) hs)
  · obtain ⟨b, s1, h1, h2⟩ := andB_some h
    obtain ⟨s2, h3, h4⟩ := andS_some h2
    obtain ⟨b1, s3, h5, h6⟩ := andB_some h4
    obtain ⟨s4, h7, h8⟩ := andS_some h6
    obtain ⟨b2, s5, h9, h10⟩ := andB_some h8
    have q1 := openS_ok (r := (b, s1)) h1 (by simp_all) hs
    have q2 := exprWS_ok he _ _ _ _ _ _ h3 q1
    have q3 := openS_ok (r := (b1, s3)) h5 (by simp) q2
    have q4 := subWS_ok (hg b1) h7 q3
    have q5 := openS_ok (r := (b2, s5)) h9 (by simp) q4
    exact subWS_ok (hg b2) h10 q5
  · obtain ⟨b, s1, h1, h2⟩ := andB_some h
    exact bodyWS_ok he (hg b) h2 (openS_ok (r := (b, s1)) h1 (by simp_all) hs)
  · obtain ⟨b, s1, h1, h2⟩ := andB_some h
    exact bodyWS_ok he (hg b) h2 (openS_ok (r := (b, s1)) h1 (by simp_all) hs)
  · obtain ⟨b, s1, h1, h2⟩ := andB_some h
    exact bodyWS_ok he (hg b) h2 (openS_ok (r := (b, s1)) h1 (by simp_all) hs)
  · cases h
theorem stmtWS_ok {es : List Expr} {ss : List PStmt} (he : ∀ x ∈ es, SzOk x.name ∧ InW x.num) (hss : ∀ x ∈ ss, SzOk x.name ∧ ∀ a ∈ x.acts, SzOk a.name) : ∀ (f : Nat) (br n : Int) (s r : WSt), 0 ≤ n → n < ss.length → stmtWS es ss f br n s = some r → AllOk s → AllOk r
  | 0, _, _, _, _, _, _, h, _ => by simp [stmtWS] at h
  | f + 1, br, n, s, r, h0, hl, h, hs => by
    unfold stmtWS at h
    exact stmtKW_ok he (hss _ (nth_mem (by omega))) (fun b k s r hk0 hk h hs => stmtWS_ok he hss f b k s r hk0 (by omega) h hs) h hs
theorem declsWS_ok : ∀ {ds : List PDecl} {s r : WSt}, declsWS ds s = some r → (∀ d ∈ ds, SzOk d.name) → AllOk s → AllOk r
  | [], s, r, h, _, hs => by simp only [declsWS, Option.some.injEq] at h; subst h; exact hs
  | d :: ds, s, r, h, hd, hs => by
    simp only [declsWS] at h
    split at h
    · cases h
    · rename_i s1 h1
      refine declsWS_ok h (fun d h => hd d (by simp [h])) ?_
      unfold declareS at h1
      split at h1
      · cases h1
      · rename_i wd hw
        have : SzOk wd := by
          unfold declWord at hw
          obtain ⟨q, hq, rfl⟩ := Option.map_eq_some_iff.1 hw
          have hm := List.mem_of_find?_eq_some hq
          have key : ∀ q ∈ declL, q.1.size ≤ 100 := by decide
          exact szOk_small (key q hm)
        exact sndS_ok h1 (by intro t ht; simp only [List.mem_cons, List.not_mem_nil, or_false] at ht; rcases ht with rfl | rfl; exact this; exact hd d (by simp)) hs
theorem writtenS_ok {p : Prg} (hp : NumsOk p) {s : WSt} (h : writtenS p = some s) : AllOk s := by
  unfold writtenS at h
  split at h
  · cases h
  · rename_i s1 h1
    have q1 : AllOk s1 := declsWS_ok h1 hp.decls (by intro f hf; simp at hf)
    exact subWS_ok (fun k s r h0 hl h hs => stmtWS_ok (fun x hx => (hp.exprs x hx).2) (fun x hx => ⟨(hp.stmts x hx).2.1, fun a ha => ((hp.stmts x hx).2.2 a ha).2⟩) _ _ _ _ _ h0 hl h hs) h q1
theorem wOk_of {p : Prg} (hp : NumsOk p) : WOk2 p :=
  { ops := ⟨fun x hx => (hp.exprs x hx).1, fun x hx => ⟨(hp.stmts x hx).1, fun a ha => ((hp.stmts x hx).2.2 a ha).1⟩⟩
    texts := fun s hs f hf => (writtenS_ok hp hs f hf).1
    nums := fun s hs f hf => (writtenS_ok hp hs f hf).2 }
end Go.Proofs.Ytgaginegcjpddaa
/- A program that came in. Printed by gen_open2.py. -/
namespace Go.Proofs.Ytgaginegcjpddaa
open Go.ChangeShapes Go.WideShapes Go.ChangeAt Go.RowKit Go.Deep
def DOk (d : DeclM) : Prop := SzOk d.name
def AOk (a : ActM) : Prop := 0 ≤ a.op ∧ SzOk a.name
def EOk (x : ExprM) : Prop := 0 ≤ x.op ∧ SzOk x.name ∧ InW x.num
def SOk (x : StmtM) : Prop := 0 ≤ x.op ∧ SzOk x.name ∧ ∀ a ∈ x.acts, AOk a
structure POk (p : ProgM) : Prop where
  decls : ∀ d ∈ p.decls, DOk d
  exprs : ∀ x ∈ p.exprs, EOk x
  stmts : ∀ x ∈ p.stmts, SOk x
theorem u8_ok {n : Int} (w : (Lit.int .u8 n).wf = true) : 0 ≤ n := by
  simp [Lit.wf, IntKind.min, IntKind.max, IntKind.signed, IntKind.bits] at w
  omega
theorem i64_ok {n : Int} (w : (Lit.int .i64 n).wf = true) : InW n := by
  simp [Lit.wf, IntKind.min, IntKind.max, IntKind.signed, IntKind.bits] at w
  unfold InW
  omega
theorem Row.split {α : Type} [Inhabited α] {w : World} {D : Nat → Prop} {R : α → List Value → Prop} {Ok : α → Prop} {k : Nat} {v : Value} {l : List α} (h : Row w D (fun d cs => R d cs ∧ Ok d) k v l) : Row w D R k v l ∧ ∀ d ∈ l, Ok d := by
  obtain ⟨A, c, rfl, h2, h3, h4⟩ := h.out
  refine ⟨⟨A, c, rfl, h2, h3, fun h0 => ?_⟩, fun d hd => ?_⟩
  · obtain ⟨b, off, hA, hD, hall⟩ := h4 h0
    refine ⟨b, off, hA, hD, fun i hi => ?_⟩
    obtain ⟨cs, ⟨hr, _⟩, hl, hcs⟩ := hall i hi
    exact ⟨cs, hr, hl, hcs⟩
  · obtain ⟨i, hi, rfl⟩ := List.getElem_of_mem hd
    obtain ⟨b, off, hA, hD, hall⟩ := h4 (by omega)
    obtain ⟨cs, ⟨_, ho⟩, _⟩ := hall i hi
    rw [nth_eq hi] at ho
    exact ho
section
variable {H : Type} {enc : TypeId × Value → H} {W : World} {base : Nat} {spare : Nat → Bool} {held : Bool}
theorem open_row {α : Type} [Inhabited α] {S E : TypeId} {k : Nat} {R : α → List Value → Prop} (hS : Try.prog.underlying S = some (.slice E)) (hk : Try.prog.cellsOf E = k) (h0 : 0 < k)
    (hel : ∀ n cs (x : DataW H × List MemPlace), DataW.trod enc Try.prog W base spare held n E cs = some x → ∃ d, R d cs ∧ cs.length = k) {v : Value} {fuel : Nat} {x : DataW H × List MemPlace} (h : DataW.trod enc Try.prog W base spare held fuel S [v] = some x) :
    ∃ l : List α, Row W T' R k v l := by
  rcases open_slice hS h with ⟨hcs, _⟩ | ⟨ad, len, cap, m, n, Dd, Pl, hcs, hb, hl, hm, hmm, hx, hi⟩
  · simp only [List.cons.injEq, and_true] at hcs
    subst hcs
    exact ⟨[], Row.nil _ _ _ _⟩
  · simp only [List.cons.injEq, and_true] at hcs
    subst hcs
    rw [hk] at hi
    have hlm : len ≤ m := by rw [hmm]; split <;> omega
    have each : ∀ i, i < len → ∃ d : α, ∃ cs, R d cs ∧ cs.length = k ∧ ∀ j, j < k → W.cell? (ad.add (i * k + j)) = cs[j]? := by
      intro i hil
      obtain ⟨cs', hc, ht⟩ := hi i (by omega)
      obtain ⟨d, hr, hlen⟩ := hel _ _ _ ht
      obtain ⟨_, _, hat⟩ := World.cells?_some hc
      exact ⟨d, cs', hr, hlen, fun j hj => by have := hat j hj; rwa [Go.Deep.add_add] at this⟩
    obtain ⟨f, hf⟩ := choose_lt each
    refine ⟨(List.range len).map f, ⟨some ad, cap, by simp, by simpa using hl, by simpa [maxLen] using hm, fun h0' => ?_⟩⟩
    simp only [List.length_map, List.length_range] at h0' ⊢
    obtain ⟨cs0, _, hl0, hc0⟩ := hf 0 h0'
    have hsp := World.cell?_spot ((hc0 0 h0).trans (List.getElem?_eq_getElem (by omega)))
    obtain ⟨b, off, sp⟩ := ad
    have : sp = none := by simpa [Addr.add] using hsp
    subst this
    refine ⟨b, off, rfl, trivial, fun i hil => ?_⟩
    obtain ⟨cs, hr, hl', hc⟩ := hf i hil
    have hn : nth ((List.range len).map f) i = f i := by rw [nth_eq (by simpa using hil)]; simp
    refine ⟨cs, by rw [hn]; exact hr, hl', fun j u hj => ?_⟩
    have hj' : j < k := by have := (List.getElem?_eq_some_iff.1 hj).1; omega
    have := (hc j hj').trans hj
    rw [add_off, ← Nat.add_assoc] at this
    exact this
theorem open_ints {v : Value} {fuel : Nat} {x : DataW H × List MemPlace} (h : DataW.trod enc Try.prog W base spare held fuel 25 [v] = some x) : ∃ l : List Int, IntsR W v l :=
  open_row Try.underlying25 (by kernel_rfl) (by omega) (fun n cs x h => by
    obtain ⟨i, rfl, _, _⟩ := DataW.trod_int Try.underlying3 h
    exact ⟨i, rfl, rfl⟩) h
set_option maxRecDepth 100000 in
theorem decl_cells {n : Nat} {cs : List Value} {x : DataW H × List MemPlace} (h : DataW.trod enc Try.prog W base spare held n 66 cs = some x) : ∃ d : DeclM, (DeclR d cs ∧ DOk d) ∧ cs.length = 3 := by
  obtain ⟨xs, m, rfl, _, hl, hxs, hf⟩ := DataW.trod_struct Try.underlying66 h
  have hlen : cs.length = 3 := hl.trans (by kernel_rfl)
  match cs, hlen with
  | [c0, c1, c2], _ =>
    match xs, hxs with
    | [y0, y1, y2], _ =>
      have k0 : Try.prog.cellsOf 9 = 1 := by kernel_rfl
      have f0 : DataW.trod enc Try.prog W base spare held m 9 (([c0, c1, c2].drop 0).take (Try.prog.cellsOf 9)) = [y0, y1, y2][0]? := hf 0 _ rfl
      rw [k0] at f0
      have f0 : DataW.trod enc Try.prog W base spare held m 9 [c0] = some y0 := f0
      have k1 : Try.prog.cellsOf 63 = 1 := by kernel_rfl
      have f1 : DataW.trod enc Try.prog W base spare held m 63 (([c0, c1, c2].drop 1).take (Try.prog.cellsOf 63)) = [y0, y1, y2][1]? := hf 1 _ rfl
      rw [k1] at f1
      have f1 : DataW.trod enc Try.prog W base spare held m 63 [c1] = some y1 := f1
      have k2 : Try.prog.cellsOf 64 = 1 := by kernel_rfl
      have f2 : DataW.trod enc Try.prog W base spare held m 64 (([c0, c1, c2].drop 2).take (Try.prog.cellsOf 64)) = [y0, y1, y2][2]? := hf 2 _ rfl
      rw [k2] at f2
      have f2 : DataW.trod enc Try.prog W base spare held m 64 [c2] = some y2 := f2
      obtain ⟨v0, h0, _, s0⟩ := DataW.trod_string Try.underlying9 f0
      obtain ⟨v1, h1, _, s1⟩ := DataW.trod_int Try.underlying63 f1
      obtain ⟨v2, h2, _, s2⟩ := DataW.trod_int Try.underlying64 f2
      simp only [List.cons.injEq, and_true] at h0
      subst h0
      simp only [List.cons.injEq, and_true] at h1
      subst h1
      simp only [List.cons.injEq, and_true] at h2
      subst h2
      exact ⟨⟨v0, v1, v2⟩, ⟨rfl, s0⟩, rfl⟩
set_option maxRecDepth 100000 in
theorem act_cells {n : Nat} {cs : List Value} {x : DataW H × List MemPlace} (h : DataW.trod enc Try.prog W base spare held n 137 cs = some x) : ∃ d : ActM, (ActR d cs ∧ AOk d) ∧ cs.length = 6 := by
  obtain ⟨xs, m, rfl, _, hl, hxs, hf⟩ := DataW.trod_struct Try.underlying137 h
  have hlen : cs.length = 6 := hl.trans (by kernel_rfl)
  match cs, hlen with
  | [c0, c1, c2, c3, c4, c5], _ =>
    match xs, hxs with
    | [y0, y1, y2, y3, y4, y5], _ =>
      have k0 : Try.prog.cellsOf 135 = 1 := by kernel_rfl
      have f0 : DataW.trod enc Try.prog W base spare held m 135 (([c0, c1, c2, c3, c4, c5].drop 0).take (Try.prog.cellsOf 135)) = [y0, y1, y2, y3, y4, y5][0]? := hf 0 _ rfl
      rw [k0] at f0
      have f0 : DataW.trod enc Try.prog W base spare held m 135 [c0] = some y0 := f0
      have k1 : Try.prog.cellsOf 9 = 1 := by kernel_rfl
      have f1 : DataW.trod enc Try.prog W base spare held m 9 (([c0, c1, c2, c3, c4, c5].drop 1).take (Try.prog.cellsOf 9)) = [y0, y1, y2, y3, y4, y5][1]? := hf 1 _ rfl
      rw [k1] at f1
      have f1 : DataW.trod enc Try.prog W base spare held m 9 [c1] = some y1 := f1
      have k2 : Try.prog.cellsOf 44 = 1 := by kernel_rfl
      have f2 : DataW.trod enc Try.prog W base spare held m 44 (([c0, c1, c2, c3, c4, c5].drop 2).take (Try.prog.cellsOf 44)) = [y0, y1, y2, y3, y4, y5][2]? := hf 2 _ rfl
      rw [k2] at f2
      have f2 : DataW.trod enc Try.prog W base spare held m 44 [c2] = some y2 := f2
      have k3 : Try.prog.cellsOf 4 = 1 := by kernel_rfl
      have f3 : DataW.trod enc Try.prog W base spare held m 4 (([c0, c1, c2, c3, c4, c5].drop 3).take (Try.prog.cellsOf 4)) = [y0, y1, y2, y3, y4, y5][3]? := hf 3 _ rfl
      rw [k3] at f3
      have f3 : DataW.trod enc Try.prog W base spare held m 4 [c3] = some y3 := f3
      have k4 : Try.prog.cellsOf 3 = 1 := by kernel_rfl
      have f4 : DataW.trod enc Try.prog W base spare held m 3 (([c0, c1, c2, c3, c4, c5].drop 4).take (Try.prog.cellsOf 3)) = [y0, y1, y2, y3, y4, y5][4]? := hf 4 _ rfl
      rw [k4] at f4
      have f4 : DataW.trod enc Try.prog W base spare held m 3 [c4] = some y4 := f4
      have k5 : Try.prog.cellsOf 3 = 1 := by kernel_rfl
      have f5 : DataW.trod enc Try.prog W base spare held m 3 (([c0, c1, c2, c3, c4, c5].drop 5).take (Try.prog.cellsOf 3)) = [y0, y1, y2, y3, y4, y5][5]? := hf 5 _ rfl
      rw [k5] at f5
      have f5 : DataW.trod enc Try.prog W base spare held m 3 [c5] = some y5 := f5
      obtain ⟨v0, h0, _, s0⟩ := DataW.trod_int Try.underlying135 f0
      obtain ⟨v1, h1, _, s1⟩ := DataW.trod_string Try.underlying9 f1
      obtain ⟨v2, h2, _, s2⟩ := DataW.trod_int Try.underlying44 f2
      obtain ⟨v3, h3, _⟩ := DataW.trod_bool Try.underlying4 f3
      obtain ⟨v4, h4, _, s4⟩ := DataW.trod_int Try.underlying3 f4
      obtain ⟨v5, h5, _, s5⟩ := DataW.trod_int Try.underlying3 f5
      simp only [List.cons.injEq, and_true] at h0
      subst h0
      simp only [List.cons.injEq, and_true] at h1
      subst h1
      simp only [List.cons.injEq, and_true] at h2
      subst h2
      simp only [List.cons.injEq, and_true] at h3
      subst h3
      simp only [List.cons.injEq, and_true] at h4
      subst h4
      simp only [List.cons.injEq, and_true] at h5
      subst h5
      exact ⟨⟨v0, v1, v2, v3, v4, v5⟩, ⟨rfl, ⟨u8_ok s2, s1⟩⟩, rfl⟩
theorem open_decls {v : Value} {fuel : Nat} {x : DataW H × List MemPlace} (h : DataW.trod enc Try.prog W base spare held fuel 22 [v] = some x) : ∃ l : List DeclM, Decls W v l ∧ ∀ d ∈ l, DOk d := by
  obtain ⟨l, hl⟩ := open_row Try.underlying22 (by kernel_rfl) (by omega) (fun n cs x h => decl_cells h) h
  exact ⟨l, Row.split hl⟩
theorem open_acts {v : Value} {fuel : Nat} {x : DataW H × List MemPlace} (h : DataW.trod enc Try.prog W base spare held fuel 75 [v] = some x) : ∃ l : List ActM, ActsR W v l ∧ ∀ d ∈ l, AOk d := by
  obtain ⟨l, hl⟩ := open_row Try.underlying75 (by kernel_rfl) (by omega) (fun n cs x h => act_cells h) h
  exact ⟨l, Row.split hl⟩
set_option maxRecDepth 100000 in
theorem expr_cells {n : Nat} {cs : List Value} {x : DataW H × List MemPlace} (h : DataW.trod enc Try.prog W base spare held n 71 cs = some x) : ∃ d : ExprM, ((ExprR W) d cs ∧ EOk d) ∧ cs.length = 6 := by
  obtain ⟨xs, m, rfl, _, hl, hxs, hf⟩ := DataW.trod_struct Try.underlying71 h
  have hlen : cs.length = 6 := hl.trans (by kernel_rfl)
  match cs, hlen with
  | [c0, c1, c2, c3, c4, c5], _ =>
    match xs, hxs with
    | [y0, y1, y2, y3, y4, y5], _ =>
      have k0 : Try.prog.cellsOf 68 = 1 := by kernel_rfl
      have f0 : DataW.trod enc Try.prog W base spare held m 68 (([c0, c1, c2, c3, c4, c5].drop 0).take (Try.prog.cellsOf 68)) = [y0, y1, y2, y3, y4, y5][0]? := hf 0 _ rfl
      rw [k0] at f0
      have f0 : DataW.trod enc Try.prog W base spare held m 68 [c0] = some y0 := f0
      have k1 : Try.prog.cellsOf 64 = 1 := by kernel_rfl
      have f1 : DataW.trod enc Try.prog W base spare held m 64 (([c0, c1, c2, c3, c4, c5].drop 1).take (Try.prog.cellsOf 64)) = [y0, y1, y2, y3, y4, y5][1]? := hf 1 _ rfl
      rw [k1] at f1
      have f1 : DataW.trod enc Try.prog W base spare held m 64 [c1] = some y1 := f1
      have k2 : Try.prog.cellsOf 44 = 1 := by kernel_rfl
      have f2 : DataW.trod enc Try.prog W base spare held m 44 (([c0, c1, c2, c3, c4, c5].drop 2).take (Try.prog.cellsOf 44)) = [y0, y1, y2, y3, y4, y5][2]? := hf 2 _ rfl
      rw [k2] at f2
      have f2 : DataW.trod enc Try.prog W base spare held m 44 [c2] = some y2 := f2
      have k3 : Try.prog.cellsOf 9 = 1 := by kernel_rfl
      have f3 : DataW.trod enc Try.prog W base spare held m 9 (([c0, c1, c2, c3, c4, c5].drop 3).take (Try.prog.cellsOf 9)) = [y0, y1, y2, y3, y4, y5][3]? := hf 3 _ rfl
      rw [k3] at f3
      have f3 : DataW.trod enc Try.prog W base spare held m 9 [c3] = some y3 := f3
      have k4 : Try.prog.cellsOf 69 = 1 := by kernel_rfl
      have f4 : DataW.trod enc Try.prog W base spare held m 69 (([c0, c1, c2, c3, c4, c5].drop 4).take (Try.prog.cellsOf 69)) = [y0, y1, y2, y3, y4, y5][4]? := hf 4 _ rfl
      rw [k4] at f4
      have f4 : DataW.trod enc Try.prog W base spare held m 69 [c4] = some y4 := f4
      have k5 : Try.prog.cellsOf 25 = 1 := by kernel_rfl
      have f5 : DataW.trod enc Try.prog W base spare held m 25 (([c0, c1, c2, c3, c4, c5].drop 5).take (Try.prog.cellsOf 25)) = [y0, y1, y2, y3, y4, y5][5]? := hf 5 _ rfl
      rw [k5] at f5
      have f5 : DataW.trod enc Try.prog W base spare held m 25 [c5] = some y5 := f5
      obtain ⟨v0, h0, _, s0⟩ := DataW.trod_int Try.underlying68 f0
      obtain ⟨v1, h1, _, s1⟩ := DataW.trod_int Try.underlying64 f1
      obtain ⟨v2, h2, _, s2⟩ := DataW.trod_int Try.underlying44 f2
      obtain ⟨v3, h3, _, s3⟩ := DataW.trod_string Try.underlying9 f3
      obtain ⟨v4, h4, _, s4⟩ := DataW.trod_int Try.underlying69 f4
      obtain ⟨v5, h5⟩ := open_ints f5
      simp only [List.cons.injEq, and_true] at h0
      subst h0
      simp only [List.cons.injEq, and_true] at h1
      subst h1
      simp only [List.cons.injEq, and_true] at h2
      subst h2
      simp only [List.cons.injEq, and_true] at h3
      subst h3
      simp only [List.cons.injEq, and_true] at h4
      subst h4
      exact ⟨⟨v0, v1, v2, v3, v4, v5⟩, ⟨⟨_, rfl, h5⟩, ⟨u8_ok s2, s3, i64_ok s4⟩⟩, rfl⟩
set_option maxRecDepth 100000 in
theorem stmt_cells {n : Nat} {cs : List Value} {x : DataW H × List MemPlace} (h : DataW.trod enc Try.prog W base spare held n 77 cs = some x) : ∃ d : StmtM, ((StmtR W) d cs ∧ SOk d) ∧ cs.length = 8 := by
  obtain ⟨xs, m, rfl, _, hl, hxs, hf⟩ := DataW.trod_struct Try.underlying77 h
  have hlen : cs.length = 8 := hl.trans (by kernel_rfl)
  match cs, hlen with
  | [c0, c1, c2, c3, c4, c5, c6, c7], _ =>
    match xs, hxs with
    | [y0, y1, y2, y3, y4, y5, y6, y7], _ =>
      have k0 : Try.prog.cellsOf 74 = 1 := by kernel_rfl
      have f0 : DataW.trod enc Try.prog W base spare held m 74 (([c0, c1, c2, c3, c4, c5, c6, c7].drop 0).take (Try.prog.cellsOf 74)) = [y0, y1, y2, y3, y4, y5, y6, y7][0]? := hf 0 _ rfl
      rw [k0] at f0
      have f0 : DataW.trod enc Try.prog W base spare held m 74 [c0] = some y0 := f0
      have k1 : Try.prog.cellsOf 9 = 1 := by kernel_rfl
      have f1 : DataW.trod enc Try.prog W base spare held m 9 (([c0, c1, c2, c3, c4, c5, c6, c7].drop 1).take (Try.prog.cellsOf 9)) = [y0, y1, y2, y3, y4, y5, y6, y7][1]? := hf 1 _ rfl
      rw [k1] at f1
      have f1 : DataW.trod enc Try.prog W base spare held m 9 [c1] = some y1 := f1
      have k2 : Try.prog.cellsOf 44 = 1 := by kernel_rfl
      have f2 : DataW.trod enc Try.prog W base spare held m 44 (([c0, c1, c2, c3, c4, c5, c6, c7].drop 2).take (Try.prog.cellsOf 44)) = [y0, y1, y2, y3, y4, y5, y6, y7][2]? := hf 2 _ rfl
      rw [k2] at f2
      have f2 : DataW.trod enc Try.prog W base spare held m 44 [c2] = some y2 := f2
      have k3 : Try.prog.cellsOf 3 = 1 := by kernel_rfl
      have f3 : DataW.trod enc Try.prog W base spare held m 3 (([c0, c1, c2, c3, c4, c5, c6, c7].drop 3).take (Try.prog.cellsOf 3)) = [y0, y1, y2, y3, y4, y5, y6, y7][3]? := hf 3 _ rfl
      rw [k3] at f3
      have f3 : DataW.trod enc Try.prog W base spare held m 3 [c3] = some y3 := f3
      have k4 : Try.prog.cellsOf 3 = 1 := by kernel_rfl
      have f4 : DataW.trod enc Try.prog W base spare held m 3 (([c0, c1, c2, c3, c4, c5, c6, c7].drop 4).take (Try.prog.cellsOf 3)) = [y0, y1, y2, y3, y4, y5, y6, y7][4]? := hf 4 _ rfl
      rw [k4] at f4
      have f4 : DataW.trod enc Try.prog W base spare held m 3 [c4] = some y4 := f4
      have k5 : Try.prog.cellsOf 75 = 1 := by kernel_rfl
      have f5 : DataW.trod enc Try.prog W base spare held m 75 (([c0, c1, c2, c3, c4, c5, c6, c7].drop 5).take (Try.prog.cellsOf 75)) = [y0, y1, y2, y3, y4, y5, y6, y7][5]? := hf 5 _ rfl
      rw [k5] at f5
      have f5 : DataW.trod enc Try.prog W base spare held m 75 [c5] = some y5 := f5
      have k6 : Try.prog.cellsOf 25 = 1 := by kernel_rfl
      have f6 : DataW.trod enc Try.prog W base spare held m 25 (([c0, c1, c2, c3, c4, c5, c6, c7].drop 6).take (Try.prog.cellsOf 25)) = [y0, y1, y2, y3, y4, y5, y6, y7][6]? := hf 6 _ rfl
      rw [k6] at f6
      have f6 : DataW.trod enc Try.prog W base spare held m 25 [c6] = some y6 := f6
      have k7 : Try.prog.cellsOf 25 = 1 := by kernel_rfl
      have f7 : DataW.trod enc Try.prog W base spare held m 25 (([c0, c1, c2, c3, c4, c5, c6, c7].drop 7).take (Try.prog.cellsOf 25)) = [y0, y1, y2, y3, y4, y5, y6, y7][7]? := hf 7 _ rfl
      rw [k7] at f7
      have f7 : DataW.trod enc Try.prog W base spare held m 25 [c7] = some y7 := f7
      obtain ⟨v0, h0, _, s0⟩ := DataW.trod_int Try.underlying74 f0
      obtain ⟨v1, h1, _, s1⟩ := DataW.trod_string Try.underlying9 f1
      obtain ⟨v2, h2, _, s2⟩ := DataW.trod_int Try.underlying44 f2
      obtain ⟨v3, h3, _, s3⟩ := DataW.trod_int Try.underlying3 f3
      obtain ⟨v4, h4, _, s4⟩ := DataW.trod_int Try.underlying3 f4
      obtain ⟨v5, h5, s5⟩ := open_acts f5
      obtain ⟨v6, h6⟩ := open_ints f6
      obtain ⟨v7, h7⟩ := open_ints f7
      simp only [List.cons.injEq, and_true] at h0
      subst h0
      simp only [List.cons.injEq, and_true] at h1
      subst h1
      simp only [List.cons.injEq, and_true] at h2
      subst h2
      simp only [List.cons.injEq, and_true] at h3
      subst h3
      simp only [List.cons.injEq, and_true] at h4
      subst h4
      exact ⟨⟨v0, v1, v2, v3, v4, v5, v6, v7⟩, ⟨⟨_, _, _, rfl, h5, h6, h7⟩, ⟨u8_ok s2, s1, s5⟩⟩, rfl⟩
theorem open_exprs {v : Value} {fuel : Nat} {x : DataW H × List MemPlace} (h : DataW.trod enc Try.prog W base spare held fuel 23 [v] = some x) : ∃ l : List ExprM, ExprsR W v l ∧ ∀ d ∈ l, EOk d := by
  obtain ⟨l, hl⟩ := open_row Try.underlying23 (by kernel_rfl) (by omega) (fun n cs x h => expr_cells h) h
  exact ⟨l, Row.split hl⟩
theorem open_stmts {v : Value} {fuel : Nat} {x : DataW H × List MemPlace} (h : DataW.trod enc Try.prog W base spare held fuel 24 [v] = some x) : ∃ l : List StmtM, StmtsR W v l ∧ ∀ d ∈ l, SOk d := by
  obtain ⟨l, hl⟩ := open_row Try.underlying24 (by kernel_rfl) (by omega) (fun n cs x h => stmt_cells h) h
  exact ⟨l, Row.split hl⟩
set_option maxRecDepth 100000 in
theorem prog_cells {n : Nat} {c0 c1 c2 c3 : Value} {x : DataW H × List MemPlace} (h : DataW.trod enc Try.prog W base spare held n 27 [c0, c1, c2, c3] = some x) : ∃ p : ProgM, ProgR W (.agg #[c0, c1, c2, c3]) p ∧ POk p := by
  obtain ⟨xs, m, rfl, _, hl, hxs, hf⟩ := DataW.trod_struct Try.underlying27 h
  match xs, hxs with
  | [y0, y1, y2, y3], _ =>
    have k0 : Try.prog.cellsOf 22 = 1 := by kernel_rfl
    have f0 : DataW.trod enc Try.prog W base spare held m 22 (([c0, c1, c2, c3].drop 0).take (Try.prog.cellsOf 22)) = [y0, y1, y2, y3][0]? := hf 0 _ rfl
    rw [k0] at f0
    have f0 : DataW.trod enc Try.prog W base spare held m 22 [c0] = some y0 := f0
    obtain ⟨v0, h0, s0⟩ := open_decls f0
    have k1 : Try.prog.cellsOf 23 = 1 := by kernel_rfl
    have f1 : DataW.trod enc Try.prog W base spare held m 23 (([c0, c1, c2, c3].drop 1).take (Try.prog.cellsOf 23)) = [y0, y1, y2, y3][1]? := hf 1 _ rfl
    rw [k1] at f1
    have f1 : DataW.trod enc Try.prog W base spare held m 23 [c1] = some y1 := f1
    obtain ⟨v1, h1, s1⟩ := open_exprs f1
    have k2 : Try.prog.cellsOf 24 = 1 := by kernel_rfl
    have f2 : DataW.trod enc Try.prog W base spare held m 24 (([c0, c1, c2, c3].drop 2).take (Try.prog.cellsOf 24)) = [y0, y1, y2, y3][2]? := hf 2 _ rfl
    rw [k2] at f2
    have f2 : DataW.trod enc Try.prog W base spare held m 24 [c2] = some y2 := f2
    obtain ⟨v2, h2, s2⟩ := open_stmts f2
    have k3 : Try.prog.cellsOf 25 = 1 := by kernel_rfl
    have f3 : DataW.trod enc Try.prog W base spare held m 25 (([c0, c1, c2, c3].drop 3).take (Try.prog.cellsOf 25)) = [y0, y1, y2, y3][3]? := hf 3 _ rfl
    rw [k3] at f3
    have f3 : DataW.trod enc Try.prog W base spare held m 25 [c3] = some y3 := f3
    obtain ⟨v3, h3⟩ := open_ints f3
    exact ⟨⟨v0, v1, v2, v3⟩, ⟨_, _, _, _, rfl, h0, h1, h2, h3⟩, ⟨s0, s1, s2⟩⟩
theorem part_ok {q : ProgM} (h : POk q) : NumsOk (partS q).p := by
  have hm : ∀ {α : Type} {n : Nat} {l : List α} {x : α}, x ∈ l.take n → x ∈ l := fun h => List.mem_of_mem_take h
  refine ⟨fun d hd => ?_, fun x hx => ?_, fun x hx => ?_⟩
  · obtain ⟨d2, hd2, rfl⟩ := List.mem_map.1 hd
    exact h.decls d2 (hm hd2)
  · obtain ⟨x2, hx2, rfl⟩ := List.mem_map.1 hx
    exact h.exprs x2 (hm hx2)
  · obtain ⟨x2, hx2, rfl⟩ := List.mem_map.1 hx
    obtain ⟨h1, h2, h3⟩ := h.stmts x2 (hm hx2)
    refine ⟨h1, h2, fun a ha => ?_⟩
    obtain ⟨a2, ha2, rfl⟩ := List.mem_map.1 ha
    exact h3 a2 ha2
end
end Go.Proofs.Ytgaginegcjpddaa
/- What must be whatever is asked: two texts read, one written. -/
namespace Go.Proofs.Ytgaginegcjpddaa
open Go.RowKit
theorem ReadP.got {w w' : World} {p : Prg} {a y : Int} {e : Ending} (h : ReadP w (p, a, y) e w') : ∃ E0 e0 E1 e1 E2 e2 E3 e3, e = .returned (.tuple #[.agg #[.slice E0 p.decls.length e0, .slice E1 p.exprs.length e1, .slice E2 p.stmts.length e2, .slice E3 p.main.length e3], .int .i64 a, .int .i64 y]) ∧ Below w.heap.size w w' ∧
    PRd w' (fun b => b < w'.heap.size) (four (.slice E0 p.decls.length e0) (.slice E1 p.exprs.length e1) (.slice E2 p.stmts.length e2) (.slice E3 p.main.length e3)) p := by
  obtain ⟨D, rfl, hb, hd⟩ := h
  obtain ⟨E0, e0, g0, _⟩ := hd.decls.slice
  obtain ⟨E1, e1, g1, _⟩ := hd.exprs.slice
  obtain ⟨E2, e2, g2, _⟩ := hd.stmts.slice
  obtain ⟨E3, e3, g3, _⟩ := hd.main.slice
  refine ⟨E0, e0, E1, e1, E2, e2, E3, e3, by rw [g0, g1, g2, g3], hb, ?_⟩
  have h2 : PRd w' (fun b => b < w'.heap.size) D p := hd.imp fun b _ hb => ⟨hb, rfl⟩
  refine ⟨?_, ?_, ?_, ?_⟩
  · show Row _ _ _ _ (.slice E0 p.decls.length e0) _; rw [← g0]; exact h2.decls
  · show Row _ _ _ _ (.slice E1 p.exprs.length e1) _; rw [← g1]; exact h2.exprs
  · show Row _ _ _ _ (.slice E2 p.stmts.length e2) _; rw [← g2]; exact h2.stmts
  · show Ints _ _ (.slice E3 p.main.length e3) _; rw [← g3]; exact h2.main
theorem PRd.below {w w' : World} {D : Nat → Value} {p : Prg} (h : PRd w (fun b => b < w.heap.size) D p) (hb : Below w.heap.size w w') : PRd w' (fun b => b < w'.heap.size) D p :=
  h.imp fun b hl _ => ⟨Nat.lt_of_lt_of_le hl hb.size, hb.block b hl⟩
/-- a program in a block of its own -/
structure BoxP (w : World) (b : Nat) (v0 v1 v2 v3 : Value) (p : Prg) : Prop where
  blk : w.heap[b]? = some (.cells #[v0, v1, v2, v3] 27 (0, 0))
  prd : PRd w (fun k => k < w.heap.size) (four v0 v1 v2 v3) p
theorem BoxP.below {w w' : World} {b : Nat} {v0 v1 v2 v3 : Value} {p : Prg} (h : BoxP w b v0 v1 v2 v3 p) (hb : Below w.heap.size w w') : BoxP w' b v0 v1 v2 v3 p :=
  ⟨(hb.block b (blk_lt h.blk)).trans h.blk, h.prd.below hb⟩
theorem BoxP.make {w : World} {v0 v1 v2 v3 : Value} {p : Prg} (h : PRd w (fun k => k < w.heap.size) (four v0 v1 v2 v3) p) : BoxP (w.alloc (.cells #[v0, v1, v2, v3] 27 (0, 0))) w.heap.size v0 v1 v2 v3 p :=
  ⟨new_blk _ _, h.below ((Below.refl _ _).alloc (Nat.le_refl _) _)⟩
theorem BoxP.progR {w : World} {b : Nat} {v0 v1 v2 v3 : Value} {p : Prg} (h : BoxP w b v0 v1 v2 v3 p) : ProgR w (.agg #[v0, v1, v2, v3]) p.m := h.prd.progR
theorem BoxP.lt {w : World} {b : Nat} {v0 v1 v2 v3 : Value} {p : Prg} (h : BoxP w b v0 v1 v2 v3 p) : b < w.heap.size := blk_lt h.blk
def src1 : ByteArray := ⟨#[40, 105, 110, 116, 32, 97, 41, 32, 40, 115, 101, 116, 32, 97, 32, 40, 43, 32, 49, 32, 50, 41, 41]⟩
def src2 : ByteArray := ⟨#[40, 115, 101, 116, 32, 97, 32, 40, 111, 119, 110, 41, 41]⟩
def prg1 : Prg := ⟨[⟨⟨#[97]⟩, 1, 1⟩], [{ exprK 1 with of_ := 1, num := 1 }, { exprK 1 with of_ := 1, num := 2 }, { exprK 10 with op := 1, kids := [0, 1] }], [{ stmt0 with kind := 1, name := ⟨#[97]⟩, e := 2 }], [0]⟩
def txt1 : List UInt8 := [40, 105, 110, 116, 32, 97, 41, 10, 40, 115, 101, 116, 32, 97, 32, 40, 43, 32, 49, 32, 50, 41, 41, 10]
theorem live_s1 : sourceS src1 = (prg1, 0, 0) := by kernel_rfl
theorem live_s2 : sourceS src2 = (Prg.none, 7, 8) := by kernel_rfl
def frm1 : WSt := (writtenS prg1).getD ([], [])
theorem live_w : writtenS prg1 = some frm1 := by kernel_rfl
theorem live_r : (readS frm1.1 frm1.2).2.2 = 0 := by kernel_rfl
theorem live_m : prg1.m = (readS frm1.1 frm1.2).1.m := by kernel_rfl
theorem live_p : printS frm1.1 frm1.2 = txt1 := by kernel_rfl
theorem live_t : textOf prg1 = (txt1, 0) := by
  have h : writeS prg1 = (frm1.1, frm1.2, 0) := by
    unfold writeS
    rw [live_w]
    exact if_pos ⟨live_r, live_m⟩
  unfold textOf
  rw [h]
  show (printS frm1.1 frm1.2, (0 : Int)) = _
  rw [live_p]
theorem live_ok : WOk2 prg1 := wOk_of
  { decls := by intro d hd; simp only [prg1, List.mem_singleton] at hd; subst hd; exact szOk_small (by decide)
    exprs := by
      intro x hx
      simp only [prg1, List.mem_cons, List.not_mem_nil, or_false] at hx
      rcases hx with rfl | rfl | rfl <;> exact ⟨by decide, szOk_small (by decide), by unfold InW; decide⟩
    stmts := by
      intro x hx
      simp only [prg1, List.mem_singleton] at hx
      subst hx
      exact ⟨by decide, szOk_small (by decide), by intro a ha; cases ha⟩ }
theorem live_o : readOpS ⟨#[110, 97, 114, 114, 111, 119]⟩ = (19, true) := by kernel_rfl
theorem live_e : opWordS 13 = ⟨#[61]⟩ := by kernel_rfl
set_option maxHeartbeats 6400000 in
set_option maxRecDepth 100000 in
theorem pbLive_any (w : World) : Calls Try.prog 7 #[] w fun e w' => e = .returned (.bool true) ∧ Below w.heap.size w w' := by
  have hL1 : prg1.exprs.length = 3 := rfl
  have hL2 : prg1.stmts.length = 1 := rfl
  have HL := hid (And.intro hL1 hL2)
  have HS1 := hid live_s1; have HS2 := hid live_s2; have HT := hid live_t; have HOK := hid live_ok; have HO := hid live_o; have HE := hid live_e
  clear hL1 hL2
  go_enter Try.func7, Try.ntmps7
  go_upto_region 2 with (go_at_call 11; refine (source_any src1 w).mono ?_; rintro e w1 he; rw [HS1.out] at he; obtain ⟨E0, e0, E1, e1, E2, e2, E3, e3, rfl, hb1, hd1⟩ := ReadP.got he; have HB1 := hid hb1; have HD1 := hid hd1; clear he hb1 hd1)
  have hx2 := BoxP.make HD1.out
  have hB2 := HB1.out.alloc HB1.out.size (.cells #[.slice E0 prg1.decls.length e0, .slice E1 prg1.exprs.length e1, .slice E2 prg1.stmts.length e2, .slice E3 prg1.main.length e3] 27)
  generalize w1.alloc (.cells #[.slice E0 prg1.decls.length e0, .slice E1 prg1.exprs.length e1, .slice E2 prg1.stmts.length e2, .slice E3 prg1.main.length e3] 27) = w2 at hx2 hB2 ⊢
  generalize w1.heap.size = k at hx2 ⊢
  have HX2 := hid hx2; have HB2 := hid hB2
  have x2 := blk_cell HX2.out.blk
  clear hx2 hB2
  go_upto_region 3 with (go_at_call 10; refine (text_any prg1 _ w2 HX2.out.prd HOK.out).mono ?_; rintro e w3 ⟨rfl, hb3⟩; rw [HT.out]; have HX3 := hid (HX2.out.below hb3); have HB3 := hid (HB2.out.trans (hb3.mono HB2.out.size)); clear x2; have x3 := blk_cell HX3.out.blk; clear hb3)
  go_upto_region 4 with (go_at_call 11; refine (source_any src2 w3).mono ?_; rintro e w4 he; rw [HS2.out] at he; obtain ⟨G0, f0, G1, f1, G2, f2, G3, f3, rfl, hb4, hd4⟩ := ReadP.got he; have HX4 := hid (HX3.out.below hb4); have HB4 := hid (HB3.out.trans (hb4.mono HB3.out.size)); clear x3; have x4 := blk_cell HX4.out.blk; clear he hb4 hd4)
  have hba := (Below.refl w4.heap.size w4).alloc (Nat.le_refl _) (.cells #[.slice G0 Prg.none.decls.length f0, .slice G1 Prg.none.exprs.length f1, .slice G2 Prg.none.stmts.length f2, .slice G3 Prg.none.main.length f3] 27)
  have hx5 := HX4.out.below hba
  have hB5 := HB4.out.trans (hba.mono HB4.out.size)
  generalize w4.alloc (.cells #[.slice G0 Prg.none.decls.length f0, .slice G1 Prg.none.exprs.length f1, .slice G2 Prg.none.stmts.length f2, .slice G3 Prg.none.main.length f3] 27) = w5 at hx5 hB5 hba ⊢
  have HX5 := hid hx5; have HB5 := hid hB5
  clear x4 hba hx5 hB5
  have x5 := blk_cell HX5.out.blk
  go_upto_region 5 with (go_at_call 14; refine (readOp_any _ w5 (by decide)).mono ?_; rintro e w6 ⟨rfl, hb6⟩; rw [HO.out]; have HX6 := hid (HX5.out.below hb6); have HB6 := hid (HB5.out.trans (hb6.mono HB5.out.size)); clear x5; have x6 := blk_cell HX6.out.blk; clear hb6)
  rw [HL.out.1, HL.out.2] at x6
  go_wp2_with (go_at_call 15; refine (opWord_any 13 w6 (by decide)).mono ?_; rintro e w7 ⟨rfl, hb7⟩; rw [HE.out])
  go_ret
  exact ⟨rfl, HB6.out.trans (hb7.mono HB6.out.size)⟩
end Go.Proofs.Ytgaginegcjpddaa
/- The law that reading gives back what was written: the walk. -/
namespace Go.Proofs.Ytgaginegcjpddaa
open Go.RowKit
set_option maxHeartbeats 6400000 in
set_option maxRecDepth 100000 in
theorem lawBack (q : ProgM) (A0 A1 A2 A3 : Option Addr) (n0 n1 n2 n3 c0 c1 c2 c3 : Nat) (w : World) (hq : ProgR w (.agg #[.slice A0 n0 c0, .slice A1 n1 c1, .slice A2 n2 c2, .slice A3 n3 c3]) q)
    (hok : WOk2 (partS q).p) (hback : Back (partS q).p) :
    Calls Try.prog 3 #[.agg #[.slice A0 n0 c0, .slice A1 n1 c1, .slice A2 n2 c2, .slice A3 n3 c3]] w fun e w' => e = .returned (.bool true) ∧ Below w.heap.size w w' := by
  obtain ⟨n, hn⟩ : ∃ n, w.heap.size = n := ⟨_, rfl⟩
  have hB1 : Below n w (w.alloc (.cells #[.slice A0 n0 c0, .slice A1 n1 c1, .slice A2 n2 c2, .slice A3 n3 c3] 27)) := (Below.refl n w).alloc (by omega) _
  have b1 : (w.alloc (.cells #[.slice A0 n0 c0, .slice A1 n1 c1, .slice A2 n2 c2, .slice A3 n3 c3] 27)).heap[n]? = some (.cells #[.slice A0 n0 c0, .slice A1 n1 c1, .slice A2 n2 c2, .slice A3 n3 c3] 27 (0, 0)) := by rw [← hn]; exact new_blk _ _
  have hq1 := hq.below ((Below.refl w.heap.size w).alloc (Nat.le_refl _) (.cells #[.slice A0 n0 c0, .slice A1 n1 c1, .slice A2 n2 c2, .slice A3 n3 c3] 27))
  obtain ⟨p, hp⟩ : ∃ p, (partS q).p = p := ⟨_, rfl⟩
  have HPM := hid (show p.m = partS q by rw [← hp]; exact ProgM.pm _)
  rw [hp] at hok hback
  have HB1 := hid hB1; have HN1 := hid b1; have HQ1 := hid hq1; have HOK := hid hok; have HBK := hid hback; have HP := hid hp
  clear hB1 b1 hq1 hok hback hp
  go_enter Try.func3, Try.ntmps3
  go_upto_region 1 with fail
  generalize w.alloc (.cells #[.slice A0 n0 c0, .slice A1 n1 c1, .slice A2 n2 c2, .slice A3 n3 c3] 27) = w1 at HB1 HN1 HQ1 ⊢
  have x1 := blk_cell HN1.out; have xf := blk_free HN1.out
  go_upto_region 2 with (go_at_call 5; refine (part_any q _ w1 HQ1.out).mono ?_; rintro e w2 ⟨⟨a0, a1, a2, a3, rfl, hA⟩, hb2⟩; have hB2 := HB1.out.trans (hb2.mono (by have := blk_lt HN1.out; omega : n ≤ w1.heap.size)); obtain ⟨B0, m0, d0, B1, m1, d1, B2, m2, d2, B3, m3, d3, rfl, rfl, rfl, rfl⟩ := (hA w2 (hq.below (by rw [hn]; exact hB2))).slices; have b2 := (hb2.block n (blk_lt HN1.out)).trans HN1.out; clear x1 xf; have x2 := blk_cell b2; have xf2 := blk_free b2; have HN2 := hid b2; have HB2 := hid hB2; have HA := hid hA; clear b2 hB2 hA hb2)
  have b3 := set_prog HN2.out (.slice B0 m0 d0) (.slice B1 m1 d1) (.slice B2 m2 d2) (.slice B3 m3 d3)
  have hB3 := (((HB2.out.setCell (p := ⟨n, 0, none⟩) (Nat.le_refl _) (.slice B0 m0 d0)).setCell (p := ⟨n, 1, none⟩) (Nat.le_refl _) (.slice B1 m1 d1)).setCell (p := ⟨n, 2, none⟩) (Nat.le_refl _) (.slice B2 m2 d2)).setCell (p := ⟨n, 3, none⟩) (Nat.le_refl _) (.slice B3 m3 d3)
  generalize (((w2.setCell ⟨n, 0, none⟩ (.slice B0 m0 d0)).setCell ⟨n, 1, none⟩ (.slice B1 m1 d1)).setCell ⟨n, 2, none⟩ (.slice B2 m2 d2)).setCell ⟨n, 3, none⟩ (.slice B3 m3 d3) = w3 at b3 hB3 ⊢
  have hpr : ∀ w', Below n w w' → ProgR w' (.agg #[.slice B0 m0 d0, .slice B1 m1 d1, .slice B2 m2 d2, .slice B3 m3 d3]) p.m := fun w' h => by rw [HPM.out]; exact HA.out w' (hq.below (by rw [hn]; exact h))
  have hpd : ∀ w', Below n w w' → PRd w' (fun b => b < w'.heap.size) (four (.slice B0 m0 d0) (.slice B1 m1 d1) (.slice B2 m2 d2) (.slice B3 m3 d3)) p := fun w' h => by rw [← HP.out]; exact (HA.out w' (hq.below (by rw [hn]; exact h))).prd
  have hcw : ∀ w', Below n w w' → Calls Try.prog 6 #[.agg #[.slice B0 m0 d0, .slice B1 m1 d1, .slice B2 m2 d2, .slice B3 m3 d3]] w' (WriteP w' (writeS p)) := fun w' h => write_any p (four (.slice B0 m0 d0) (.slice B1 m1 d1) (.slice B2 m2 d2) (.slice B3 m3 d3)) w' (hpd w' h) HOK.out.toWOk
  have hcs : ∀ w', Below n w w' → Calls Try.prog 8 #[.agg #[.slice B0 m0 d0, .slice B1 m1 d1, .slice B2 m2 d2, .slice B3 m3 d3]] w' fun e w'' => e = .returned (.bool ((writeS p).2.2 == 0)) ∧ Below w'.heap.size w' w'' := fun w' h => sound_any p (four (.slice B0 m0 d0) (.slice B1 m1 d1) (.slice B2 m2 d2) (.slice B3 m3 d3)) w' (hpd w' h) HOK.out.toWOk
  have hct : ∀ w', Below n w w' → Calls Try.prog 10 #[.agg #[.slice B0 m0 d0, .slice B1 m1 d1, .slice B2 m2 d2, .slice B3 m3 d3]] w' fun e w'' => e = .returned (.tuple #[.string ⟨(textOf p).1.toArray⟩, .int .i64 (textOf p).2]) ∧ Below w'.heap.size w' w'' := fun w' h => text_any p (four (.slice B0 m0 d0) (.slice B1 m1 d1) (.slice B2 m2 d2) (.slice B3 m3 d3)) w' (hpd w' h) HOK.out
  have HPR := hid hpr; have HCW := hid hcw; have HCS := hid hcs; have HCT := hid hct
  have x3 := blk_cell b3; have xf3 := blk_free b3
  have HN3 := hid b3; have HB3 := hid hB3
  have hlt3 := blk_lt b3
  clear x2 xf2 b3 hB3 hpr hpd hcw hcs hct
  rcases writeS_cases p with hw | ⟨s, hs, hw, hr, hrm⟩
  · have HCW2 := HCW; have HCS2 := HCS
    rw [hw] at HCW2 HCS2
    go_wp2_with (first | (go_at_call 6; refine (HCW2.out w3 HB3.out).mono ?_; rintro e w4 ⟨fv, tv, rfl, hb4, hf4, _⟩; obtain ⟨fA, fc, rfl, _⟩ := hf4.slice; have b4 := (hb4.block n hlt3).trans HN3.out; clear x3 xf3; have x4 := blk_cell b4; have HB4 := hid (HB3.out.trans (hb4.mono (Nat.le_of_lt hlt3))); have hlt4 := blk_lt b4; have HN4 := hid b4; clear b4 hb4 hf4) | (go_at_call 7; refine (pbLive_any w4).mono ?_; rintro e w5 ⟨rfl, hb5⟩; have b5 := (hb5.block n hlt4).trans HN4.out; clear x4; have x5 := blk_cell b5; have HB5 := hid (HB4.out.trans (hb5.mono (Nat.le_of_lt hlt4))); have hlt5 := blk_lt b5; clear b5 hb5) | (go_at_call 8; refine (HCS2.out w5 HB5.out).mono ?_; rintro e w6 ⟨rfl, hb6⟩; have HB6 := hid (HB5.out.trans (hb6.mono (Nat.le_of_lt hlt5))); clear hb6))
    go_ret
    exact ⟨rfl, by rw [hn]; exact HB6.out⟩
  · have HCW2 := HCW
    rw [hw] at HCW2
    have hT : textOf p = (printS s.1 s.2, 0) := by unfold textOf; rw [hw]; rfl
    have hbk := HBK.out
    unfold Back at hbk
    rw [hT, hw] at hbk
    have hbk2 := hbk rfl
    rw [hT] at HCT
    obtain ⟨RS, hRS⟩ : ∃ RS, readS s.1 s.2 = RS := ⟨_, rfl⟩
    obtain ⟨r0, r1, r2⟩ := RS
    obtain ⟨SS, hSS⟩ : ∃ SS, sourceS ⟨(printS s.1 s.2).toArray⟩ = SS := ⟨_, rfl⟩
    obtain ⟨s0, s1, s2⟩ := SS
    rw [hRS] at hr hrm
    simp only at hr hrm
    subst hr
    simp only [hSS] at hbk2
    have htx := HOK.out.texts s hs
    have HRS := hid hRS; have HSS := hid hSS; have HTX := hid htx; have HBK2 := hid hbk2; have HRM := hid (show EqP p.m r0.m from hrm)
    clear hRS hSS htx hbk2 hrm hbk hT hw hs HBK
    go_upto_region 8 with (first | (go_at_call 6; refine (HCW2.out w3 HB3.out).mono ?_; rintro e w4 ⟨fv, tv, rfl, hb4, hf4, ht4⟩; obtain ⟨fA, fc, rfl, _⟩ := hf4.slice; have b4 := (hb4.block n hlt3).trans HN3.out; clear x3 xf3; have x4 := blk_cell b4; have HB4 := hid (HB3.out.trans (hb4.mono (Nat.le_of_lt hlt3))); have hlt4 := blk_lt b4; have HN4 := hid b4; have HF4 := hid (hf4.imp0 (w' := w4) (D' := fun b => b < w4.heap.size) fun b _ hb => ⟨hb, rfl⟩); have HT4 := hid (ht4.imp (w' := w4) (D' := fun b => b < w4.heap.size) fun b _ hb => ⟨hb, rfl⟩); clear b4 hb4 hf4 ht4) | (go_at_call 9; refine (read_any s.1 s.2 _ _ w4 HF4.out HT4.out HTX.out).mono ?_; rintro e w5 he; rw [HRS.out] at he; obtain ⟨D5, rfl, hb5, hd5⟩ := he; obtain ⟨E0, e0, g0, _⟩ := hd5.decls.slice; obtain ⟨E1, e1, g1, _⟩ := hd5.exprs.slice; obtain ⟨E2, e2, g2, _⟩ := hd5.stmts.slice; obtain ⟨E3, e3, g3, _⟩ := hd5.main.slice; have hq5 := hd5.progR; simp only [g0, g1, g2, g3] at hq5 ⊢; have b5 := (hb5.block n hlt4).trans HN4.out; clear x4; have HN5 := hid b5; have hlt5 := blk_lt b5; have x5 := blk_cell (old_blk b5 (.cells #[.slice E0 r0.decls.length e0, .slice E1 r0.exprs.length e1, .slice E2 r0.stmts.length e2, .slice E3 r0.main.length e3] 27 (0, 0))); have HB5 := hid (HB4.out.trans (hb5.mono (Nat.le_of_lt hlt4))); have HQ5 := hid hq5; clear hd5 hq5 g0 g1 g2 g3 b5 hb5) | (go_at_call 10; have hz5 : (w5.alloc (.cells #[.slice E0 r0.decls.length e0, .slice E1 r0.exprs.length e1, .slice E2 r0.stmts.length e2, .slice E3 r0.main.length e3] 27)).heap.size = w5.heap.size + 1 := World.size_alloc _ _; have hB5a := HB5.out.alloc (Nat.le_of_lt hlt5) (.cells #[.slice E0 r0.decls.length e0, .slice E1 r0.exprs.length e1, .slice E2 r0.stmts.length e2, .slice E3 r0.main.length e3] 27); refine (HCT.out _ hB5a).mono ?_; rintro e w6 ⟨rfl, hb6⟩; have n6 := (hb6.block n (by omega)).trans (old_blk HN5.out (.cells #[.slice E0 r0.decls.length e0, .slice E1 r0.exprs.length e1, .slice E2 r0.stmts.length e2, .slice E3 r0.main.length e3] 27)); have k6 := (hb6.block w5.heap.size (by omega)).trans (new_blk w5 (.cells #[.slice E0 r0.decls.length e0, .slice E1 r0.exprs.length e1, .slice E2 r0.stmts.length e2, .slice E3 r0.main.length e3] 27)); clear x5; have x6 := blk_cell n6; have y6 := blk_cell k6; have HN6 := hid n6; have HK6 := hid k6; have hlt6 := blk_lt k6; have HB6 := hid (hB5a.trans (hb6.mono (by omega))); have HQ6 := hid ((HQ5.out.below ((Below.refl w5.heap.size w5).alloc (Nat.le_refl _) (.cells #[.slice E0 r0.decls.length e0, .slice E1 r0.exprs.length e1, .slice E2 r0.stmts.length e2, .slice E3 r0.main.length e3] 27))).below hb6); clear n6 k6 hb6 hB5a) | (go_at_call 11; refine (source_any _ w6).mono ?_; rintro e w7 he; rw [HSS.out] at he; obtain ⟨D7, rfl, hb7, hd7⟩ := he; obtain ⟨G0, f0, g0, _⟩ := hd7.decls.slice; obtain ⟨G1, f1, g1, _⟩ := hd7.exprs.slice; obtain ⟨G2, f2, g2, _⟩ := hd7.stmts.slice; obtain ⟨G3, f3, g3, _⟩ := hd7.main.slice; have hq7 := hd7.progR; simp only [g0, g1, g2, g3] at hq7 ⊢; have n7 := (hb7.block n (by omega)).trans HN6.out; have k7 := (hb7.block w5.heap.size hlt6).trans HK6.out; clear x6 y6; have HQ7 := hid hq7; have HN7 := hid n7; have HK7 := hid k7; have HB7 := hid (HB6.out.trans (hb7.mono (by omega))); have HE7 := hid (HQ6.out.below hb7); have hz7 := hb7.size; clear hd7 hq7 g0 g1 g2 g3 n7 k7 hb7))
    have hBa := HB7.out.alloc (by omega) (.cells #[.slice G0 s0.decls.length f0, .slice G1 s0.exprs.length f1, .slice G2 s0.stmts.length f2, .slice G3 s0.main.length f3] 27)
    have hba := (Below.refl w7.heap.size w7).alloc (Nat.le_refl _) (.cells #[.slice G0 s0.decls.length f0, .slice G1 s0.exprs.length f1, .slice G2 s0.stmts.length f2, .slice G3 s0.main.length f3] 27)
    have n8 := old_blk HN7.out (.cells #[.slice G0 s0.decls.length f0, .slice G1 s0.exprs.length f1, .slice G2 s0.stmts.length f2, .slice G3 s0.main.length f3] 27)
    have k8 := old_blk HK7.out (.cells #[.slice G0 s0.decls.length f0, .slice G1 s0.exprs.length f1, .slice G2 s0.stmts.length f2, .slice G3 s0.main.length f3] 27)
    have m8 := new_blk w7 (.cells #[.slice G0 s0.decls.length f0, .slice G1 s0.exprs.length f1, .slice G2 s0.stmts.length f2, .slice G3 s0.main.length f3] 27)
    have q8 := HQ7.out.below hba
    have e8 := HE7.out.below hba
    generalize w7.alloc (.cells #[.slice G0 s0.decls.length f0, .slice G1 s0.exprs.length f1, .slice G2 s0.stmts.length f2, .slice G3 s0.main.length f3] 27) = w8 at hBa hba n8 k8 m8 q8 e8 ⊢
    obtain ⟨tb, htb⟩ : ∃ tb, w7.heap.size = tb := ⟨_, rfl⟩
    obtain ⟨kb, hkb⟩ : ∃ kb, w5.heap.size = kb := ⟨_, rfl⟩
    rw [hkb] at k8
    rw [htb] at m8
    have x8 := blk_cell n8; have y8 := blk_cell k8; have v8 := blk_cell m8
    have HB8 := hid hBa; have HN8 := hid n8; have HM8 := hid m8; have HQ8 := hid q8; have HE8 := hid e8; have hlt8 := blk_lt n8; have hlm8 := blk_lt m8
    clear hba hBa n8 k8 m8 q8 e8
    go_upto_region 10 with (go_at_call 12; refine (progSame_any p.m r0.m _ _ w8 (HPR.out w8 HB8.out) HE8.out).mono ?_; rintro e w9 ⟨⟨b0, rfl, hr0⟩, hb9⟩; obtain rfl : b0 = true := hr0.2 HRM.out; have n9 := (hb9.block n hlt8).trans HN8.out; have m9 := (hb9.block tb hlm8).trans HM8.out; clear x8 y8 v8; have x9 := blk_cell n9; have v9 := blk_cell m9; have HB9 := hid (HB8.out.trans (hb9.mono (Nat.le_of_lt hlt8))); have HQ9 := hid (HQ8.out.below hb9); have HN9 := hid n9; have HM9 := hid m9; have hlt9 := blk_lt n9; have hlm9 := blk_lt m9; clear n9 m9 hb9 hr0)
    rcases HBK2.out with ⟨hs2, hlen⟩ | ⟨hs2, hm⟩
    · subst hs2
      by_cases hbig : 3000 < (printS s.1 s.2).length
      · have hbi : (3000 : Int) < ((printS s.1 s.2).toArray.size : Int) := by simp; omega
        have hbi2 : (3000 : Int) < ((printS s.1 s.2).length : Int) := by omega
        have hbi3 : (3000 : Int) < ((⟨(printS s.1 s.2).toArray⟩ : ByteArray).size : Int) := by show (3000 : Int) < ((printS s.1 s.2).toArray.size : Int); simp; omega
        go_wp2_with (go_at_call 7; refine (pbLive_any w9).mono ?_; rintro e w10 ⟨rfl, hb10⟩)
        go_ret
        exact ⟨ret_bool (by simp [*]), by rw [hn]; exact HB9.out.trans (hb10.mono (Nat.le_of_lt hlt9))⟩
      · have h200 : 200 < s.1.length := by omega
        have hbi : ¬ ((3000 : Int) < ((printS s.1 s.2).toArray.size : Int)) := by simp; omega
        have hbi2 : ¬ ((3000 : Int) < ((printS s.1 s.2).length : Int)) := by omega
        have hbi3 : ¬ ((3000 : Int) < ((⟨(printS s.1 s.2).toArray⟩ : ByteArray).size : Int)) := by show ¬ ((3000 : Int) < ((printS s.1 s.2).toArray.size : Int)); simp; omega
        have h2i : (200 : Int) < (s.1.length : Int) := by omega
        go_wp2_with (go_at_call 7; refine (pbLive_any w9).mono ?_; rintro e w10 ⟨rfl, hb10⟩)
        go_ret
        exact ⟨ret_bool (by simp [*]), by rw [hn]; exact HB9.out.trans (hb10.mono (Nat.le_of_lt hlt9))⟩
    · subst hs2
      go_wp2_with (first | (go_at_call 7; refine (pbLive_any w9).mono ?_; rintro e w10 ⟨rfl, hb10⟩; clear x9 v9; have n10 := (hb10.block n hlt9).trans HN9.out; have m10 := (hb10.block tb hlm9).trans HM9.out; have x10 := blk_cell n10; have v10 := blk_cell m10; have HB10 := hid (HB9.out.trans (hb10.mono (Nat.le_of_lt hlt9))); have HQ10 := hid (HQ9.out.below hb10); clear n10 m10 hb10) | (go_at_call 12; refine (progSame_any p.m s0.m _ _ w10 (HPR.out w10 HB10.out) HQ10.out).mono ?_; rintro e w11 ⟨⟨b1, rfl, hr1⟩, hb11⟩; obtain rfl : b1 = true := hr1.2 hm; clear hr1))
      go_ret
      exact ⟨rfl, by rw [hn]; exact HB10.out.trans (hb11.mono (by have := HB10.out.size; omega))⟩
end Go.Proofs.Ytgaginegcjpddaa
/- Reading takes writing back: the row. -/
namespace Go.Proofs.Ytgaginegcjpddaa.progBack
open Go.ChangeShapes Go.WideShapes Go.ChangeAt Go.RowKit Go.ChangeMaps
theorem own : ownKnob Try.prog.godebug = none := by kernel_rfl
theorem laidOut : laidOutB Try.prog = true := by kernel_rfl
theorem okWide_struct {P : Program} {w : World} {r : Reach} {base : Nat} {t : TypeId} {fs : Array Field} {v : Value} (ht : P.underlying t = some (.struct fs)) (h : Value.okWide P w r base t v) : ∃ cs, v = .agg cs ∧ cs.size = P.cellsOf t := by
  simp only [Value.okWide, ht] at h
  obtain ⟨cs, h1, h2, _⟩ := h
  exact ⟨cs, h1, h2⟩
theorem arr4 {α : Type} {cs : Array α} (h : cs.size = 4) : ∃ a b c d, cs = #[a, b, c, d] := by
  obtain ⟨l⟩ := cs
  match l, h with
  | [a, b, c, d], _ => exact ⟨a, b, c, d, rfl⟩
set_option maxRecDepth 100000 in
theorem lifted (os : Os) (started : os.Started) (H : Type) (enc : TypeId × Value → H) :
    ReturnsInHanded {} Try.checked os 3 .any (Rows.progBackSpec.pre6 enc Try.prog Try.f3 Rows.progBackRow.domain false) (Rows.progBackSpec.post enc Try.prog Try.f3 false true false false) := by
  refine returnsInHanded_of_change_sized (C := Try.checked) own started (by kernel_rfl) Try.func3
    (ChangeSpec.witness6 (enc := enc) (C := Try.checked) false ⟨#[], #[.agg #[.slice none 0 0, .slice none 0 0, .slice none 0 0, .slice none 0 0]], []⟩ 8 (by kernel_rfl) (by kernel_rfl) (by kernel_rfl) (by kernel_rfl)) ?_
  intro W base args ds gs before hval0 hW hcnd hsz0 _
  have hval : ∀ (j : Nat) t v, Try.f3.params[j]? = some t → args[j]? = some v → Value.okWide Try.prog W .any base t v := hval0
  have hW' := hW
  obtain ⟨p, q, hA0, hV, rfl, hfz, hnd⟩ := hW
  have hA : DataW.TrodAll enc Try.prog W 0 (fun _ => true) true Try.f3.params.toList args.toList ds p := hA0
  rw [Try.params3] at hA hval
  obtain ⟨v0, vs0, d0, ds0, p0, q0, hargs, rfl, rfl, h0, r0⟩ := trodAll_cons hA
  obtain ⟨rfl, rfl, rfl⟩ := trodAll_nil r0
  obtain rfl : args = #[v0] := by cases args; simp_all
  obtain ⟨rfl, rfl⟩ := trodVars_none hV
  obtain ⟨cs, rfl, hcz⟩ := okWide_struct Try.underlying27 (hval 0 27 v0 rfl rfl)
  obtain ⟨x0, x1, x2, x3, rfl⟩ := arr4 (hcz.trans (show Try.prog.cellsOf 27 = 4 by kernel_rfl))
  have lt0 : ∀ x ∈ p0, x.block < W.heap.size := by obtain ⟨m, hm⟩ := h0; exact DataW.trod_lt m _ _ _ hm
  obtain ⟨pp, hp, hok⟩ : ∃ p : ProgM, ProgR W (.agg #[x0, x1, x2, x3]) p ∧ POk p := by
    obtain ⟨fuel, hf⟩ := h0
    exact prog_cells hf
  obtain ⟨_, _, _, _, _, _, _, _, _, _, _, _, rfl, rfl, rfl, rfl⟩ := hp.slices
  clear hA0 hval0 hsz0
  have hw2 := wOk_of (part_ok hok)
  refine (lawBack pp _ _ _ _ _ _ _ _ _ _ _ _ W hp hw2 (back_any _ hw2)).mono fun e W' ⟨he, bel⟩ => ?_
  subst he
  exact ⟨_, rfl, _, _, _, [], _, [], hW', trodAll_mk1 (shut_bool Try.underlying4 true), (trodAll_cons_mk (Below.trod laidOut (by kernel_rfl) (of_decide_eq_true (by kernel_rfl)) h0 bel lt0) trodAll_mk0), rfl, bel.frame _, fun h => by cases h⟩
end Go.Proofs.Ytgaginegcjpddaa.progBack
/- Reading takes writing back: what is joined, limb by limb (together they are too much for one theorem). -/
noncomputable section
namespace Go.Proofs.Ytgaginegcjpddaa.progBack
open Go.ChangeShapes Go.WideShapes Go.ChangeAt Go.RowKit
noncomputable def P : Program := Try.pinned.checked.prog
noncomputable def f : FuncId := 3
noncomputable def fn : Func := Try.f3
noncomputable def s : ChangeSpec := Rows.progBackSpec
noncomputable def c : OpenClaim := Rows.progBackRow
theorem j0 : (c.wf (OpenSpec.ofChange s)) = true := by kernel_rfl
theorem j1 : (laidOutB P) = true := by kernel_rfl
theorem j2 : (mapsRowed P) = true := by kernel_rfl
theorem j3 : (fn.params.all (P.readableRec ·)) = true := by kernel_rfl
theorem j4 : (namedTie P c.named s.vars) = true := by kernel_rfl
theorem j5 : ((c.stops == [])) = true := by kernel_rfl
theorem j6 : ((P.stops == [])) = true := by kernel_rfl
theorem j7 : ((c.knobs == [])) = true := by kernel_rfl
theorem j8 : ((P.stopKnobs == [])) = true := by kernel_rfl
theorem j9 : ((c.inPlace == P.inPlace f)) = true := by kernel_rfl
theorem j10 : ((c.unfollowed == P.unfollowed f)) = true := by kernel_rfl
theorem j11 : ((c.recurses == P.recurses f)) = true := by kernel_rfl
theorem j12 : ((c.named == P.varsNamed f)) = true := by kernel_rfl
theorem j13 : ((c.maps == (fn.params.toList ++ s.plain.varTypes P).any (P.mapsRec ·))) = true := by kernel_rfl
theorem j14 : ((c.ifaces == (fn.params.toList ++ s.plain.varTypes P).any (P.ifacesRec ·))) = true := by kernel_rfl
theorem j15 : ((c.mapsOut == P.mapsAmong fn.resultTypes.toList)) = true := by kernel_rfl
theorem j16 : ((c.loops == (fn.params.toList ++ s.plain.varTypes P).any (P.loopsFrom ·))) = true := by kernel_rfl
theorem j17 : ((c.wideKeys == (fn.params.toList ++ s.plain.varTypes P ++ fn.resultTypes.toList).any (P.wideKeysFrom ·))) = true := by kernel_rfl
theorem j18 : (s.vars.all (P.varReadable ·)) = true := by kernel_rfl
theorem j19 : (fn.resultTypes.all (fun t => P.readableRec t && decide (t < P.types.size))) = true := by kernel_rfl
theorem j20 : ((c.ifacesOut == fn.resultTypes.toList.any (P.ifacesRec ·))) = true := by kernel_rfl
theorem j21 : ((c.loopsOut == fn.resultTypes.toList.any (P.loopsFrom ·))) = true := by kernel_rfl
theorem j22 : ((c.plainKeys == P.plainKeys)) = true := by kernel_rfl
theorem j23 : (c.shortTexts.isNone) = true := by kernel_rfl
theorem j24 : (P.stopsHeard) = true := by kernel_rfl
theorem j25 : (P.mayEnter) = true := by kernel_rfl
theorem j26 : ((c.lifted == P.liftsFinal)) = true := by kernel_rfl
theorem j27 : ((P.make == some c.make)) = true := by kernel_rfl
theorem j28 : ((c.kinds == (if c.domain.isEmpty then [] else fn.params.toList.map fun t => match P.underlying t with | some (.int k) => some k | _ => none))) = true := by kernel_rfl
theorem j29 : ((c.pinned == c.pinnedBy)) = true := by kernel_rfl
theorem j30 : ((c.veiled == (fn.params.toList ++ s.plain.varTypes P ++ fn.resultTypes.toList).any (P.veiledRec ·))) = true := by kernel_rfl
theorem j31 : (c.veiledFits P fn.params.toList (fn.params.toList ++ s.plain.varTypes P ++ fn.resultTypes.toList)) = true := by kernel_rfl
theorem andT {a b : Bool} (ha : a = true) (hb : b = true) : (a && b) = true := by rw [ha, hb]; rfl
set_option maxRecDepth 100000 in
theorem joined : joinedFacts P f fn s c = true := by
  unfold joinedFacts
  exact (andT (andT (andT (andT (andT (andT (andT (andT (andT (andT (andT (andT (andT (andT (andT (andT (andT (andT (andT (andT (andT (andT (andT (andT (andT (andT (andT (andT (andT (andT (andT j0 j1) j2) j3) j4) j5) j6) j7) j8) j9) j10) j11) j12) j13) j14) j15) j16) j17) j18) j19) j20) j21) j22) j23) j24) j25) j26) j27) j28) j29) j30) j31)
end Go.Proofs.Ytgaginegcjpddaa.progBack
/- Reading gives back what was written, of forms and of text as far as it is a text: proved for every program. Conditions: none but those of the row. -/

noncomputable section
namespace Go.Proofs.Ytgaginegcjpddaa.progBack
open Go.ChangeShapes Go.WideShapes Go.ChangeAt Go.RowKit
theorem named : Try.pinned.checked.prog.funcNamed Rows.progBackRow.func = some 3 := by kernel_rfl
theorem instance_ : Func.isInstance Try.pinned.checked.prog Try.f3 Rows.progBackRow.origin Rows.progBackRow.targs := of_decide_eq_true (by kernel_rfl)
theorem wrapper : Func.isWrapper Try.pinned.checked.prog Try.f3 Rows.progBackRow.wrapper Rows.progBackRow.mainSum := by unfold Func.isWrapper; first | (rw [if_pos (by decide +kernel)]; kernel_rfl) | (rw [if_neg (by decide +kernel)]; exact ⟨rfl, rfl⟩)
theorem over : Rows.progBackRow.holds Try.pinned (OpenSpec.ofChange Rows.progBackSpec) :=
  OpenClaim.holds_of_wide 3 Try.f3 rfl rfl rfl rfl rfl rfl rfl ⟨rfl, rfl, rfl, rfl, rfl⟩ rfl rfl rfl rfl rfl named Try.func3 joined
    instance_ wrapper
    (fun os started H enc _ => lifted os started H enc)
end Go.Proofs.Ytgaginegcjpddaa.progBack
namespace Go.Proofs.Ytgaginegcjpddaa
theorem progBack_holds : Rows.ProgBackSaid := progBack.over
end Go.Proofs.Ytgaginegcjpddaa
