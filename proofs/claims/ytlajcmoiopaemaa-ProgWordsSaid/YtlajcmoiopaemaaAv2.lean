/- Reading and writing the abstract heap. No program in sight. -/
import Derived.Test.YtlajcmoiopaemaaAv1
import Derived.WalkKit
import Derived.Laws.CopyRow
import Derived.Laws.Cells
import Derived.RangeFuncRecord
import Derived.ChangeKeysEq
set_option linter.unusedVariables false
set_option linter.unusedSimpArgs false
noncomputable section
namespace Go.Proofs.Ytlajcmoiopaemaa
inductive APl where
  | heap (id gen off : Nat)
  | cont (cells : List AV) (off : Nat)
def AV.place : AV → Option APl
  | .ptr id g off => some (.heap id g off)
  | .cptr cells off => some (.cont cells off)
  | _ => none
def APl.ptr : APl → AV
  | .heap id g off => .ptr id g off
  | .cont cells off => .cptr cells off
def APl.add : APl → Nat → APl
  | .heap id g off, n => .heap id g (off + n)
  | .cont cells off, n => .cont cells (off + n)
def PR (G : Gh) (a : Addr) : APl → Prop
  | .heap id g off => id < G.n ∧ g ≤ G.gen id ∧ (g = G.gen id → a = ⟨G.blk id, G.base id + off, none⟩)
  | .cont cells off => ∃ b base arr, G.z b = some arr ∧ a = ⟨b, base + off, none⟩ ∧ base + cells.length ≤ arr.length ∧ VRs G ((arr.drop base).take cells.length) cells
theorem add_at (b o n : Nat) : (⟨b, o, none⟩ : Addr).add n = ⟨b, o + n, none⟩ := by unfold Addr.add; split <;> simp_all
theorem PR.add {G : Gh} {a : Addr} {p : APl} (h : PR G a p) (n : Nat) : PR G (a.add n) (p.add n) := by
  cases p with
  | heap id g off =>
    obtain ⟨h1, h2, h3⟩ := h
    exact ⟨h1, h2, fun e => by rw [h3 e, add_at, Nat.add_assoc]⟩
  | cont cells off =>
    obtain ⟨b, base, arr, h1, h2, h3, h4⟩ := h
    exact ⟨b, base, arr, h1, by rw [h2, add_at, Nat.add_assoc], h3, h4⟩
def rd (H : AH) : APl → Nat → Option (List AV)
  | .heap id g off, n => match H.get id with
    | .cells cs g' _ => match Nat.beq g g' && Nat.ble (off + n) cs.length with
      | true => some ((cs.drop off).take n)
      | false => none
    | _ => none
  | .cont cells off, n => match Nat.ble (off + n) cells.length with
    | true => some ((cells.drop off).take n)
    | false => none
theorem take_drop_get {α : Type} {l : List α} {a b j n : Nat} {x : α} (h : (((l.drop a).drop b).take n)[j]? = some x) : l[a + b + j]? = some x := by
  rw [List.getElem?_take] at h
  split at h
  · rw [List.getElem?_drop, List.getElem?_drop] at h; rw [← h]; congr 1; omega
  · cases h
theorem sub_list {α : Type} (l : List α) (base n off k : Nat) (h : off + k ≤ n) : (((l.drop base).take n).drop off).take k = (l.drop (base + off)).take k := by
  rw [List.drop_take, List.drop_drop, List.take_take]
  congr 1; omega
theorem rd_sound {w : World} {G : Gh} {H : AH} (hR : Rel w G H) {a : Addr} {p : APl} (hp : PR G a p) {n : Nat} {us : List AV} (h : rd H p n = some us) :
    ∃ xs : List Value, xs.length = n ∧ VRs G xs us ∧ ∀ j x, xs[j]? = some x → w.cell? (a.add j) = some x := by
  cases p with
  | heap id g off =>
    simp only [rd] at h
    split at h <;> try (cases h; done)
    rename_i cs g' xx hget
    split at h <;> simp only [Option.some.injEq, reduceCtorEq] at h
    rename_i hc
    simp only [Bool.and_eq_true, Nat.beq_eq, Nat.ble_eq] at hc
    obtain ⟨rfl, hle⟩ := hc
    have hid : id < H.n := AH.lt_of_get (by rw [hget]; simp)
    have hO := hR.obj id hid
    rw [hget] at hO
    obtain ⟨hg, arr, t, fr, hb, hfr, hroom, hlen, hv, _⟩ := hO
    obtain ⟨_, _, h3⟩ := hp
    obtain rfl := h3 hg
    subst h
    refine ⟨(arr.toList.drop (G.base id + off)).take n, ?_, ?_, fun j x hx => ?_⟩
    · rw [List.length_take, List.length_drop, Array.length_toList]; omega
    · have := (hv.drop off).take n
      rwa [sub_list _ _ _ _ _ hle] at this
    · rw [add_at]
      have h1 : j < n := by
        have := (List.getElem?_eq_some_iff.1 hx).1
        rw [List.length_take] at this; omega
      rw [List.getElem?_take, if_pos h1, List.getElem?_drop] at hx
      simp only [World.cell?, hb]
      simpa using hx
  | cont cells off =>
    simp only [rd] at h
    split at h <;> simp only [Option.some.injEq, reduceCtorEq] at h
    rename_i hc
    have hle := Nat.le_of_ble_eq_true hc
    obtain ⟨b, base, arr, hz, rfl, hlen, hv⟩ := hp
    obtain ⟨t, fr, hb⟩ := hR.zin b arr hz
    subst h
    refine ⟨(arr.drop (base + off)).take n, ?_, ?_, fun j x hx => ?_⟩
    · rw [List.length_take, List.length_drop]; omega
    · have := (hv.drop off).take n
      rwa [sub_list _ _ _ _ _ hle] at this
    · rw [add_at]
      have h1 : j < n := by
        have := (List.getElem?_eq_some_iff.1 hx).1
        rw [List.length_take] at this; omega
      rw [List.getElem?_take, if_pos h1, List.getElem?_drop] at hx
      simp only [World.cell?, hb]
      simpa using hx
def AV.one : AV → Bool
  | .any | .agg _ | .tuple _ => false
  | .v x => x.oneCell'
  | _ => true
theorem VR.one {G : Gh} {x : Value} {u : AV} (h : VR G x u) (ho : u.one = true) : x.oneCell' = true := by
  cases u <;> try (cases ho; done)
  all_goals simp only [VR] at h
  · subst h; exact ho
  · obtain ⟨_, _, _, rfl, _⟩ := h; rfl
  · obtain ⟨_, _, _, _, rfl, _⟩ := h; rfl
  · obtain ⟨_, _, _, _, rfl, _⟩ := h; rfl
  · obtain ⟨_, _, _, _, _, _, rfl, _⟩ := h; rfl
  · obtain ⟨_, rfl⟩ := h; rfl
  · obtain ⟨_, _, _, rfl, _⟩ := h; rfl
  · obtain ⟨_, _, rfl, _⟩ := h; rfl
  · obtain ⟨_, _, _, rfl, _⟩ := h; rfl
  · obtain ⟨_, rfl, _⟩ := h; rfl
theorem VR.addr {G : Gh} {x : Value} {u : AV} {p : APl} (h : VR G x u) (hp : u.place = some p) : ∃ a, x = .pointer (some a) ∧ PR G a p := by
  cases u <;> simp only [AV.place, Option.some.injEq, reduceCtorEq] at hp <;> subst hp <;> simp only [VR] at h
  · obtain ⟨h1, h2, a, h3, h4⟩ := h; exact ⟨a, h3, h1, h2, h4⟩
  · obtain ⟨b, base, arr, h1, h2, h3, h4⟩ := h; exact ⟨_, h2, b, base, arr, h1, rfl, h3, h4⟩
theorem PR.vr {G : Gh} {a : Addr} {p : APl} (h : PR G a p) : VR G (.pointer (some a)) p.ptr := by
  cases p with
  | heap id g off => obtain ⟨h1, h2, h3⟩ := h; simp only [APl.ptr, VR]; exact ⟨h1, h2, a, rfl, h3⟩
  | cont cells off => obtain ⟨b, base, arr, h1, h2, h3, h4⟩ := h; simp only [APl.ptr, VR]; exact ⟨b, base, arr, h1, by rw [h2], h3, h4⟩
theorem VRs.one {G : Gh} : ∀ {us : List AV} {xs : List Value}, VRs G xs us → us.all AV.one = true → ∀ x ∈ xs, x.oneCell' = true
  | [], _, h, _ => by simp only [VRs] at h; subst h; simp
  | u :: us, _, h, ho => by
    simp only [VRs] at h
    obtain ⟨y, zs, rfl, h1, h2⟩ := h
    simp only [List.all_cons, Bool.and_eq_true] at ho
    intro x hx
    rcases List.mem_cons.1 hx with rfl | hx
    · exact h1.one ho.1
    · exact VRs.one h2 ho.2 x hx
def AV.cellsOf (u : AV) : List AV := match u.norm with
  | .agg cs => cs
  | u => [u]
def AV.sure : AV → Bool
  | .any => false
  | _ => true
theorem VR.cellsOf {G : Gh} {x : Value} {u : AV} (h : VR G x u) (hs : u.sure = true) : VRs G x.cells.toList u.cellsOf := by
  have hn := h.norm
  unfold AV.cellsOf
  split
  · rename_i cs e
    rw [e] at hn
    simp only [VR] at hn
    obtain ⟨ys, rfl, h2⟩ := hn
    exact h2
  · rename_i u' hne
    have hx : x.cells = #[x] := by
      cases x with
      | agg cs =>
        exfalso
        cases u with
        | any => cases hs
        | v y => simp only [VR] at h; subst h; exact hne _ rfl
        | agg us => exact hne _ rfl
        | ptr => simp only [VR] at h; obtain ⟨_, _, _, h, _⟩ := h; cases h
        | sl => simp only [VR] at h; obtain ⟨_, _, _, _, h, _⟩ := h; cases h
        | map => simp only [VR] at h; obtain ⟨_, _, _, h, _⟩ := h; cases h
        | yld => simp only [VR] at h; obtain ⟨_, _, _, h, _⟩ := h; cases h
        | cptr => simp only [VR] at h; obtain ⟨_, _, _, _, h, _⟩ := h; cases h
        | csl => simp only [VR] at h; obtain ⟨_, _, _, _, _, _, h, _⟩ := h; cases h
        | esl => simp only [VR] at h; obtain ⟨_, h⟩ := h; cases h
        | fn => simp only [VR] at h; obtain ⟨_, _, h, _⟩ := h; cases h
        | iface => simp only [VR] at h; obtain ⟨_, h, _⟩ := h; cases h
        | tuple => simp only [VR] at h; obtain ⟨_, h, _⟩ := h; cases h
      | _ => rfl
    rw [hx]
    simp only [VRs]
    exact ⟨x, [], rfl, hn, rfl⟩
/-- cells laid over others -/
def lay (cs : List AV) (off : Nat) (vs : List AV) : List AV := match vs with
  | [v] => cs.set off v
  | vs => cs.take off ++ vs ++ cs.drop (off + vs.length)
theorem lay_eq (cs : List AV) (off : Nat) (vs : List AV) (h : off + vs.length ≤ cs.length) : lay cs off vs = cs.take off ++ vs ++ cs.drop (off + vs.length) := by
  unfold lay
  split
  · rename_i v
    simp only [List.length_singleton] at h ⊢
    rw [List.set_eq_take_append_cons_drop, if_pos (by omega)]; simp
  · rfl
theorem lay_length (cs : List AV) (off : Nat) (vs : List AV) (h : off + vs.length ≤ cs.length) : (lay cs off vs).length = cs.length := by
  rw [lay_eq _ _ _ h]; simp; omega
def wr (H : AH) : APl → List AV → Option AH
  | .heap id g off, vs => match H.get id with
    | .cells cs g' x => match Nat.beq g g' && Nat.ble (off + vs.length) cs.length && vs.all AV.one with
      | true => some (H.set id (.cells (lay cs off vs) g x))
      | false => none
    | _ => none
  | .cont _ _, _ => none
theorem run_storeCells_any {P : Program} (g o : Nat) (t : TypeId) (fr : Nat × Nat) : ∀ (vs : List Value) (i : Nat) (cur : Array Value) (w : World), w.heap[g]? = some (.cells cur t fr) → (∀ k, k < cur.size → ¬ (fr.1 ≤ k ∧ k < fr.2)) → o + i + vs.length ≤ cur.size → (∀ v ∈ vs, v.oneCell' = true) →
    ∃ w' arr, (storeCells ⟨g, o, none⟩ vs i).run P w = .ok () w' ∧ w'.os = w.os ∧ w'.tape = w.tape ∧ w'.output = w.output ∧ w'.heap.size = w.heap.size ∧ (∀ b, b ≠ g → w'.heap[b]? = w.heap[b]?) ∧
      w'.heap[g]? = some (.cells arr t fr) ∧ arr.size = cur.size ∧ ∀ j : Nat, arr[j]? = if o + i ≤ j ∧ j < o + i + vs.length then vs[j - (o + i)]? else cur[j]?
  | [], i, cur, w, hg, _, _, _ => ⟨w, cur, rfl, rfl, rfl, rfl, rfl, fun _ _ => rfl, hg, rfl, fun j => by rw [if_neg (by intro h; simp at h; omega)]⟩
  | v :: rest, i, cur, w, hg, hf, hl, h1 => by
    have hi : o + i < cur.size := by simp at hl; omega
    have hadd : (⟨g, o, none⟩ : Addr).add i = ⟨g, o + i, none⟩ := add_at g o i
    have hcell : w.cell? ⟨g, o + i, none⟩ = some cur[o + i] := by simp [World.cell?, hg, hi]
    have hfro : w.frozen? ⟨g, o + i, none⟩ = false := by
      have := hf _ hi
      simp only [World.frozen?, hg]
      simpa using this
    have hst : (store ((⟨g, o, none⟩ : Addr).add i) v).run P w = .ok () (w.setCell ⟨g, o + i, none⟩ v) := by
      rw [hadd, run_store P w _ v _ (h1 v (by simp)), hcell]
      simp [hfro]
    have hset : (w.setCell ⟨g, o + i, none⟩ v).heap[g]? = some (.cells (cur.setIfInBounds (o + i) v) t fr) := by
      simp [World.setCell, Array.getElem?_modify, hg]
    obtain ⟨w', arr, e1, e2, e3, e4, e5, e6, e7, e8, e9⟩ := run_storeCells_any g o t fr rest (i + 1) (cur.setIfInBounds (o + i) v) (w.setCell ⟨g, o + i, none⟩ v) hset (by simpa using hf) (by simp at hl ⊢; omega) (fun x hx => h1 x (by simp [hx]))
    refine ⟨w', arr, ?_, e2, e3, e4, ?_, fun b hb => ?_, e7, by simpa using e8, fun j => ?_⟩
    · simp only [storeCells, Sem.run_bind, hst, Result.andThen_ok]
      exact e1
    · rw [e5]; simp [World.setCell]
    · rw [e6 b hb]; simp [World.setCell, Array.getElem?_modify, Ne.symm hb]
    · rw [e9 j]
      simp only [List.length_cons]
      by_cases h2 : o + (i + 1) ≤ j ∧ j < o + (i + 1) + rest.length
      · rw [if_pos h2, if_pos (by omega)]
        rw [show j - (o + i) = (j - (o + (i + 1))) + 1 by omega, List.getElem?_cons_succ]
      · rw [if_neg h2]
        by_cases h3 : j = o + i
        · subst h3; rw [if_pos (by omega)]; simp [hi]
        · rw [if_neg (by omega), Array.getElem?_setIfInBounds_ne (Ne.symm h3)]
theorem setRow_other (w : World) (g b : Nat) (cs : Array Value) (h : b ≠ g) : (w.setRow g cs).heap[b]? = w.heap[b]? := by
  unfold World.setRow
  simp [Array.getElem?_modify, Ne.symm h]
theorem setRow_size (w : World) (g : Nat) (cs : Array Value) : (w.setRow g cs).heap.size = w.heap.size := by
  unfold World.setRow; simp
theorem setRow_rest (w : World) (g : Nat) (cs : Array Value) : (w.setRow g cs).os = w.os ∧ (w.setRow g cs).tape = w.tape ∧ (w.setRow g cs).output = w.output := ⟨rfl, rfl, rfl⟩
theorem lay_arr {l : List AV} {arr cur : List Value} {xs : List Value} {base n off : Nat} (hs : arr.length = cur.length) (hn : base + n ≤ cur.length) (h : off + xs.length ≤ n)
    (he : ∀ j : Nat, arr[j]? = if base + off ≤ j ∧ j < base + off + xs.length then xs[j - (base + off)]? else cur[j]?) :
    (arr.drop base).take n = ((cur.drop base).take n).take off ++ xs ++ ((cur.drop base).take n).drop (off + xs.length) := by
  apply List.ext_getElem?
  intro j
  rw [List.getElem?_take, List.append_assoc]
  by_cases hj : j < n
  · rw [if_pos hj, List.getElem?_drop, he]
    by_cases h1 : j < off
    · rw [if_neg (by omega), List.getElem?_append_left (by simp; omega), List.getElem?_take, if_pos h1, List.getElem?_take, if_pos hj, List.getElem?_drop]
    · rw [List.getElem?_append_right (by simp; omega)]
      have e : j - (((cur.drop base).take n).take off).length = j - off := by simp; omega
      rw [e]
      by_cases h2 : j < off + xs.length
      · rw [if_pos (by omega), List.getElem?_append_left (by omega)]
        congr 1; omega
      · rw [if_neg (by omega), List.getElem?_append_right (by omega), List.getElem?_drop, List.getElem?_take, if_pos (by omega), List.getElem?_drop]
        congr 1; omega
  · rw [if_neg hj]
    symm
    rw [List.getElem?_eq_none]
    simp; omega
theorem wr_sound {P : Program} {w : World} {G : Gh} {H H' : AH} (hR : Rel w G H) {a : Addr} {p : APl} (hp : PR G a p) {vs : List AV} {xs : List Value} (hv : VRs G xs vs) (h : wr H p vs = some H') :
    ∃ w', (storeCells a xs).run P w = .ok () w' ∧ Ext w G H w' G H' ∧ Rel w' G H' := by
  cases p with
  | cont cells off => cases h
  | heap id g off =>
    simp only [wr] at h
    split at h <;> try (cases h; done)
    rename_i cs g' xx hget
    split at h <;> simp only [Option.some.injEq, reduceCtorEq] at h
    rename_i hc
    simp only [Bool.and_eq_true, Nat.beq_eq, Nat.ble_eq] at hc
    obtain ⟨⟨rfl, hle⟩, h1⟩ := hc
    have hl : (H.get id).live = true := by rw [hget]; rfl
    have hid : id < H.n := AH.lt_of_get (by rw [hget]; simp)
    have hO := hR.obj id hid
    rw [hget] at hO
    obtain ⟨hg, arr, t, fr, hb, hfr, hroom, hlen, hv2, hx2⟩ := hO
    obtain ⟨_, _, h3⟩ := hp
    obtain rfl := h3 hg
    have hxl := hv.length
    obtain ⟨w', arr', e1, e2, e3, e4, e5, e6, e7, e8, e9⟩ := run_storeCells_any (P := P) (G.blk id) (G.base id + off) t fr xs 0 arr w hb hfr (by omega) (hv.one h1)
    refine ⟨w', e1, ?_⟩
    subst h
    have hup := hR.update (w' := w') (G' := G) id hl (.cells (lay cs off vs) g xx) e2 e3 e4 (by omega)
      (fun b _ hne => e6 b hne) rfl (fun _ _ => ⟨rfl, rfl, rfl⟩) (Nat.le_refl _) (fun _ => ⟨rfl, rfl⟩) rfl (fun _ _ => rfl) (.inl rfl) (by rw [e5]; exact hR.blt id hl) ?_
    · exact ⟨hup.2, hup.1⟩
    · refine ⟨hg, arr', t, fr, e7, by rw [e8]; exact hfr, by rw [e8]; exact hroom, ?_, ?_, by rw [lay_length _ _ _ hle, e8]; exact hx2⟩
      · rw [lay_length _ _ _ hle, e8]; exact hlen
      · rw [lay_length _ _ _ hle, lay_eq _ _ _ hle]
        rw [lay_arr (l := cs) (arr := arr'.toList) (cur := arr.toList) (xs := xs) (off := off) (by simpa using e8) (by simpa using hlen) (by omega) (fun j => by simpa using e9 j)]
        refine ((hv2.take off).append hv).append ?_
        rw [hxl]
        exact hv2.drop _
end Go.Proofs.Ytlajcmoiopaemaa
