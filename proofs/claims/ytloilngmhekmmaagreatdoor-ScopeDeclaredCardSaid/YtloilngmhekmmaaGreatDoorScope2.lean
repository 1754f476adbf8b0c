/- Whether a text may be a name; a key's kind. -/
import Derived.Test.YtloilngmhekmmaaGreatDoorScope1
set_option linter.unusedVariables false
set_option linter.unusedSimpArgs false
namespace Go.Proofs.YtloilngmhekmmaaGreatDoor
open Go.RowKit
def letterC (c : Int) : Bool := decide (97 ≤ c ∧ c ≤ 122)
def digitC (c : Int) : Bool := decide (48 ≤ c ∧ c ≤ 57)
def nameC : Bool → List UInt8 → Bool
  | _, [] => true
  | first, c :: r => (letterC c.toNat || (!first && digitC c.toNat)) && nameC false r
def nameS (s : ByteArray) : Bool := decide (1 ≤ s.size ∧ s.size ≤ 8) && nameC true s.data.toList
theorem szB (s : ByteArray) : s.data.toList.length = s.size := by cases s; rfl
theorem get_nthB (s : ByteArray) (k : Nat) (h : k < s.size) : nth s.data.toList k = s[k] := by
  rw [nth_eq (by rw [szB]; exact h)]
  rfl
theorem nameC_at {s : ByteArray} {k : Nat} (h : k < s.size) (b : Bool) : nameC b (s.data.toList.drop k) = ((letterC s[k].toNat || (!b && digitC s[k].toNat)) && nameC false (s.data.toList.drop (k + 1))) := by
  rw [drop_nth (by rw [szB]; exact h), get_nthB s k h]; rfl
theorem name04_bad {s : ByteArray} {pos : Nat} (hR : nameC true s.data.toList = nameC (pos == 0) (s.data.toList.drop pos)) (h : pos < s.size) (c : Int) (hc : (s[pos].toNat : Int) = c) (hb : ¬ (97 ≤ c ∧ c ≤ 122) ∧ (pos = 0 ∨ ¬ (48 ≤ c ∧ c ≤ 57))) : nameS s = false := by
  unfold nameS
  rw [hR, nameC_at h]
  subst hc
  have h1 : letterC s[pos].toNat = false := decide_eq_false hb.1
  have h2 : (!(pos == 0) && digitC s[pos].toNat) = false := by
    rcases hb.2 with rfl | h3
    · rfl
    · have : digitC s[pos].toNat = false := decide_eq_false h3
      rw [this]; simp
  rw [h1, h2]; simp
theorem name04_good {s : ByteArray} {pos : Nat} (hR : nameC true s.data.toList = nameC (pos == 0) (s.data.toList.drop pos)) (h : pos < s.size) (c : Int) (hc : (s[pos].toNat : Int) = c) (hb : (97 ≤ c ∧ c ≤ 122) ∨ (0 < pos ∧ 48 ≤ c ∧ c ≤ 57)) : nameC true s.data.toList = nameC (pos + 1 == 0) (s.data.toList.drop (pos + 1)) := by
  rw [hR, nameC_at h]
  subst hc
  have h1 : (letterC s[pos].toNat || (!(pos == 0) && digitC s[pos].toNat)) = true := by
    rcases hb with hb | ⟨h3, hb⟩
    · have : letterC s[pos].toNat = true := decide_eq_true hb
      rw [this]; rfl
    · have : digitC s[pos].toNat = true := decide_eq_true hb
      have h4 : (pos == 0) = false := by simp; omega
      rw [this, h4]; simp
  rw [h1]; rfl
theorem name04_end (s : ByteArray) {pos : Nat} (hR : nameC true s.data.toList = nameC (pos == 0) (s.data.toList.drop pos)) (h : ¬ pos < s.size) (h1 : 1 ≤ s.size ∧ s.size ≤ 8) : nameS s = true := by
  unfold nameS
  rw [hR, List.drop_of_length_le (by rw [szB]; omega)]
  cases (pos == 0) <;> simp [nameC, h1]
set_option maxHeartbeats 800000 in
set_option maxRecDepth 100000 in
theorem name04_any (s : ByteArray) (w : World) (hs : s.size ≤ 9223372036854775807) : Calls Tryz.prog 7 #[.string s] w fun e w' => e = .returned (.bool (nameS s)) ∧ w' = w := by
  by_cases hb : 1 ≤ s.size ∧ s.size ≤ 8
  · have h1 : ¬ (s.size : Int) < 1 := by omega
    have h2 : ¬ (8 : Int) < (s.size : Int) := by omega
    have h3 : (s.size : Int) ≤ 8 := by omega
    have HB := hid hb
    clear hb
    go_enter Tryz.func7, Tryz.ntmps7
    go_wp2
    go_loopw [3] (fun t3 wr => ∃ pos : Nat, pos ≤ s.size ∧ t3 = .int .i64 (pos : Int) ∧ wr = w ∧ Hid (nameC true s.data.toList = nameC (pos == 0) (s.data.toList.drop pos))) (fun t3 _ => s.size - (intOf t3).toNat)
    case atStart => exact ⟨0, by omega, rfl, rfl, hid rfl⟩
    case round =>
      obtain ⟨pos, hp, rfl, rfl, hR⟩ := hrel
      by_cases hlt : pos < s.size
      · have hli : (pos : Int) < (s.size : Int) := by omega
        have bad := fun c hc => hid (name04_bad hR.out hlt c hc)
        have good := fun c hc => hid (name04_good hR.out hlt c hc)
        have bad' := bad _ rfl; have good' := good _ rfl
        clear bad good hR
        go_wp2
        all_goals (try simp only [beq_iff_eq, beq_eq_false_iff_ne, ne_eq, Bool.not_eq_true', Bool.not_eq_false', decide_eq_true_eq, decide_eq_false_iff_not] at *)
        all_goals first
          | (exfalso; omega)
          | (go_ret; rw [bad'.out (by omega)]; exact ⟨rfl, rfl⟩)
          | (go_roundw
             case rel => exact ⟨pos + 1, by omega, by simp, trivial, hid (good'.out (by omega))⟩
             case measure => simp [intOf]; omega)
      · have hli : ¬ (pos : Int) < (s.size : Int) := by omega
        have HN := hid (name04_end s hR.out hlt HB.out)
        clear hR
        go_wp2
        go_ret
        rw [HN.out]
        exact ⟨rfl, rfl⟩
  · have HN : Hid (nameS s = false) := by unfold Hid nameS; rw [decide_eq_false hb]; rfl
    have hz : (s.size : Int) < 1 ∨ 8 < (s.size : Int) := by omega
    go_enter Tryz.func7, Tryz.ntmps7
    rcases hz with hz | hz
    · clear hb
      go_wp2
      go_ret
      rw [HN.out]
      exact ⟨rfl, rfl⟩
    · have hz' : ¬ (s.size : Int) < 1 := by omega
      clear hb
      go_wp2
      go_ret
      rw [HN.out]
      exact ⟨rfl, rfl⟩
/-! ### a key's kind -/
def hitS (name : ByteArray) (side : Int) (d : DeclM) : Bool := decide (d.name = name) && decide (d.side = side)
def findS (name : ByteArray) (side : Int) (l : List DeclM) : Option Nat := l.findIdx? (hitS name side)
def kindS (name : ByteArray) (side : Int) : List DeclM → Int
  | [] => 0
  | d :: l => if hitS name side d then d.kind else kindS name side l
theorem strl {a b : ByteArray} : a.toList = b.toList ↔ a = b := by
  rw [ByteArray.toList_eq, ByteArray.toList_eq]
  cases a with | mk x => cases b with | mk y =>
  simp
set_option maxHeartbeats 400000 in
theorem hit_any (name : ByteArray) (side : Int) (d : DeclM) (b : Nat) (w : World) (h0 : w.cell? ⟨b, 0, none⟩ = some (.string name)) (h1 : w.cell? ⟨b, 1, none⟩ = some (.int .u8 side)) :
    Calls Tryz.prog 18 #[.agg #[.string d.name, .int .u8 d.side, .int .u8 d.kind], .pointer (some ⟨b, 0, none⟩)] w fun e w' => e = .returned (.bool (hitS name side d)) ∧ Below w.heap.size w w' := by
  have hb : b < w.heap.size := World.block_lt_of_cell? w _ h0
  go_enter Tryz.func18, Tryz.ntmps18
  go_wp2
  all_goals (go_ret; refine ⟨ret_bool ?_, (Below.refl _ _).alloc (Nat.le_refl _) _⟩; unfold hitS)
  · rename_i e1 e2
    rw [strl] at e1
    simp [e1, e2]
  · rename_i e1 e2
    have : ¬ d.side = side := fun e => e2 e.symm
    simp [this]
  · rename_i e1
    rw [strl] at e1
    have : ¬ d.name = name := fun e => e1 e.symm
    simp [this]
/-! the first that is so -/
theorem findS_none {name : ByteArray} {side : Int} : ∀ {l : List DeclM}, (∀ k, k < l.length → hitS name side (nth l k) = false) → kindS name side l = 0
  | [], _ => rfl
  | d :: l, h => by
    have h0 : hitS name side d = false := h 0 (by simp)
    unfold kindS
    rw [h0]
    exact findS_none (fun k hk => h (k + 1) (by simp; omega))
theorem findS_some {name : ByteArray} {side : Int} : ∀ {l : List DeclM} {i : Nat}, i < l.length → hitS name side (nth l i) = true → (∀ k, k < i → hitS name side (nth l k) = false) → kindS name side l = (nth l i).kind
  | [], i, hi, _, _ => by simp at hi
  | d :: l, 0, hi, h, _ => by
    have h0 : hitS name side d = true := h
    unfold kindS
    rw [h0]; rfl
  | d :: l, i + 1, hi, h, hb => by
    have h0 : hitS name side d = false := hb 0 (by omega)
    unfold kindS
    rw [h0]
    exact findS_some (l := l) (i := i) (by simpa using hi) h (fun k hk => hb (k + 1) (by omega))
def FindP (name : ByteArray) (side : Int) (l : List DeclM) (x : Int) : Prop := (x = -1 ∧ ∀ k, k < l.length → hitS name side (nth l k) = false) ∨ ∃ i : Nat, x = (i : Int) ∧ i < l.length ∧ hitS name side (nth l i) = true ∧ ∀ k, k < i → hitS name side (nth l k) = false
set_option maxHeartbeats 800000 in
set_option maxRecDepth 100000 in
theorem index_any (name : ByteArray) (side : Int) (l : List DeclM) (v : Value) (D : Nat → Prop) (b : Nat) (w : World) (h : Decls w D v l) (h0 : w.cell? ⟨b, 0, none⟩ = some (.string name)) (h1 : w.cell? ⟨b, 1, none⟩ = some (.int .u8 side)) :
    Calls Tryz.prog 17 #[v, .func (.func 18) #[] #[.pointer (some ⟨b, 0, none⟩)]] w fun e w' => (∃ x, e = .returned (.int .i64 x) ∧ FindP name side l x) ∧ Below w.heap.size w w' := by
  have hb : b < w.heap.size := World.block_lt_of_cell? w _ h0
  by_cases hl : 0 < l.length
  · obtain ⟨B, off, c, rfl, hc, hcm, hD, hB, hall⟩ := h.all hl
    clear h
    go_enter Tryz.func17, Tryz.ntmps17
    have HA := hid hall
    clear hall
    go_wp2
    go_loopw [8] (fun t8 wr => ∃ i : Nat, i ≤ l.length ∧ t8 = .int .i64 (i : Int) ∧ Hid (Below w.heap.size w wr) ∧ Hid (∀ k, k < i → hitS name side (nth l k) = false)) (fun t8 _ => l.length - (intOf t8).toNat)
    case atStart => exact ⟨0, by omega, rfl, hid (Below.refl _ _), hid (fun k hk => by omega)⟩
    case round =>
      obtain ⟨i, hi, rfl, HB, HN⟩ := hrel
      by_cases hlt : i < l.length
      · have hli : (i : Int) < (l.length : Int) := by omega
        obtain ⟨c0, c1, c2⟩ := HA.out i hlt
        have c0' := (HB.out.cell (p := ⟨B, off + i * 3, none⟩) hB).trans c0
        have c1' := (HB.out.cell (p := ⟨B, off + i * 3 + 1, none⟩) hB).trans c1
        have c2' := (HB.out.cell (p := ⟨B, off + i * 3 + 2, none⟩) hB).trans c2
        have k0 := hid ((HB.out.cell (p := ⟨b, 0, none⟩) hb).trans h0)
        have k1 := hid ((HB.out.cell (p := ⟨b, 1, none⟩) hb).trans h1)
        clear c0 c1 c2
        obtain ⟨d, hd⟩ : ∃ d, nth l i = d := ⟨_, rfl⟩
        rw [hd] at c0' c1' c2'
        cases hh : hitS name side d with
        | true =>
          have HH := hid hh
          have HE := hid hd
          clear hh hd h0 h1
          go_wp2_with (go_at_call 18; refine (hit_any name side d b _ k0.out k1.out).mono ?_; rw [HH.out]; rintro e w' ⟨rfl, hb2⟩)
          go_ret
          exact ⟨⟨(i : Int), rfl, .inr ⟨i, rfl, hlt, by rw [HE.out]; exact HH.out, HN.out⟩⟩, HB.out.trans (hb2.mono HB.out.size)⟩
        | false =>
          have HH := hid hh
          have HE := hid hd
          clear hh hd h0 h1
          go_wp2_with (go_at_call 18; refine (hit_any name side d b _ k0.out k1.out).mono ?_; rw [HH.out]; rintro e w' ⟨rfl, hb2⟩)
          go_roundw
          case rel => exact ⟨i + 1, by omega, by simp, hid (HB.out.trans (hb2.mono HB.out.size)), hid (fun k hk => by
            by_cases e : k = i
            · subst e; rw [HE.out]; exact HH.out
            · exact HN.out k (by omega))⟩
          case measure => simp [intOf]; omega
      · have hli : ¬ (i : Int) < (l.length : Int) := by omega
        go_wp2
        go_ret
        exact ⟨⟨-1, rfl, .inl ⟨rfl, fun k hk => HN.out k (by omega)⟩⟩, HB.out⟩
  · have hn : l.length = 0 := by omega
    obtain ⟨A, c, rfl, hc, hcm⟩ := h.slice
    rw [hn]
    go_enter Tryz.func17, Tryz.ntmps17
    go_wp2
    go_loopw [8] (fun t8 wr => t8 = .int .i64 0 ∧ wr = w) (fun _ _ => 0)
    case atStart => exact ⟨rfl, rfl⟩
    case round =>
      obtain ⟨rfl, rfl⟩ := hrel
      go_wp2
      go_ret
      exact ⟨⟨-1, rfl, .inl ⟨rfl, fun k hk => by omega⟩⟩, Below.refl _ _⟩
set_option maxHeartbeats 800000 in
set_option maxRecDepth 100000 in
theorem kindOf_any (name : ByteArray) (side : Int) (l : List DeclM) (v : Value) (D : Nat → Prop) (w : World) (h : Decls w D v l) :
    Calls Tryz.prog 8 #[v, .agg #[.string name, .int .u8 side]] w fun e w' => e = .returned (.int .u8 (kindS name side l)) ∧ Below w.heap.size w w' := by
  have HB := hid ((Below.refl w.heap.size w).alloc (Nat.le_refl _) (.cells #[.string name, .int .u8 side] 31))
  have hnb := new_blk w (.cells #[.string name, .int .u8 side] 31)
  have C := hid (index_any name side l v D w.heap.size (w.alloc (.cells #[.string name, .int .u8 side] 31)) (h.below HB.out) (by rw [blk_cell hnb]; rfl) (by rw [blk_cell hnb]; rfl))
  clear hnb
  by_cases hex : ∃ i : Nat, i < l.length ∧ hitS name side (nth l i) = true ∧ ∀ k, k < i → hitS name side (nth l k) = false
  · obtain ⟨i, hi, hx, hy⟩ := hex
    obtain ⟨B, off, c, rfl, hc, hcm, hD, hB, hall⟩ := h.all (by omega)
    obtain ⟨_, _, c2⟩ := hall i hi
    have HK := hid (findS_some hi hx hy)
    have C2 : Hid (Calls Tryz.prog 17 #[.slice (some ⟨B, off, none⟩) l.length c, .func (.func 18) #[] #[.pointer (some ⟨w.heap.size, 0, none⟩)]] (w.alloc (.cells #[.string name, .int .u8 side] 31)) fun e w' => e = .returned (.int .i64 (i : Int)) ∧ Below (w.alloc (.cells #[.string name, .int .u8 side] 31)).heap.size (w.alloc (.cells #[.string name, .int .u8 side] 31)) w') := C.out.mono (fun e w' ⟨⟨x, he, hf⟩, hb⟩ => by
      refine ⟨?_, hb⟩
      rcases hf with ⟨_, h1⟩ | ⟨j, rfl, j1, j2, j3⟩
      · have := h1 i hi; rw [hx] at this; cases this
      · have : j = i := by
          rcases Nat.lt_trichotomy j i with h | h | h
          · have := hy j h; rw [j2] at this; cases this
          · exact h
          · have := j3 i h; rw [hx] at this; cases this
        rw [he, this])
    have hni : ¬ (i : Int) < 0 := by omega
    have hil : (i : Int) < (l.length : Int) := by omega
    have HC := hid c2
    clear hall h hx hy C c2
    go_enter Tryz.func8, Tryz.ntmps8
    go_wp2_with (go_at_call 17; refine C2.out.mono ?_; rintro e w' ⟨rfl, hb⟩; have hbb := HB.out.trans (hb.mono HB.out.size); have hcc := (hbb.cell (p := ⟨B, off + i * 3 + 2, none⟩) hB).trans HC.out)
    go_ret
    rw [HK.out]
    exact ⟨rfl, hbb⟩
  · have hn : ∀ k, k < l.length → hitS name side (nth l k) = false := by
      intro k
      induction k using Nat.strongRecOn with
      | _ k ih =>
        intro hk
        cases hh : hitS name side (nth l k) with
        | false => rfl
        | true => exact absurd ⟨k, hk, hh, fun j hj => ih j hj (by omega)⟩ hex
    have HK := hid (findS_none hn)
    have C2 : Hid (Calls Tryz.prog 17 #[v, .func (.func 18) #[] #[.pointer (some ⟨w.heap.size, 0, none⟩)]] (w.alloc (.cells #[.string name, .int .u8 side] 31)) fun e w' => e = .returned (.int .i64 (-1)) ∧ Below (w.alloc (.cells #[.string name, .int .u8 side] 31)).heap.size (w.alloc (.cells #[.string name, .int .u8 side] 31)) w') := C.out.mono (fun e w' ⟨⟨x, he, hf⟩, hb⟩ => by
      refine ⟨?_, hb⟩
      rcases hf with ⟨rfl, _⟩ | ⟨j, rfl, j1, j2, j3⟩
      · exact he
      · have := hn j j1; rw [j2] at this; cases this)
    obtain ⟨A, c, rfl, hc, hcm⟩ := h.slice
    clear hn hex h C
    go_enter Tryz.func8, Tryz.ntmps8
    go_wp2_with (go_at_call 17; refine C2.out.mono ?_; rintro e w' ⟨rfl, hb⟩)
    go_ret
    rw [HK.out]
    exact ⟨rfl, HB.out.trans (hb.mono HB.out.size)⟩
end Go.Proofs.YtloilngmhekmmaaGreatDoor
