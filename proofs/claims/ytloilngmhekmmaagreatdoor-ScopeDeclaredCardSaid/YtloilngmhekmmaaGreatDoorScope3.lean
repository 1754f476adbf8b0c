/- Names that nobody has declared. -/
import Derived.Test.YtloilngmhekmmaaGreatDoorScopeP
import Derived.Test.YtloilngmhekmmaaGreatDoorMaps2
set_option linter.unusedVariables false
set_option linter.unusedSimpArgs false
namespace Go.Proofs.YtloilngmhekmmaaGreatDoor
open Go.RowKit
theorem ty_set : SetTy Tryz.prog 41 9 4 := ⟨Tryz.underlying41, Tryz.underlying9, Tryz.underlying4⟩
def StrR (x : ByteArray) (cs : List Value) : Prop := cs = [.string x]
theorem StrR.len {x : ByteArray} {cs : List Value} (h : StrR x cs) : cs.length = 1 := by subst h; rfl
theorem ty_str : AppTy Tryz.prog 24 9 1 16 := AppTy.mk' (.string ByteArray.empty) 1 16 Tryz.underlying24 (by kernel_rfl) rfl (by omega)
theorem TabIs_below {P : Program} {w w' : World} {nm : String} {k : IntKind} {zs : List Int} (h : Lib.TabIs P w nm k zs) (hb : Below w.heap.size w w') : Lib.TabIs P w' nm k zs := by
  unfold Lib.TabIs World.var? at *
  cases hg : P.globalNamed nm with
  | none => rw [hg] at h; cases h
  | some g =>
    rw [hg] at h
    simp only [Option.bind_some] at h ⊢
    cases hh : w.heap[g]? with
    | none => rw [hh] at h; cases h
    | some o => rw [hb.block g (blk_lt hh), hh]; rw [hh] at h; exact h
theorem below_grow (w : World) (k : Nat) (os : Array Obj) : Below w.heap.size w (Sort.grow (w.drewN k) os) :=
  ⟨rfl, rfl, rfl, by show w.heap.size ≤ (w.heap ++ os).size; simp, fun i hi => by show (w.heap ++ os)[i]? = _; rw [Array.getElem?_append_left hi]⟩
def TabW (w : World) : Prop := Lib.TabIs Tryz.prog w "internal/strconv.uint64pow10" .u64 Lib.pow10Tab
theorem TabW.below {w w' : World} (h : TabW w) (hb : Below w.heap.size w w') : TabW w' := TabIs_below h hb
theorem itoa_any (i : Nat) (hi : i < 1000000) (w : World) (h : TabW w) : Calls Tryz.prog 16 #[.int .i64 (i : Int)] w fun e w' => e = .returned (.string ⟨(Lib.decDigits i).toArray⟩) ∧ Below w.heap.size w w' :=
  (Tryz.strconv_Itoa (i : Int) (by omega) (by omega) w h).mono fun e w' ⟨he, k, os, hw⟩ => ⟨by rw [he, Lib.itoa_nonneg], by rw [hw]; exact below_grow w k os⟩
/-- the names, the latest first -/
def namesR (l : List DeclM) (k : Nat) : List ByteArray := ((l.take k).map (·.name)).reverse
theorem namesR_succ {l : List DeclM} {k : Nat} (h : k < l.length) : namesR l (k + 1) = (nth l k).name :: namesR l k := by
  unfold namesR
  rw [take_succ_nth h, List.map_append, List.reverse_append]; rfl
theorem namesR_len {l : List DeclM} {k : Nat} (h : k ≤ l.length) : (namesR l k).length = k := by unfold namesR; simp; omega
theorem namesR_all (l : List DeclM) (s : ByteArray) : inB s (namesR l l.length) = taken l s := by
  unfold namesR inB taken
  rw [List.take_length, List.any_reverse, List.any_map]
  rfl
def mostS (many : Int) : Nat := (min many 64).toNat
theorem qS_eq (n : Nat) : (⟨#[113]⟩ : ByteArray) ++ ⟨(Lib.decDigits n).toArray⟩ = qS n := by
  apply ByteArray.ext
  rw [ByteArray.data_append]
  simp [qS]
theorem qS_small {n : Nat} (h : n ≤ 104) : (qS n).size ≤ 9223372036854775807 := by
  have := dec_len 2 n (by omega)
  rw [qS_size]; omega
def mostI (many : Int) : Int := if (64 : Int) < many then 64 else many
theorem run_min64 (P : Program) (many : Int) (W : World) (ts : Array TypeId) (ty : TypeId) : (Builtin.min_ ts ty #[.int .i64 many, .int .i64 64]).run P W = .ok (.int .i64 (mostI many)) W := by
  simp [Builtin.min_, Builtin.min2, mostI]
theorem most_lt {many : Int} {k : Nat} : (k : Int) < mostI many ↔ k < mostS many := by
  unfold mostI mostS; split <;> omega
theorem mostS_le (many : Int) : mostS many ≤ 64 := by unfold mostS; omega
set_option maxHeartbeats 1600000 in
set_option maxRecDepth 100000 in
theorem fresh_any (l : List DeclM) (v : Value) (D : Nat → Prop) (many : Int) (w : World) (h : Decls w D v l) (hl : l.length ≤ 40) (hn : ∀ d ∈ l, d.name.size ≤ 9223372036854775807) (hm : -9223372036854775808 ≤ many ∧ many ≤ 9223372036854775807) (htab : TabW w) :
    Calls Tryz.prog 6 #[v, .int .i64 many] w fun e w' => ∃ v' n, e = .returned v' ∧ Own w' 9 1 StrR v' (outS l n) ∧ (outS l n).length = mostS many ∧ n ≤ 104 ∧ Below w.heap.size w w' ∧ (∀ g, v'.ownBlock = some g → w.heap.size ≤ g) := by
  have hmm := @run_makeMap Tryz.prog
  have HT := hid htab
  have HN := hid hn
  have HM := hid hm
  clear htab hn hm
  have hnew := sset_new w Tryz.prog 9 4 w.heap.size rfl
  have HBm := (Below.refl w.heap.size w).alloc (Nat.le_refl _) (.map #[] 0)
  obtain ⟨A, c, rfl, hc, hcm⟩ := h.slice
  have HD := hid h
  clear h
  go_enter Tryz.func6, Tryz.ntmps6
  go_wp2
  clear hmm
  have HNEW := hid hnew
  have HBM := hid HBm
  clear hnew HBm
  go_loopw [14] (fun t14 wr => ∃ i : Nat, i ≤ l.length ∧ t14 = .int .i64 (i : Int) ∧ Hid (SSet wr Tryz.prog 9 4 w.heap.size (namesR l i)) ∧ Hid (Below w.heap.size w wr)) (fun t14 _ => l.length - (intOf t14).toNat)
  case atStart => exact ⟨0, by omega, rfl, HNEW, HBM⟩
  case round =>
    clear HNEW HBM
    obtain ⟨i, hi, rfl, HS, HB⟩ := hrel
    by_cases hlt : i < l.length
    · have hli : (i : Int) < (l.length : Int) := by omega
      obtain ⟨B, off, c', he, _, _, _, hB, hall⟩ := HD.out.all (by omega)
      simp only [Value.slice.injEq, true_and] at he
      obtain ⟨rfl, rfl⟩ := he
      obtain ⟨c0, c1, c2⟩ := hall i hlt
      have c0' := (HB.out.cell (p := ⟨B, off + i * 3, none⟩) hB).trans c0
      have c1' := (HB.out.cell (p := ⟨B, off + i * 3 + 1, none⟩) hB).trans c1
      have c2' := (HB.out.cell (p := ⟨B, off + i * 3 + 2, none⟩) hB).trans c2
      have HSZ := hid (HN.out _ (nth_mem hlt))
      have HNR := hid (namesR_succ hlt)
      have HNL := hid (namesR_len (l := l) (k := i) (by omega))
      obtain ⟨d, hd⟩ : ∃ d, nth l i = d := ⟨_, rfl⟩
      rw [hd] at c0' c1' c2' HSZ HNR
      clear c0 c1 c2 hall hd
      have hsl := HS.out.lt
      have HAL := fun (o : Obj) => hid (HB.out.alloc (by have := HB.out.size; omega) o)
      have HSA := fun (o : Obj) => hid (HS.out.kept (Below.heap_alloc wr o _ hsl))
      go_wp2_with (refine wpList_sset_put ty_set rfl _ _ _ rfl w.heap.size (namesR l i) rfl ((HSA _).out) (by rw [HNL.out]; unfold maxLen; omega) d.name rfl rfl HSZ.out ?_; intro w1 hM1 hg1)
      go_roundw
      case rel => exact ⟨i + 1, by omega, by simp, hid (by rw [HNR.out]; exact hM1), hid ((HAL _).out.grown hg1 (by rw [World.size_alloc]; omega) (fun k e => by cases e; exact Nat.le_refl _))⟩
      case measure => simp [intOf]; omega
    · have hie : i = l.length := by omega
      subst hie
      have hli : ¬ ((l.length : Int) < (l.length : Int)) := by omega
      go_wp2
      have hmin := run_min64 Tryz.prog many
      obtain ⟨M, hM⟩ : ∃ M, mostI many = M := ⟨_, rfl⟩
      rw [hM] at hmin
      have HMI := hid hM
      clear hM hi hlt hli
      go_loopw [8, 9] (fun t8 t9 w2 => ∃ n : Nat, t9 = .int .i64 (n : Int) ∧ Hid (Own w2 9 1 StrR t8 (outS l n)) ∧ Hid (SSet w2 Tryz.prog 9 4 w.heap.size (namesR l l.length)) ∧ Hid (Below w.heap.size w w2) ∧ Hid ((outS l n).length ≤ mostS many) ∧ Hid (∀ g, t8.ownBlock = some g → w.heap.size < g)) (fun _ t9 _ => 200 - (intOf t9).toNat)
      case atStart => exact ⟨0, rfl, hid (Own.nil _ _ _ _), HS, HB, hid (by simp [outS]), hid (fun g hg => by cases hg)⟩
      case round =>
        clear HS HB
        obtain ⟨n, rfl, HO, HS, HB, HC, HG⟩ := hrel
        have hcnt := outS_count l n
        have hms := mostS_le many
        have HC2 := HC.out
        have hn : n ≤ 104 := by omega
        obtain ⟨A8, c8, rfl, hc8, hcm8⟩ := HO.out.slice
        by_cases hlt : (outS l n).length < mostS many
        · have hli : ((outS l n).length : Int) < M := by rw [← HMI.out]; exact most_lt.2 hlt
          clear hcnt HC2
          have hq : (⟨#[113]⟩ : ByteArray) ++ ⟨(Lib.decDigits n).toArray⟩ = qS n := qS_eq n
          have HQS := hid (qS_small hn)
          have hz : ∀ W, (zeroValue 4).run Tryz.prog W = .ok (.bool false) W := fun W => by kernel_rfl
          have HZ := hid hz
          have hdl : (Lib.decDigits n).length ≤ 3 := dec_len 2 n (by omega)
          have HSL := hid HS.out.lt
          have HTW := hid (HT.out.below HB.out)
          cases ht : taken l (qS n) with
          | true =>
            have HTK := hid ht
            have HOS := hid (outS_succ l n)
            clear ht hz
            go_wp2_with (go_at_call 16; refine (itoa_any n (by omega) _ HTW.out).mono ?_; rintro e w3 ⟨rfl, hb⟩; have hask := (HS.out.kept (hb.block _ HSL.out)).ask ty_set (HZ.out w3) (qS n) HQS.out; rw [namesR_all, HTK.out] at hask)
            go_roundw
            case rel => exact ⟨n + 1, by simp, hid (by rw [HOS.out, HTK.out]; exact HO.out.below hb), hid (HS.out.kept (hb.block _ HSL.out)), hid (HB.out.trans (hb.mono HB.out.size)), hid (by rw [HOS.out, HTK.out]; exact HC.out), HG⟩
            case measure => simp [intOf]; omega
          | false =>
            have HTK := hid ht
            have HOS := hid (outS_succ l n)
            clear ht hz
            go_wp2_with (first | (go_at_call 16; refine (itoa_any n (by omega) _ HTW.out).mono ?_; rintro e w3 ⟨rfl, hb⟩; have hask := (HS.out.kept (hb.block _ HSL.out)).ask ty_set (HZ.out w3) (qS n) HQS.out; rw [namesR_all, HTK.out] at hask; have HO3 := hid (HO.out.below hb)) | (at_builtin; refine wpList_append_one ty_str rfl _ _ rfl (R := StrR) (.slice A8 (outS l n).length c8) (outS l n) rfl _ (qS n) [.string (qS n)] rfl rfl rfl HO3.out rfl rfl (by simp [Value.oneCell']) (by omega) (by omega) ?_; intro g cap w6 hG))
            go_roundw
            case rel => exact ⟨n + 1, by simp, hid (by rw [HOS.out, HTK.out]; have := hG.own; simpa using this), hid ((HS.out.kept (hb.block _ HSL.out)).kept (hG.grown.block _ (Nat.lt_of_lt_of_le HSL.out hb.size) (fun e => by have := HG.out _ e.symm; omega))), hid ((HB.out.trans (hb.mono HB.out.size)).grown hG.grown (Nat.le_trans HB.out.size hb.size) (fun k e => Nat.le_of_lt (HG.out k e))), hid (by rw [HOS.out, HTK.out]; simp; omega), hid (fun g1 e => by
              cases e
              rcases hG.lies with h | h
              · exact HG.out _ h
              · have := HSL.out; have := hb.size; show w.heap.size < g; omega)⟩
            case measure => simp [intOf]; omega
        · have hli : ¬ ((outS l n).length : Int) < M := by rw [← HMI.out]; exact fun h => hlt (most_lt.1 h)
          have HEQ := hid (show (outS l n).length = mostS many by omega)
          have HCN := hid hcnt
          clear hcnt HC2 hms hlt
          go_wp2
          go_ret
          exact ⟨_, rfl, n, HO.out, HEQ.out, hn, HB.out, fun g hg => Nat.le_of_lt (HG.out g hg)⟩
end Go.Proofs.YtloilngmhekmmaaGreatDoor
