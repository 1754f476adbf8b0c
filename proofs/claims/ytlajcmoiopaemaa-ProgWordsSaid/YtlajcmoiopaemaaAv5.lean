/- append and copy over the abstract heap. No program in sight. -/
import Derived.Test.YtlajcmoiopaemaaAv4
set_option linter.unusedVariables false
set_option linter.unusedSimpArgs false
noncomputable section
namespace Go.Proofs.Ytlajcmoiopaemaa
section
variable {T : Tab} {w : World} {G : Gh} {H : AH}
def srcLen : AV → Option Nat
  | .sl _ _ _ len _ _ => some len
  | .csl _ _ len _ => some len
  | .esl => some 0
  | .v (.slice none 0 _) => some 0
  | .v (.string s) => some s.size
  | _ => none
theorem srcLen_sound {x : Value} {u : AV} {n : Nat} (hx : VR G x u) (h : srcLen u = some n) (w : World) : (Builtin.lenOf x).run T.P w = .ok n w := by
  unfold srcLen at h
  split at h <;> simp only [Option.some.injEq, reduceCtorEq] at h <;> subst h <;> simp only [VR] at hx
  · obtain ⟨_, _, _, _, rfl, _⟩ := hx; rfl
  · obtain ⟨_, _, _, _, _, _, rfl, _⟩ := hx; rfl
  · obtain ⟨_, rfl⟩ := hx; rfl
  · subst hx; rfl
  · subst hx; rfl
def srcRead (size n : Nat) (u : AV) (H : AH) : Option (List AV) := match u with
  | .sl id g off len sz rm => match Nat.ble n len with
    | true => match n with
      | 0 => some []
      | _ + 1 => rd H (.heap id g off) (n * size)
    | false => none
  | .csl cells off len sz => match Nat.ble n len with
    | true => match n with
      | 0 => some []
      | _ + 1 => rd H (.cont cells off) (n * size)
    | false => none
  | .esl => match n with
    | 0 => some []
    | _ => none
  | .v (.slice none 0 _) => match n with
    | 0 => some []
    | _ => none
  | .v (.string s) => match Nat.beq size 1 && Nat.ble n s.size with
    | true => some ((s.data.toList.take n).map fun b => .v (.int .u8 b.toNat))
    | false => none
  | _ => none
theorem gen_of_rd (hR : Rel w G H) {id g off n : Nat} {us : List AV} (h : rd H (.heap id g off) n = some us) : g = G.gen id ∧ id < G.n := by
  simp only [rd] at h
  split at h <;> try (cases h; done)
  rename_i cs g' xx hget
  split at h <;> try (cases h; done)
  rename_i hc
  simp only [Bool.and_eq_true, Nat.beq_eq, Nat.ble_eq] at hc
  obtain ⟨rfl, hle⟩ := hc
  have hid : id < H.n := AH.lt_of_get (by rw [hget]; simp)
  have hO := hR.obj id hid
  rw [hget] at hO
  exact ⟨hO.1, by rw [hR.n]; exact hid⟩
theorem srcRead_sound (hR : Rel w G H) {x : Value} {u : AV} {size n : Nat} {us : List AV} (hx : VR G x u) (h : srcRead size n u H = some us) :
    ∃ xs : List Value, xs.length = n * size ∧ VRs G xs us ∧ (Builtin.firstCells size n x).run T.P w = .ok xs.toArray w := by
  unfold srcRead at h
  split at h
  · rename_i id g off len sz rm
    split at h <;> try (cases h; done)
    rename_i hle
    have hle := Nat.le_of_ble_eq_true hle
    simp only [VR] at hx
    obtain ⟨h1, h2, a, cap, rfl, h4, h5⟩ := hx
    split at h
    · simp only [Option.some.injEq] at h; subst h
      refine ⟨[], by simp, by simp [VRs], ?_⟩
      simp [Builtin.firstCells, loadCells, loadCellsFrom]
    · rename_i k
      have hg := (gen_of_rd hR h).1
      obtain ⟨e1, e2, e3⟩ := h5 hg
      obtain ⟨e4, _⟩ := e3 (by omega)
      obtain ⟨b, o, s⟩ := a
      simp only at e1 e2 e4
      subst e1 e2 e4
      obtain ⟨xs, q1, q2, q3⟩ := rd_sound hR (p := .heap id g off) (a := ⟨G.blk id, G.base id + off, none⟩) ⟨h1, h2, fun _ => rfl⟩ h
      refine ⟨xs, q1, q2, ?_⟩
      have := run_loadCells_list (P := T.P) w ⟨G.blk id, G.base id + off, none⟩ xs q3
      rw [q1] at this
      simpa [Builtin.firstCells] using this
  · rename_i cells off len sz
    split at h <;> try (cases h; done)
    rename_i hle
    have hle := Nat.le_of_ble_eq_true hle
    simp only [VR] at hx
    obtain ⟨b, base, arr, o, cap, h1, rfl, h4, h5, h6, h7⟩ := hx
    split at h
    · simp only [Option.some.injEq] at h; subst h
      refine ⟨[], by simp, by simp [VRs], ?_⟩
      simp [Builtin.firstCells, loadCells, loadCellsFrom]
    · rename_i k
      obtain rfl := h5 (by omega)
      obtain ⟨xs, q1, q2, q3⟩ := rd_sound hR (p := .cont cells off) (a := ⟨b, base + off, none⟩) ⟨b, base, arr, h1, rfl, h6, h7⟩ h
      refine ⟨xs, q1, q2, ?_⟩
      have := run_loadCells_list (P := T.P) w ⟨b, base + off, none⟩ xs q3
      rw [q1] at this
      simpa [Builtin.firstCells] using this
  · split at h <;> try (cases h; done)
    simp only [Option.some.injEq] at h; subst h
    simp only [VR] at hx; obtain ⟨a, rfl⟩ := hx
    exact ⟨[], by simp, by simp [VRs], by simp [Builtin.firstCells, loadCells, loadCellsFrom]⟩
  · split at h <;> try (cases h; done)
    simp only [Option.some.injEq] at h; subst h
    simp only [VR] at hx; subst hx
    exact ⟨[], by simp, by simp [VRs], by simp [Builtin.firstCells]⟩
  · rename_i s
    split at h <;> try (cases h; done)
    rename_i hc
    simp only [Bool.and_eq_true, Nat.beq_eq, Nat.ble_eq] at hc
    obtain ⟨rfl, hle⟩ := hc
    simp only [Option.some.injEq] at h; subst h
    simp only [VR] at hx; subst hx
    refine ⟨(s.data.toList.take n).map fun b => .int .u8 b.toNat, ?_, ?_, ?_⟩
    · simp; omega
    · have : ((s.data.toList.take n).map fun b => AV.v (.int .u8 b.toNat)) = ((s.data.toList.take n).map fun b => Value.int .u8 b.toNat).map AV.v := by simp [List.map_map, Function.comp_def]
      rw [this]; exact VRs.map_v G _
    · simp only [Builtin.firstCells, Sem.run_pure]
      congr 1
      apply Array.ext'
      simp [ByteArray.data_extract, Array.toList_extract, List.extract_eq_take_drop]
  · cases h
def isRowT : TypeDesc → Bool
  | .slice _ | .string => true
  | _ => false
/-- where there is room for sure -/
def inRoom (H : AH) (id g off : Nat) (us : List AV) : Bool → Option AH
  | true => wr H (.heap id g off) us
  | false => none
def appX (x off e : Nat) : Nat := match (Nat.beq x (2 * e + 1) || Nat.beq x (2 * e + 2)) && Nat.beq off 0 with
  | true => 2 * e + 1
  | false => 0
theorem appX_in {x off : Nat} {e t : TypeId} {b s l s' l' : Nat} (h : XR x t b s l) : XR (appX x off e) t (b + off) s' l' := by
  unfold appX
  split
  · rename_i hc
    simp only [Bool.and_eq_true, Bool.or_eq_true, Nat.beq_eq] at hc
    obtain ⟨h1, rfl⟩ := hc
    obtain ⟨rfl, rfl⟩ := h.1 e h1
    exact XR.typ
  · exact XR.zero
theorem appX_new {x off : Nat} {e : TypeId} {s l : Nat} : XR (appX x off e) e 0 s l := by
  unfold appX
  split
  · exact XR.typ
  · exact XR.zero
def aAppend (T : Tab) (t t2 : TypeId) (s x : AV) (H : AH) : Option (AV × AH) :=
  match T.underlying t, T.underlying t2 with
  | some (.slice e), some d2 => match isRowT d2, T.info? e, srcLen x with
    | true, some ie, some n => match ie.zero, srcRead ie.size n x H with
      | some z, some us => match Nat.beq z.cells.size ie.size with
        | true => match n with
          | 0 => match s with
            | .sl .. => some (s, H)
            | .csl .. => some (s, H)
            | .esl => some (s, H)
            | .v (.slice none 0 0) => some (s, H)
            | _ => none
          | _ => match s with
            | .v (.slice none 0 0) => match Nat.ble (n * ie.bytes) 140737488355328 && Nat.ble n 4611686018427387904 with
              | true => some (.sl H.n 1 0 n ie.size n, H.push (.cells us 1 (2 * e + 1)))
              | false => none
            | .esl => match Nat.ble (n * ie.bytes) 140737488355328 && Nat.ble n 4611686018427387904 with
              | true => some (.sl H.n 1 0 n ie.size n, H.push (.cells us 1 (2 * e + 1)))
              | false => none
            | .sl id g off len sz rm => match inRoom H id g (off + len * sz) us (Nat.ble (len + n) rm && Nat.beq sz ie.size) with
              | some H' => some (.sl id g off (len + n) sz rm, H')
              | none => match H.get id with
              | .cells cs g' x0 => match Nat.beq g g' && Nat.beq sz ie.size && Nat.ble (off + len * sz) cs.length && Nat.ble ((len + n) * ie.bytes) 140737488355328 && Nat.ble (len + n) 4611686018427387904 && us.all AV.one with
                | true => some (.sl id (g + 1) 0 (len + n) sz (len + n), H.set id (.cells ((cs.drop off).take (len * sz) ++ us) (g + 1) (appX x0 off e)))
                | false => none
              | _ => none
            | _ => none
        | false => none
      | _, _ => none
    | _, _, _ => none
  | _, _ => none
theorem zeroCells_size (z : Array Value) (n : Nat) : (Builtin.zeroCells z n).size = n * z.size := by simp [Builtin.zeroCells]
theorem run_ask (b : Nat) (w : World) : (askRoom b).run T.P w = .ok () w := by unfold askRoom; split <;> rfl
/-- append's two ways, as the machine goes them -/
theorem run_append_in {t t2 e : TypeId} {d2 : TypeDesc} {ie : TypeInfo} {a : Addr} {len cap n : Nat} {x : Value} {news : Array Value} (ty : TypeId) {w' : World}
    (hu : T.underlying t = some (.slice e)) (h2 : T.underlying t2 = some d2) (hd : isRowT d2 = true) (hie : T.info? e = some ie)
    (hlen : (Builtin.lenOf x).run T.P w = .ok n w) (hn : (Builtin.firstCells ie.size n x).run T.P w = .ok news w) (hc : len + n ≤ cap)
    (hst : (storeCells (a.add (len * ie.size)) news.toList).run T.P w = .ok () w') :
    (Builtin.append_ #[t, t2] ty #[.slice (some a) len cap, x]).run T.P w = .ok (.slice (some a) (len + n) cap) w' := by
  cases d2 <;> first
    | (simp [isRowT] at hd; done)
    | simp [Builtin.append_, run_underlying hu, run_tsize hie, run_underlying h2, hlen, hc, hn, hst, Result.andThen]
theorem run_append_none {t t2 e : TypeId} {d2 : TypeDesc} {ie : TypeInfo} {x : Value} {base : Option Addr} {len cap : Nat} {news : Array Value} (ty : TypeId)
    (hu : T.underlying t = some (.slice e)) (h2 : T.underlying t2 = some d2) (hd : isRowT d2 = true) (hie : T.info? e = some ie)
    (hlen : (Builtin.lenOf x).run T.P w = .ok 0 w) (hn : (Builtin.firstCells ie.size 0 x).run T.P w = .ok #[] w) (hc : len ≤ cap) :
    (Builtin.append_ #[t, t2] ty #[.slice base len cap, x]).run T.P w = .ok (.slice base len cap) w := by
  cases base <;> cases d2 <;> first
    | (simp [isRowT] at hd; done)
    | simp [Builtin.append_, run_underlying hu, run_tsize hie, run_underlying h2, hlen, hc, hn, storeCells, Result.andThen]
theorem run_append_new {t t2 e : TypeId} {d2 : TypeDesc} {ie : TypeInfo} {z : Value} {base : Option Addr} {len cap n : Nat} {x : Value} {news old : Array Value} (ty : TypeId)
    (hu : T.underlying t = some (.slice e)) (h2 : T.underlying t2 = some d2) (hd : isRowT d2 = true) (hie : T.info? e = some ie) (hz : ie.zero = some z)
    (hlen : (Builtin.lenOf x).run T.P w = .ok n w) (hn : (Builtin.firstCells ie.size n x).run T.P w.drew = .ok news w.drew)
    (ho : (Builtin.firstCells ie.size len (.slice base len cap)).run T.P w.drew = .ok old w.drew)
    (hb : (len + n) * ie.bytes ≤ 140737488355328) (hb2 : len + n ≤ 4611686018427387904) (hc : ¬ len + n ≤ cap) :
    ∃ newCap, len + n ≤ newCap ∧ (Builtin.append_ #[t, t2] ty #[.slice base len cap, x]).run T.P w =
      .ok (.slice (some ⟨w.heap.size, 0, none⟩) (len + n) newCap) (w.drew.alloc (.cells (old ++ news ++ Builtin.zeroCells z.cells (newCap - (len + n))) e)) := by
  have hfit := growslice_fits (need := len + n) (old := cap) (bytes := ie.bytes) (by omega) hb
  have hmax : ¬ ((len : Int) + (n : Int) > IntKind.i64.max) := by
    have : IntKind.i64.max = 9223372036854775807 := by rfl
    rw [this]; omega
  have hcut : len + n ≤ (Question.appendCap (len + n) cap e).cut (w.tape w.drawn (.appendCap (len + n) cap e)) := by
    simp only [Question.cut]; omega
  have hfit' : ¬ 281474976710656 < Builtin.nextslicecap (len + n) cap * ie.bytes := by omega
  have hm2 : ¬ ((9223372036854775807 : Int) < (len : Int) + (n : Int)) := by omega
  clear hfit hmax
  obtain ⟨nc, hnc⟩ : ∃ nc, (Question.appendCap (len + n) cap e).cut (w.tape w.drawn (.appendCap (len + n) cap e)) = nc := ⟨_, rfl⟩
  rw [hnc] at hcut
  refine ⟨nc, hcut, ?_⟩
  have hch : (choose (.appendCap (len + n) cap e)).run T.P w = .ok nc w.drew := by rw [run_choose_drew, ← hnc]; rfl
  clear hnc
  have hzr := run_tzero hie hz w.drew
  have hi1 := run_tinfo hie w
  have hi2 := run_tinfo hie w.drew
  have hs : w.drew.heap.size = w.heap.size := rfl
  cases d2 <;> first
    | (simp [isRowT] at hd; done)
    | simp [-run_choose, -run_choose_drew, Builtin.append_, run_underlying hu, run_tsize hie, run_underlying h2, hlen, hc, hi1, hi2, hm2, hfit', hch, run_ask, ho, hn, hzr, newRow, hs, Result.andThen]
/-- append(nil, make([]E, n)...) -/
theorem run_append_zeros {t t2 e : TypeId} {k k2 : IntKind} {ie : TypeInfo} {z : Value} (ty : TypeId) (n : Int)
    (hu : T.underlying t = some (.slice e)) (h2 : T.underlying t2 = some (.int k2)) (hie : T.info? e = some ie) (hz : ie.zero = some z) (h1 : 1 ≤ n) (hb : n.toNat * ie.bytes ≤ 140737488355328) (hb2 : n ≤ 4611686018427387904) :
    ∃ newCap, n.toNat ≤ newCap ∧ ∃ news : Array Value, (n.toNat * ie.size = 0 → news = #[]) ∧ (n.toNat * ie.size ≠ 0 → news = Builtin.zeroCells z.cells n.toNat) ∧
      (Builtin.append_ #[t, t2] ty #[.slice none 0 0, .int k n]).run T.P w =
      .ok (.slice (some ⟨w.heap.size, 0, none⟩) n.toNat newCap) (w.drew.alloc (.cells (#[] ++ news ++ Builtin.zeroCells z.cells (newCap - n.toNat)) e)) := by
  obtain ⟨m, rfl⟩ : ∃ m : Nat, n = m := ⟨n.toNat, by omega⟩
  simp only [Int.toNat_natCast] at hb ⊢
  have hfit := growslice_fits (need := m) (old := 0) (bytes := ie.bytes) (by omega) hb
  have hw := wrap_i64 (n := (m : Int)) (by omega) hb2
  have hmax : IntKind.i64.max = 9223372036854775807 := by rfl
  have hcut : m ≤ (Question.appendCap m 0 e).cut (w.tape w.drawn (.appendCap m 0 e)) := by
    simp only [Question.cut]; omega
  have hfit' : ¬ 281474976710656 < Builtin.nextslicecap m 0 * ie.bytes := by omega
  have hm2 : ¬ ((9223372036854775807 : Int) < (m : Int)) := by omega
  have hneg : ¬ ((m : Int) < 0) := by omega
  have hbig : ¬ ((281474976710656 : Int) < (m : Int) * (ie.bytes : Int)) := by
    have : ((m * ie.bytes : Nat) : Int) ≤ ((140737488355328 : Nat) : Int) := Int.ofNat_le.2 hb
    rw [Int.natCast_mul] at this
    have e2 : ((140737488355328 : Nat) : Int) = 140737488355328 := rfl
    rw [e2] at this
    omega
  have hm0 : m ≠ 0 := by omega
  clear hfit
  obtain ⟨nc, hnc⟩ : ∃ nc, (Question.appendCap m 0 e).cut (w.tape w.drawn (.appendCap m 0 e)) = nc := ⟨_, rfl⟩
  rw [hnc] at hcut
  have hch : (choose (.appendCap m 0 e)).run T.P w = .ok nc w.drew := by rw [run_choose_drew, ← hnc]; rfl
  clear hnc
  have hzr := run_tzero hie hz w.drew
  have hi1 := run_tinfo hie w
  have hi2 := run_tinfo hie w.drew
  have hs : w.drew.heap.size = w.heap.size := rfl
  by_cases h0 : m * ie.size = 0
  · refine ⟨nc, hcut, #[], fun _ => rfl, fun h => absurd h0 h, ?_⟩
    simp [-run_choose, -run_choose_drew, Builtin.append_, run_underlying hu, run_tsize hie, run_underlying h2, asInt, asIntOf, hw, hneg, hbig, hi1, hi2, hm0, hm2, hfit', hch, run_ask, hzr, newRow, hs, h0, Builtin.firstCells, Result.andThen]
  · refine ⟨nc, hcut, Builtin.zeroCells z.cells m, fun h => absurd h h0, fun _ => rfl, ?_⟩
    simp [-run_choose, -run_choose_drew, Builtin.append_, run_underlying hu, run_tsize hie, run_underlying h2, asInt, asIntOf, hw, hneg, hbig, hi1, hi2, hm0, hm2, hfit', hch, run_ask, hzr, newRow, hs, h0, Builtin.firstCells, Result.andThen]
def aAppendZ (T : Tab) (t t2 : TypeId) (s x : AV) (H : AH) : Option (AV × AH) :=
  match T.underlying t, T.underlying t2, s, x with
  | some (.slice e), some (.int _), .v (.slice none 0 0), .v (.int _ n) => match T.info? e with
    | some ie => match ie.zero with
      | some z => match decide (1 ≤ n) && decide (n ≤ 4611686018427387904) && Nat.ble (n.toNat * ie.bytes) 140737488355328 && Nat.beq z.cells.size ie.size with
        | true => some (.sl H.n 1 0 n.toNat ie.size n.toNat, H.push (.cells (zrow z.cells (n.toNat * ie.size)) 1 (2 * e + 1)))
        | false => none
      | none => none
    | none => none
  | _, _, _, _ => none
theorem aAppendZ_sound (hR : Rel w G H) {t t2 : TypeId} {x y : Value} {u v r : AV} {H' : AH} (ty : TypeId) (hx : VR G x u) (hy : VR G y v) (h : aAppendZ T t t2 u v H = some (r, H')) : RunsV T.P (Builtin.append_ #[t, t2] ty #[x, y]) w G H r H' := by
  unfold aAppendZ at h
  split at h <;> try (cases h; done)
  rename_i e k2 k n hu h2
  simp only [VR] at hx hy
  subst hx hy
  split at h <;> try (cases h; done)
  rename_i ie hie
  split at h <;> try (cases h; done)
  rename_i z hz
  split at h <;> try (cases h; done)
  rename_i hc
  simp only [Bool.and_eq_true, decide_eq_true_eq, Nat.ble_eq, Nat.beq_eq] at hc
  obtain ⟨⟨⟨h1, hb2⟩, hb⟩, hzs⟩ := hc
  simp only [Option.some.injEq, Prod.mk.injEq] at h
  obtain ⟨rfl, rfl⟩ := h
  obtain ⟨nc, c1, news, n1, n2, hrun⟩ := run_append_zeros (w := w) (k := k) ty n hu h2 hie hz h1 hb hb2
  have hmul : nc * ie.size = n.toNat * ie.size + (nc - n.toNat) * ie.size := by rw [← Nat.add_mul]; congr 1; omega
  have hns : news.size = n.toNat * ie.size := by
    by_cases h0 : n.toNat * ie.size = 0
    · rw [n1 h0, h0]; rfl
    · rw [n2 h0, zeroCells_size, hzs]
  have hv : VRs G news.toList (zrow z.cells (n.toNat * ie.size)) := by
    by_cases h0 : n.toNat * ie.size = 0
    · rw [n1 h0, h0]; simp [zrow, VRs]
    · rw [n2 h0]
      have := zrow_rel (G := G) z.cells (n.toNat * ie.size)
      have e1 : Builtin.zeroCells z.cells n.toNat = (Array.range (n.toNat * ie.size)).map (z.cells[· % z.cells.size]!) := by unfold Builtin.zeroCells; rw [← hzs]
      rw [e1]
      exact this
  obtain ⟨G', g1, g2, _, g4⟩ := pushCells hR (#[] ++ news ++ Builtin.zeroCells z.cells (nc - n.toNat)) e (0, 0) (zrow z.cells (n.toNat * ie.size)) (by
    have : (#[] ++ news ++ Builtin.zeroCells z.cells (nc - n.toNat)).toList.take (zrow z.cells (n.toNat * ie.size)).length = news.toList := by
      rw [zrow_length, ← hns]; simp
    rw [this]; exact hv) (by rw [zrow_length]; simp [hns]) (by simp) (2 * e + 1) XR.typ (w' := w.drew.alloc (.cells (#[] ++ news ++ Builtin.zeroCells z.cells (nc - n.toNat)) e)) rfl rfl rfl rfl
  refine ⟨_, _, G', hrun, g1, g2, g4 n.toNat nc ie.size n.toNat ⟨Nat.le_refl _, c1⟩ ?_⟩
  simp [zeroCells_size, hns, hzs]
  omega
/-- a row's block moves, or where its cells begin -/
def Gh.move (G : Gh) (id b base k : Nat) : Gh :=
  { G with gen := fun i => if i = id then G.gen id + 1 else G.gen i, blk := fun i => if i = id then b else G.blk i, base := fun i => if i = id then base else G.base i, room := fun i => if i = id then k else G.room i }
theorem Gh.le_move {id b base k : Nat} : G.le (G.move id b base k) := by
  refine ⟨Nat.le_refl _, fun j hj => ?_, fun j hj he => ?_, fun b a h => h⟩
  · simp only [Gh.move]; split
    · rename_i e; subst e; omega
    · exact Nat.le_refl _
  · simp only [Gh.move] at he ⊢
    by_cases e : j = id
    · subst e; simp at he
    · simp only [if_neg e]
      exact ⟨trivial, trivial, trivial⟩
theorem move_roomF {id b base k : Nat} : ∀ j, j ≠ id ∨ G.gen id = (G.move id b base k).gen id → (G.move id b base k).room j = G.room j := by
  rintro j (h | h)
  · simp [Gh.move, h]
  · simp [Gh.move] at h
theorem move_gen (G : Gh) (id b base k : Nat) : (G.move id b base k).gen id = G.gen id + 1 := by simp [Gh.move]
theorem move_blk (G : Gh) (id b base k : Nat) : (G.move id b base k).blk id = b := by simp [Gh.move]
theorem move_base (G : Gh) (id b base k : Nat) : (G.move id b base k).base id = base := by simp [Gh.move]
theorem move_room (G : Gh) (id b base k : Nat) : (G.move id b base k).room id = k := by simp [Gh.move]
theorem wr_gen (hR : Rel w G H) {id g off : Nat} {us : List AV} {H' : AH} (h : wr H (.heap id g off) us = some H') : g = G.gen id := by
  simp only [wr] at h
  split at h <;> try (cases h; done)
  rename_i cs g' xx hget
  split at h <;> try (cases h; done)
  rename_i hc
  simp only [Bool.and_eq_true, Nat.beq_eq, Nat.ble_eq] at hc
  obtain ⟨⟨rfl, hle⟩, _⟩ := hc
  have hid : id < H.n := AH.lt_of_get (by rw [hget]; simp)
  have hO := hR.obj id hid
  rw [hget] at hO
  exact hO.1
theorem aAppend_sound (hR : Rel w G H) {t t2 : TypeId} {x y : Value} {u v r : AV} {H' : AH} (ty : TypeId) (hx : VR G x u) (hy : VR G y v) (h : aAppend T t t2 u v H = some (r, H')) : RunsV T.P (Builtin.append_ #[t, t2] ty #[x, y]) w G H r H' := by
  unfold aAppend at h
  split at h <;> try (cases h; done)
  rename_i e d2 hu h2
  split at h <;> try (cases h; done)
  rename_i ie n hd hie hn
  split at h <;> try (cases h; done)
  rename_i z us hz hus
  split at h <;> try (cases h; done)
  rename_i hzs
  rw [Nat.beq_eq] at hzs
  have hlen := srcLen_sound (T := T) hy hn w
  obtain ⟨xs, x1, x2, x3⟩ := srcRead_sound (T := T) hR hy hus
  have hx2l := x2.length
  split at h
  · have hx0 : xs = [] := List.eq_nil_of_length_eq_zero (by rw [x1]; omega)
    subst hx0
    have x3' : (Builtin.firstCells ie.size 0 y).run T.P w = .ok #[] w := x3
    split at h <;> simp only [Option.some.injEq, Prod.mk.injEq, reduceCtorEq] at h <;> obtain ⟨rfl, rfl⟩ := h
    · have hx' := hx
      simp only [VR] at hx'
      obtain ⟨_, _, a, cap, rfl, h4, _⟩ := hx'
      exact .same hR (run_append_none (news := #[]) ty hu h2 hd hie hlen x3' (Nat.le_trans h4.1 h4.2)) hx
    · have hx' := hx
      simp only [VR] at hx'
      obtain ⟨_, _, _, _, cap, _, rfl, h4, _⟩ := hx'
      exact .same hR (run_append_none (news := #[]) ty hu h2 hd hie hlen x3' h4) hx
    · have hx' := hx
      simp only [VR] at hx'
      obtain ⟨a, rfl⟩ := hx'
      exact .same hR (run_append_none (news := #[]) ty hu h2 hd hie hlen x3' (Nat.le_refl _)) hx
    · have hx' := hx
      simp only [VR] at hx'
      subst hx'
      exact .same hR (run_append_none (news := #[]) ty hu h2 hd hie hlen x3' (Nat.le_refl _)) hx
  · rename_i hn0
    have hn1 : 1 ≤ n := by
      rcases Nat.eq_zero_or_pos n with h0 | h0
      · exact absurd h0 (by intro h0; exact hn0 h0)
      · exact h0
    have fresh : ∀ base, base = none ∨ (∃ a, base = some a) → x = .slice base 0 0 → n * ie.bytes ≤ 140737488355328 ∧ n ≤ 4611686018427387904 → RunsV T.P (Builtin.append_ #[t, t2] ty #[x, y]) w G H (.sl H.n 1 0 n ie.size n) (H.push (.cells us 1 (2 * e + 1))) := by
      intro base _ hxe hc
      subst hxe
      have ho0 : (Builtin.firstCells ie.size 0 (.slice base 0 0)).run T.P w.drew = .ok #[] w.drew := by cases base <;> simp [Builtin.firstCells, loadCells, loadCellsFrom]
      obtain ⟨xs', y1, y2, y3⟩ := srcRead_sound (T := T) (w := w.drew) (hR.heap_eq rfl) hy hus
      have y2l := y2.length
      obtain ⟨nc, c1, c2⟩ := run_append_new (base := base) (len := 0) (cap := 0) ty hu h2 hd hie hz hlen y3 (old := #[]) ho0 (by rw [Nat.zero_add]; exact hc.1) (by omega) (by omega)
      rw [Nat.zero_add] at c1 c2
      obtain ⟨G', g1, g2, _, g4⟩ := pushCells hR (#[] ++ xs'.toArray ++ Builtin.zeroCells z.cells (nc - n)) e (0, 0) us (by
        have : (#[] ++ xs'.toArray ++ Builtin.zeroCells z.cells (nc - n)).toList.take us.length = xs' := by
          simp [← y2l]
        rw [this]; exact y2) (by simp; omega) (by simp) (2 * e + 1) XR.typ (w' := w.drew.alloc (.cells (#[] ++ xs'.toArray ++ Builtin.zeroCells z.cells (nc - n)) e)) rfl rfl rfl rfl
      refine ⟨_, _, G', c2, g1, g2, ?_⟩
      refine g4 n nc ie.size n (by omega) ?_
      simp [zeroCells_size, y1, hzs]
      have : nc * ie.size = n * ie.size + (nc - n) * ie.size := by rw [← Nat.add_mul]; congr 1; omega
      omega
    split at h <;> try (cases h; done)
    · split at h <;> try (cases h; done)
      rename_i hc
      simp only [Bool.and_eq_true, Nat.ble_eq] at hc
      simp only [Option.some.injEq, Prod.mk.injEq] at h
      obtain ⟨rfl, rfl⟩ := h
      simp only [VR] at hx
      exact fresh none (.inl rfl) hx hc
    · split at h <;> try (cases h; done)
      rename_i hc
      simp only [Bool.and_eq_true, Nat.ble_eq] at hc
      simp only [Option.some.injEq, Prod.mk.injEq] at h
      obtain ⟨rfl, rfl⟩ := h
      simp only [VR] at hx
      obtain ⟨a, hx⟩ := hx
      exact fresh (some a) (.inr ⟨a, rfl⟩) hx hc
    · rename_i id g off len sz rm
      split at h
      · rename_i H1 hw
        simp only [Option.some.injEq, Prod.mk.injEq] at h
        obtain ⟨rfl, rfl⟩ := h
        unfold inRoom at hw
        split at hw <;> try (cases hw; done)
        rename_i hc
        simp only [Bool.and_eq_true, Nat.beq_eq, Nat.ble_eq] at hc
        obtain ⟨hc, rfl⟩ := hc
        simp only [VR] at hx
        obtain ⟨p1, p2, a, cap, rfl, p4, p5⟩ := hx
        have hg := wr_gen hR hw
        obtain ⟨e1, e2, e3⟩ := p5 hg
        obtain ⟨e4, e5⟩ := e3 (by omega)
        obtain ⟨b, o, s⟩ := a
        simp only at e1 e2 e4 e5
        subst e1 e2 e4
        obtain ⟨w', q1, q2, q3⟩ := wr_sound (P := T.P) hR (p := .heap id g (off + len * ie.size)) (a := ⟨G.blk id, G.base id + (off + len * ie.size), none⟩) ⟨p1, p2, fun _ => rfl⟩ x2 hw
        have hrun := run_append_in (a := ⟨G.blk id, G.base id + off, none⟩) ty hu h2 hd hie hlen x3 (show len + n ≤ cap by omega) (w' := w') (by rw [add_at, Nat.add_assoc]; exact q1)
        refine ⟨_, w', G, hrun, q2, q3, ?_⟩
        simp only [VR]
        exact ⟨p1, p2, _, cap, rfl, ⟨hc, p4.2⟩, fun _ => ⟨rfl, rfl, fun _ => ⟨rfl, e5⟩⟩⟩
      split at h <;> try (cases h; done)
      rename_i cs g' xx hget
      split at h <;> try (cases h; done)
      rename_i hc
      simp only [Bool.and_eq_true, Nat.beq_eq, Nat.ble_eq] at hc
      obtain ⟨⟨⟨⟨⟨rfl, rfl⟩, hoff⟩, hb⟩, hb2⟩, hone⟩ := hc
      simp only [Option.some.injEq, Prod.mk.injEq] at h
      obtain ⟨rfl, rfl⟩ := h
      have hl : (H.get id).live = true := by rw [hget]; rfl
      have hid : id < H.n := AH.lt_of_get (by rw [hget]; simp)
      have hO := hR.obj id hid
      rw [hget] at hO
      obtain ⟨hg, arr, t', fr, q1, q2, q3, q4, q5, q6⟩ := hO
      simp only [VR] at hx
      obtain ⟨p1, p2, a, cap, rfl, p4, p5⟩ := hx
      obtain ⟨e1, e2, e3⟩ := p5 hg
      have hkeep : VRs G ((arr.toList.drop (G.base id + off)).take (len * ie.size)) ((cs.drop off).take (len * ie.size)) := by
        have := (q5.drop off).take (len * ie.size)
        rwa [sub_list _ _ _ _ _ hoff] at this
      have hcl : ((cs.drop off).take (len * ie.size)).length = len * ie.size := by simp; omega
      have hnl : ((cs.drop off).take (len * ie.size) ++ us).length = len * ie.size + n * ie.size := by rw [List.length_append, hcl, ← hx2l, x1]
      by_cases hcap : len + n ≤ cap
      · obtain ⟨e4, e5⟩ := e3 (by omega)
        obtain ⟨b, o, s⟩ := a
        simp only at e1 e2 e4 e5
        subst e1 e2 e4
        have hmul : len * ie.size + n * ie.size ≤ cap * ie.size := by rw [← Nat.add_mul]; exact Nat.mul_le_mul_right _ hcap
        rw [q3] at e5
        obtain ⟨w', arr', s1, s2, s3, s4, s5, s6, s7, s8, s9⟩ := run_storeCells_any (P := T.P) (G.blk id) (G.base id + off + len * ie.size) t' fr xs 0 arr w q1 q2 (by omega) (x2.one hone)
        have hrun := run_append_in (a := ⟨G.blk id, G.base id + off, none⟩) ty hu h2 hd hie hlen x3 hcap (w' := w') (by rw [add_at]; exact s1)
        have hle : G.le (G.move id (G.blk id) (G.base id + off) arr.size) := Gh.le_move
        have hup := hR.update (w' := w') (G' := G.move id (G.blk id) (G.base id + off) arr.size) id hl (.cells ((cs.drop off).take (len * ie.size) ++ us) (g + 1) (appX xx off e)) s2 s3 s4 (by omega)
          (fun b _ hne => s6 b hne) rfl (fun j hj => by simp [Gh.move, hj]) (by rw [move_gen]; omega) (fun he => by rw [move_gen] at he; omega) rfl move_roomF (.inl (move_blk _ _ _ _ _)) (by rw [move_blk, s5]; exact hR.blt id hl) ?_
        · refine ⟨_, w', _, hrun, hup.2, hup.1, ?_⟩
          simp only [VR]
          refine ⟨p1, by rw [move_gen]; omega, _, cap, rfl, ⟨Nat.le_refl _, hcap⟩, fun _ => ?_⟩
          rw [move_blk, move_base, move_room]
          exact ⟨rfl, rfl, fun _ => ⟨rfl, e5⟩⟩
        · refine ⟨by rw [move_gen]; omega, arr', t', fr, by rw [move_blk]; exact s7, by rw [s8]; exact q2, by rw [move_room, s8], ?_, ?_, by rw [move_base]; exact appX_in q6⟩
          · rw [move_base, hnl, s8]; omega
          · rw [move_base, hnl]
            have hlay := lay_arr (l := cs) (arr := arr'.toList) (cur := arr.toList) (xs := xs) (base := G.base id + off) (n := len * ie.size + n * ie.size) (off := len * ie.size) (by simpa using s8) (by simp; omega) (by omega) (fun j => by simpa using s9 j)
            have hd0 : (((arr.toList.drop (G.base id + off)).take (len * ie.size + n * ie.size)).drop (len * ie.size + xs.length)) = [] := List.drop_of_length_le (by rw [List.length_take]; omega)
            rw [hlay, hd0, List.append_nil, List.take_take, Nat.min_eq_left (by omega)]
            exact (VRs.mono hle _ _ hkeep).append (VRs.mono hle _ _ x2)
      · obtain ⟨xs', y1, y2, y3⟩ := srcRead_sound (T := T) (w := w.drew) (hR.heap_eq rfl) hy hus
        have hold : (Builtin.firstCells ie.size len (.slice (some a) len cap)).run T.P w.drew = .ok ((arr.toList.drop (G.base id + off)).take (len * ie.size)).toArray w.drew := by
          by_cases h0 : len = 0
          · subst h0; simp [Builtin.firstCells, loadCells, loadCellsFrom]
          · obtain ⟨e4, e5⟩ := e3 (by omega)
            obtain ⟨b, o, s⟩ := a
            simp only at e1 e2 e4 e5
            subst e1 e2 e4
            have hh := run_loadCells_list (P := T.P) w.drew ⟨G.blk id, G.base id + off, none⟩ ((arr.toList.drop (G.base id + off)).take (len * ie.size)) (fun j v hj => by
              rw [add_at]
              have h1 : j < len * ie.size := by
                have := (List.getElem?_eq_some_iff.1 hj).1
                rw [List.length_take] at this; omega
              rw [List.getElem?_take, if_pos h1, List.getElem?_drop] at hj
              have q1' : w.drew.heap[G.blk id]? = some (.cells arr t' fr) := q1
              simp only [World.cell?, q1']
              simpa using hj)
            have hl2 : ((arr.toList.drop (G.base id + off)).take (len * ie.size)).length = len * ie.size := by simp; omega
            rw [hl2] at hh
            simpa [Builtin.firstCells] using hh
        obtain ⟨nc, c1, c2⟩ := run_append_new (base := some a) ty hu h2 hd hie hz hlen y3 hold hb hb2 hcap
        have hl2 : ((arr.toList.drop (G.base id + off)).take (len * ie.size)).length = len * ie.size := by simp; omega
        have hmul : nc * ie.size = len * ie.size + n * ie.size + (nc - (len + n)) * ie.size := by rw [← Nat.add_mul, ← Nat.add_mul]; congr 1; omega
        obtain ⟨A, hA⟩ : ∃ A, ((arr.toList.drop (G.base id + off)).take (len * ie.size)).toArray ++ xs'.toArray ++ Builtin.zeroCells z.cells (nc - (len + n)) = A := ⟨_, rfl⟩
        rw [hA] at c2
        have hAs : A.size = nc * ie.size := by rw [← hA, hmul]; simp [zeroCells_size, hzs]; omega
        have hle : G.le (G.move id w.heap.size 0 A.size) := Gh.le_move
        have hup := hR.update (w' := w.drew.alloc (.cells A e)) (G' := G.move id w.heap.size 0 A.size) id hl (.cells ((cs.drop off).take (len * ie.size) ++ us) (g + 1) (appX xx off e)) rfl rfl rfl (by rw [alloc_sz]; exact Nat.le_succ _)
          (fun b hb _ => push_old hb) rfl (fun j hj => by simp [Gh.move, hj]) (by rw [move_gen]; omega) (fun he => by rw [move_gen] at he; omega) rfl move_roomF (.inr (by rw [move_blk]; exact Nat.le_refl _)) (by rw [move_blk, alloc_sz]; exact Nat.lt_succ_self _) ?_
        · refine ⟨_, _, _, c2, hup.2, hup.1, ?_⟩
          simp only [VR]
          refine ⟨p1, by rw [move_gen]; omega, _, nc, rfl, ⟨Nat.le_refl _, c1⟩, fun _ => ?_⟩
          rw [move_blk, move_base, move_room]
          exact ⟨rfl, rfl, fun _ => ⟨rfl, by rw [hAs]; simp⟩⟩
        · refine ⟨by rw [move_gen]; omega, A, e, (0, 0), by rw [move_blk]; exact push_new _ _, by simp, by rw [move_room], ?_, ?_, by rw [move_base]; exact appX_new⟩
          · rw [move_base, hnl, hAs, hmul]; omega
          · rw [move_base, hnl, List.drop_zero]
            have hAl : A.toList.take (len * ie.size + n * ie.size) = (arr.toList.drop (G.base id + off)).take (len * ie.size) ++ xs' := by
              rw [← hA]
              simp only [Array.toList_append]
              rw [List.take_append_of_le_length (by rw [List.length_append, hl2, y1]; exact Nat.le_refl _)]
              apply List.take_of_length_le
              rw [List.length_append, y1, hl2]
              exact Nat.le_refl _
            rw [hAl]
            exact (VRs.mono hle _ _ hkeep).append (VRs.mono hle _ _ y2)
end
end Go.Proofs.Ytlajcmoiopaemaa
