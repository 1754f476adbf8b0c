/- What strings.Builder needs: a pointer as unsafe.Pointer and back, bytes that become a string, pointers that are the same; the one function of no body. No program in sight. -/
import Derived.Test.YtlajcmoiopaemaaAv8b
import Derived.Lib.Builder
import Derived.Lib.UnsafeStr
import Derived.Laws.Externs
set_option linter.unusedVariables false
set_option linter.unusedSimpArgs false
noncomputable section
namespace Go.Proofs.Ytlajcmoiopaemaa
section
variable {T : Tab} {w : World} {G : Gh} {H : AH}
theorem shape_of {b : Nat} {arr : Array Value} {t : TypeId} {fr : Nat × Nat} (h : w.heap[b]? = some (.cells arr t fr)) : w.shape? b = some (t, arr.size) := by
  unfold World.shape?; rw [h]
/-- a block that is told from its first cell to its last: its type -/
def fullT (x : Nat) : Option Nat := match Nat.beq (Nat.mod x 2) 0 && Nat.ble 2 x with
  | true => some (Nat.sub (Nat.div x 2) 1)
  | false => none
theorem fullT_eq {x e : Nat} (h : fullT x = some e) : x = 2 * e + 2 := by
  unfold fullT at h
  split at h <;> simp only [Option.some.injEq, reduceCtorEq] at h
  rename_i hc
  simp only [Bool.and_eq_true, Nat.beq_eq, Nat.ble_eq] at hc
  obtain ⟨h1, h2⟩ := hc
  have h1' : x % 2 = 0 := h1
  have h3 : x / 2 - 1 = e := h
  omega
def aUnsafeTo (T : Tab) (t : TypeId) : Bool := match T.info? t with
  | some j => !Nat.beq j.size 0
  | none => false
def aUnsafeFrom (T : Tab) (t : TypeId) (x len off : Nat) : Bool := match T.info? t, fullT x with
  | some j, some e => liesAt T.P T.P.depth e (len / T.P.cellsOf e) off t 1
  | _, _ => false
def aUnsafe (T : Tab) (src dst : TypeId) (u : AV) (H : AH) : Option AV := match u with
  | .ptr id g off => match H.get id with
    | .cells cs g' x => match Nat.beq g g' && Nat.ble (off + 1) cs.length with
      | true => match T.underlying src, T.underlying dst with
        | some (.pointer t), some .unsafePointer => match aUnsafeTo T t with
          | true => some u
          | false => none
        | some .unsafePointer, some (.pointer t) => match aUnsafeFrom T t x cs.length off with
          | true => some u
          | false => none
        | _, _ => none
      | false => none
    | _ => none
  | _ => none
theorem aUnsafe_sound (hR : Rel w G H) {src dst : TypeId} {x : Value} {u r : AV} (hx : VR G x u) (h : aUnsafe T src dst u H = some r) : RunsV T.P (convert src dst x) w G H r H := by
  unfold aUnsafe at h
  split at h <;> try (cases h; done)
  rename_i id g off
  split at h <;> try (cases h; done)
  rename_i cs g' xx hget
  split at h <;> try (cases h; done)
  rename_i hc
  simp only [Bool.and_eq_true, Nat.beq_eq, Nat.ble_eq] at hc
  obtain ⟨rfl, hoff⟩ := hc
  have hid : id < H.n := AH.lt_of_get (by rw [hget]; simp)
  have hO := hR.obj id hid
  rw [hget] at hO
  obtain ⟨hg, arr, t', fr, q1, q2, q3, q4, q5, q6⟩ := hO
  have hx' := hx
  simp only [VR] at hx'
  obtain ⟨p1, p2, a, rfl, p3⟩ := hx'
  obtain rfl := p3 hg
  split at h <;> try (cases h; done)
  · rename_i t hs hd
    split at h <;> simp only [Option.some.injEq, reduceCtorEq] at h
    rename_i hu
    subst h
    unfold aUnsafeTo at hu
    split at hu <;> try (cases hu; done)
    rename_i j hj
    refine .same hR ?_ hx
    refine Lib.run_to_unsafe w _ (Tab.und_ok hs) (Tab.und_ok hd) (Tab.info_ok hj) (fun e => by rw [e] at hu; cases hu) (shape_of q1) ?_
    show G.base id + off < arr.size
    omega
  · rename_i t hs hd
    split at h <;> simp only [Option.some.injEq, reduceCtorEq] at h
    rename_i hu
    subst h
    unfold aUnsafeFrom at hu
    split at hu <;> try (cases hu; done)
    rename_i j e hj he
    have hxx := fullT_eq he
    obtain ⟨rfl, hb⟩ := q6.1 e (.inr hxx)
    have hs2 := q6.2 _ hxx
    refine .same hR ?_ hx
    refine Lib.run_from_unsafe w _ (Tab.und_ok hs) (Tab.und_ok hd) (Tab.info_ok hj) (shape_of q1) ?_
    show liesAt T.P T.P.depth t' (arr.size / T.P.cellsOf t') (G.base id + off) t 1 = true
    rw [hs2, hb, Nat.zero_add]
    exact hu
/-! ### a row's first address -/
def aSliceData (u : AV) : Option AV := match u with
  | .sl id g off len sz rm => match Nat.ble 1 rm with
    | true => some (.ptr id g off)
    | false => none
  | .v (.slice none _ _) => some (.v (.pointer none))
  | _ => none
theorem aSliceData_sound (hR : Rel w G H) {x : Value} {u r : AV} (ts : Array TypeId) (ty : TypeId) (hx : VR G x u) (h : aSliceData u = some r) : RunsV T.P (Builtin.unsafeSliceData_ ts ty #[x]) w G H r H := by
  unfold aSliceData at h
  split at h <;> try (cases h; done)
  · rename_i id g off len sz rm
    split at h <;> simp only [Option.some.injEq, reduceCtorEq] at h
    rename_i hc
    rw [Nat.ble_eq] at hc
    subst h
    simp only [VR] at hx
    obtain ⟨p1, p2, a, cap, rfl, p4, p5⟩ := hx
    refine .same hR (x := .pointer (some a)) (Lib.run_unsafeSliceData_row w ts ty a len cap (by omega)) ?_
    simp only [VR]
    refine ⟨p1, p2, a, rfl, fun e => ?_⟩
    obtain ⟨e1, e2, e3⟩ := p5 e
    obtain ⟨e4, _⟩ := e3 (by omega)
    obtain ⟨b, o, s⟩ := a
    simp only at e1 e2 e4
    subst e1 e2 e4
    rfl
  · simp only [Option.some.injEq] at h
    subst h
    simp only [VR] at hx
    subst hx
    exact .same hR (x := .pointer none) (Lib.run_unsafeSliceData_nil w ts ty _ _) (by simp [VR])
/-! ### bytes as a string -/
def u8s : List AV → Option (List UInt8)
  | [] => some []
  | .v (.int .u8 (.ofNat n)) :: r => match Nat.ble n 255, u8s r with
    | true, some l => some (UInt8.ofNat n :: l)
    | _, _ => none
  | _ => none
theorem u8s_sound : ∀ {us : List AV} {xs : List Value} {l : List UInt8}, VRs G xs us → u8s us = some l → xs = l.map fun b => Value.int .u8 b.toNat
  | [], xs, l, h, k => by simp only [VRs] at h; simp only [u8s, Option.some.injEq] at k; subst h; subst k; rfl
  | u :: us, xs, l, h, k => by
    simp only [VRs] at h
    obtain ⟨y, ys, rfl, h1, h2⟩ := h
    unfold u8s at k
    split at k <;> try (cases k; done)
    · rename_i he; cases he
    · rename_i n r he
      simp only [List.cons.injEq] at he
      obtain ⟨rfl, rfl⟩ := he
      split at k <;> simp only [Option.some.injEq, reduceCtorEq] at k
      rename_i l' hn hl
      subst k
      rw [Nat.ble_eq] at hn
      simp only [VR] at h1
      subst h1
      rw [u8s_sound h2 hl]
      simp only [List.map_cons, List.cons.injEq, and_true, Value.int.injEq, true_and]
      have : (UInt8.ofNat n).toNat = n := by simp; omega
      rw [this]; rfl
def typT (x e : Nat) : Bool := Nat.beq x (2 * e + 1) || Nat.beq x (2 * e + 2)
def aUnsafeStr (T : Tab) (pt : TypeId) (u n : AV) (H : AH) : Option (AV × AH) := match n with
  | .v (.int .i64 (.ofNat m)) => match m with
    | 0 => match u with
      | .v (.pointer _) => some (.v (.string .empty), H)
      | .ptr .. => some (.v (.string .empty), H)
      | _ => none
    | k + 1 => match u with
      | .ptr id g off => match H.get id, T.underlying pt with
        | .cells cs g' x, some (.pointer e) => match Nat.beq g g' && Nat.beq off 0 && Nat.ble (k + 1) cs.length && Nat.ble (k + 1) 4611686018427387904 && typT x e, T.info? e with
          | true, some i => match Nat.beq i.size 1, u8s (cs.take (k + 1)) with
            | true, some l => some (.v (.string ⟨l.toArray⟩), H.set id .dead)
            | _, _ => none
          | _, _ => none
        | _, _ => none
      | _ => none
  | _ => none
theorem aUnsafeStr_sound (hR : Rel w G H) {pt it : TypeId} {x y : Value} {u v r : AV} {H' : AH} (ty : TypeId) (hx : VR G x u) (hy : VR G y v) (h : aUnsafeStr T pt u v H = some (r, H')) : RunsV T.P (Builtin.unsafeString_ #[pt, it] ty #[x, y]) w G H r H' := by
  unfold aUnsafeStr at h
  split at h <;> try (cases h; done)
  rename_i m
  simp only [VR] at hy
  subst hy
  split at h
  · have key : ∀ p, x = .pointer p → r = .v (.string .empty) → H' = H → RunsV T.P (Builtin.unsafeString_ #[pt, it] ty #[x, .int .i64 (Int.ofNat 0)]) w G H r H' := by
      intro p h1 h2 h3
      subst h1 h2 h3
      exact .same hR (x := .string .empty) (Lib.run_unsafeString_none w pt it ty p) (by simp [VR])
    split at h <;> simp only [Option.some.injEq, Prod.mk.injEq, reduceCtorEq] at h <;> obtain ⟨rfl, rfl⟩ := h
    · simp only [VR] at hx; exact key _ hx rfl rfl
    · simp only [VR] at hx; obtain ⟨_, _, a, rfl, _⟩ := hx; exact key _ rfl rfl rfl
  · rename_i k
    split at h <;> try (cases h; done)
    rename_i id g off
    split at h <;> try (cases h; done)
    rename_i cs g' xx e hget hpt
    split at h <;> try (cases h; done)
    rename_i i hc hi
    simp only [Bool.and_eq_true, Nat.beq_eq, Nat.ble_eq] at hc
    obtain ⟨⟨⟨⟨rfl, rfl⟩, hk⟩, hk2⟩, hty⟩ := hc
    split at h <;> try (cases h; done)
    rename_i l hsz hl
    rw [Nat.beq_eq] at hsz
    simp only [Option.some.injEq, Prod.mk.injEq] at h
    obtain ⟨rfl, rfl⟩ := h
    have hlv : (H.get id).live = true := by rw [hget]; rfl
    have hid : id < H.n := AH.lt_of_get (by rw [hget]; simp)
    have hO := hR.obj id hid
    rw [hget] at hO
    obtain ⟨hg, arr, t', fr, q1, q2, q3, q4, q5, q6⟩ := hO
    simp only [VR] at hx
    obtain ⟨p1, p2, a, rfl, p3⟩ := hx
    obtain rfl := p3 hg
    have ht : t' = e ∧ G.base id = 0 := q6.1 e (by simpa [typT, Bool.or_eq_true, Nat.beq_eq] using hty)
    obtain ⟨rfl, hb⟩ := ht
    rw [hb, List.drop_zero] at q5
    have q7 := q5.take (k + 1)
    rw [List.take_take, Nat.min_eq_left hk] at q7
    have hxs := u8s_sound q7 hl
    have hll : l.length = k + 1 := by
      have := congrArg List.length hxs
      rw [List.length_take, List.length_map, Array.length_toList] at this
      omega
    have hcell : ∀ j b, l[j]? = some b → w.cell? ((⟨G.blk id, 0, none⟩ : Addr).add j) = some (.int .u8 b.toNat) := by
      intro j b hj
      have h1 : (l.map fun b => Value.int .u8 b.toNat)[j]? = some (Value.int .u8 b.toNat) := by rw [List.getElem?_map, hj]; rfl
      rw [← hxs, List.getElem?_take] at h1
      split at h1 <;> try (cases h1; done)
      rw [add_at]
      simp only [World.cell?, q1, Nat.zero_add]
      simpa using h1
    have hP : T.P.cellsOf t' = 1 := by
      unfold Program.cellsOf
      rw [show T.P.info? t' = some i from Tab.info_ok hi]
      simpa using hsz
    have hrun := Lib.run_unsafeString_row (P := T.P) w pt it ty t' (Tab.und_ok hpt) hP (G.blk id) arr.size (shape_of q1) l (by intro e; rw [e] at hll; simp at hll) (by rw [hll]; omega) (by rw [hll]; omega) hcell
    rw [hll] at hrun
    have hfr : ∀ n, (w.freeze ⟨G.blk id, 0, none⟩ n).os = w.os ∧ (w.freeze ⟨G.blk id, 0, none⟩ n).tape = w.tape ∧ (w.freeze ⟨G.blk id, 0, none⟩ n).output = w.output ∧ (w.freeze ⟨G.blk id, 0, none⟩ n).heap.size = w.heap.size ∧ ∀ b, b ≠ G.blk id → (w.freeze ⟨G.blk id, 0, none⟩ n).heap[b]? = w.heap[b]? := by
      intro n
      unfold World.freeze
      split
      · exact ⟨rfl, rfl, rfl, rfl, fun _ _ => rfl⟩
      · exact ⟨rfl, rfl, rfl, by simp, fun b hb => by
          simp only [Array.getElem?_modify]
          rw [if_neg (fun e => hb e.symm)]⟩
    obtain ⟨f1, f2, f3, f4, f5⟩ := hfr (k + 1)
    have hup := hR.update (w' := w.freeze ⟨G.blk id, 0, none⟩ (k + 1)) (G' := G) id hlv .dead f1 f2 f3 (by omega)
      (fun b _ hne => f5 b hne) rfl (fun _ _ => ⟨rfl, rfl, rfl⟩) (Nat.le_refl _) (fun _ => ⟨rfl, rfl⟩) rfl (fun _ _ => rfl) (.inl rfl) (by rw [f4]; exact hR.blt id hlv) trivial
    refine ⟨.string ⟨l.toArray⟩, _, G, ?_, hup.2, hup.1, by simp [VR]⟩
    rw [hb, Nat.zero_add]
    exact hrun
/-! ### pointers that are the same -/
def aPtrEq (T : Tab) (op : BinOp) (t : TypeId) (u v : AV) (H : AH) : Option AV := match u, v with
  | .ptr id g off, .ptr id' g' off' => match Nat.beq id id' && (Nat.beq g g' && Nat.beq off off') with
    | true => match H.get id with
      | .cells _ g2 _ => match Nat.beq g g2, op, T.underlying t with
        | true, .neq, some (.pointer e) => match T.info? e with
          | some _ => some (.v (.bool false))
          | none => none
        | _, _, _ => none
      | _ => none
    | false => none
  | _, _ => none
theorem aPtrEq_sound (hR : Rel w G H) {op : BinOp} {t : TypeId} {ox oy : Operand} {x y : Value} {u v r : AV} (hx : VR G x u) (hy : VR G y v) (h : aPtrEq T op t u v H = some r) : RunsV T.P (do eqGuard op t ox oy x y; binOp op t x y) w G H r H := by
  unfold aPtrEq at h
  split at h <;> try (cases h; done)
  rename_i id g off id' g' off'
  split at h <;> try (cases h; done)
  rename_i hc
  simp only [Bool.and_eq_true, Nat.beq_eq] at hc
  obtain ⟨rfl, rfl, rfl⟩ := hc
  split at h <;> try (cases h; done)
  rename_i cs g2 xx hget
  split at h <;> try (cases h; done)
  rename_i e hgg hu
  rw [Nat.beq_eq] at hgg
  subst hgg
  split at h <;> try (cases h; done)
  rename_i i hi
  simp only [Option.some.injEq] at h
  subst h
  have hid : id < H.n := AH.lt_of_get (by rw [hget]; simp)
  have hO := hR.obj id hid
  rw [hget] at hO
  have hg := hO.1
  simp only [VR] at hx hy
  obtain ⟨_, _, a, rfl, p3⟩ := hx
  obtain ⟨_, _, b, rfl, q3⟩ := hy
  obtain rfl := p3 hg
  obtain rfl := q3 hg
  have hrun := Lib.run_neq_ptr_same w (⟨G.blk id, G.base id + off, none⟩ : Addr) (Tab.und_ok hu) (Tab.info_ok hi)
  refine .same hR (x := .bool false) ?_ (by simp [VR])
  have hg2 : (eqGuard .neq t ox oy (.pointer (some ⟨G.blk id, G.base id + off, none⟩)) (.pointer (some ⟨G.blk id, G.base id + off, none⟩))).run T.P w = .ok () w := rfl
  simp only [Sem.run_bind, hg2, Result.andThen_ok]
  exact hrun
/-! ### the function of no body -/
def noEsc (T : Tab) (f : FuncId) : Bool := match T.fn.get f with
  | some fn => fn.body.isNone && (fn.name == "internal/abi.NoEscape" && fn.origin == "")
  | none => false
theorem noEsc_run {f : FuncId} (h : noEsc T f = true) (x : Value) : (callFunc f #[x]).run T.P w = .ok (.value x) w := by
  unfold noEsc at h
  split at h <;> try (cases h; done)
  rename_i fn hf
  simp only [Bool.and_eq_true, beq_iff_eq] at h
  obtain ⟨h1, h2, h3⟩ := h
  have e1 : Extern.findNext fn = none := by
    unfold Extern.findNext
    rw [h2, h3]
    have k1 : Extern.allNextRows.lookup "internal/abi.NoEscape" = none := by kernel_rfl
    have k2 : Extern.allNextRows.lookup "" = none := by kernel_rfl
    simp only [k1, k2, Option.map_none]
    rfl
  have e2 : Extern.find fn = some Extern.AbiNoEscape.same := by
    unfold Extern.find
    rw [h2]
    have k1 : Extern.allGenericRows.lookup "internal/abi.NoEscape" = none := by kernel_rfl
    have k2 : Extern.allTypedRows.lookup "internal/abi.NoEscape" = none := by kernel_rfl
    have k3 : Extern.allRows.lookup "internal/abi.NoEscape" = some Extern.AbiNoEscape.same := by kernel_rfl
    simp only [k1, k2, k3, Option.map_none]
    rfl
  rw [run_callFunc_extern (T.fnOk _ _ hf).1 (by rw [h2]; decide) (by simpa using h1) e1 e2]
  rw [Lib.run_noEscape]
  rfl
end
end Go.Proofs.Ytlajcmoiopaemaa
