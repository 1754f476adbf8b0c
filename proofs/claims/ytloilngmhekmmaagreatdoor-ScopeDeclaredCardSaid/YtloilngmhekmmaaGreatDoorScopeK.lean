/- Keys: in memory, and in a map. -/
import Derived.Test.YtloilngmhekmmaaGreatDoorScope3
import Derived.Test.YtloilngmhekmmaaGreatDoorMaps3
set_option linter.unusedVariables false
set_option linter.unusedSimpArgs false
namespace Go.Proofs.YtloilngmhekmmaaGreatDoor
open Go.RowKit Go.WideMaps
abbrev KeyM := ByteArray × Int
def keyV (p : KeyM) : Value := .agg #[.string p.1, .int .u8 p.2]
def KeyIn (p : KeyM) : Prop := p.1.size ≤ 9223372036854775807 ∧ 0 ≤ p.2 ∧ p.2 ≤ 255
theorem laidK : laidOutB Tryz.prog = true := by kernel_rfl
theorem rowK : (31 : TypeId) < Tryz.prog.types.size := of_decide_eq_true (by kernel_rfl)
theorem wideK : (match Tryz.prog.underlying 31 with | some (.array _ _) | some (.struct _) => true | _ => false) = true := by kernel_rfl
theorem lawK : KeyLaw Tryz.prog 31 := Go.deep_law_laid laidK (m := 2) (by omega) rowK (by kernel_rfl) (by rw [Tryz.underlying31])
theorem keyedK : Maps.Keyed Tryz.prog 31 := Maps.Keyed.of_law lawK
theorem typK : Tryz.prog.keyType 31 = true := by kernel_rfl
theorem cellsK : Tryz.prog.cellsOf 31 = 2 := by kernel_rfl
theorem cellsS : Tryz.prog.cellsOf 9 = 1 := by kernel_rfl
theorem cellsSide : Tryz.prog.cellsOf 27 = 1 := by kernel_rfl
theorem litsStr (d : Nat) (s : ByteArray) (h : s.size ≤ 9223372036854775807) : Tryz.prog.keyLits (d + 1) 9 [.string s] = some [.string s.data.toList] := by
  unfold Program.keyLits
  rw [Tryz.underlying9]
  simp [maxLen, h]
theorem litsSide (d : Nat) (x : Int) (h : 0 ≤ x ∧ x ≤ 255) : Tryz.prog.keyLits (d + 1) 27 [.int .u8 x] = some [.int .u8 x] := by
  unfold Program.keyLits
  rw [Tryz.underlying27]
  have : (Lit.int .u8 x).wf = true := by simp [Lit.wf, IntKind.min, IntKind.max, IntKind.signed, IntKind.bits]; omega
  simp [this]
theorem litsKey (d : Nat) (p : KeyM) (h : KeyIn p) : Tryz.prog.keyLits (d + 2) 31 [.string p.1, .int .u8 p.2] = some [.string p.1.data.toList, .int .u8 p.2] := by
  unfold Program.keyLits
  rw [Tryz.underlying31]
  simp [cellsK, cellsS, cellsSide, litsStr _ _ h.1, litsSide _ _ h.2]
theorem keyOf_key {p : KeyM} (h : KeyIn p) : keyOf Tryz.prog 31 (keyV p) = some (.string (keyBytes [.string p.1.data.toList, .int .u8 p.2])) := by
  unfold keyOf
  obtain ⟨n, hn⟩ : ∃ n, Tryz.prog.types.size + 1 = n + 2 := ⟨Tryz.prog.types.size - 1, by have h : (31 : Nat) < Tryz.prog.types.size := rowK; omega⟩
  rw [hn, typK]
  have hf : (keyV p).formed Tryz.prog 31 = true := by
    simp [keyV, Value.formed, Tryz.underlying31, cellsK]
  rw [hf]
  have := litsKey n p h
  simp only [Tryz.underlying31, keyV, Value.cells, Bool.and_self, if_true]
  rw [this]
  rfl
def keyB (p : KeyM) : List UInt8 := keyBytes [.string p.1.data.toList, .int .u8 p.2]
theorem keyB_inj {p q : KeyM} (hp : KeyIn p) (hq : KeyIn q) (h : keyB p = keyB q) : p = q := by
  have e1 := keyOf_key hp
  have e2 := keyOf_key hq
  have h' : keyBytes [.string p.1.data.toList, .int .u8 p.2] = keyBytes [.string q.1.data.toList, .int .u8 q.2] := h
  rw [← h'] at e2
  have := lawK.inj e1 e2
  simp only [keyV, Value.agg.injEq, Array.mk.injEq, List.cons.injEq, Value.string.injEq, Value.int.injEq, true_and, and_true] at this
  exact Prod.ext this.1 this.2
theorem keys_any {p : KeyM} (hp : KeyIn p) : ∀ (es : List KeyM), (∀ q ∈ es, KeyIn q) → (es.map keyB).any (fun x => decide (x = keyB p)) = es.any (fun q => decide (q = p))
  | [], _ => rfl
  | q :: es, h => by
    simp only [List.map_cons, List.any_cons, keys_any hp es (fun x hx => h x (by simp [hx]))]
    congr 1
    rw [decide_eq_decide]
    exact ⟨fun e => keyB_inj (h q (by simp)) hp e, fun e => by rw [e]⟩
theorem ty_kset : KSetTy Tryz.prog 55 31 4 := ⟨Tryz.underlying55, keyedK, Tryz.underlying4⟩
/-! ### a row of keys -/
def KeyR (p : KeyM) (cs : List Value) : Prop := cs = [.string p.1, .int .u8 p.2]
theorem KeyR.len {x : KeyM} {cs : List Value} (h : KeyR x cs) : cs.length = 2 := by subst h; rfl
theorem ty_keys : AppTy Tryz.prog 34 31 2 24 := AppTy.mk' (.agg #[.string ByteArray.empty, .int .u8 0]) 2 24 Tryz.underlying34 (by kernel_rfl) rfl (by omega)
def KeysR (w : World) (D : Nat → Prop) (v : Value) (l : List KeyM) : Prop := Row w D KeyR 2 v l
theorem KeysR.imp {w w' : World} {D D' : Nat → Prop} {v : Value} {l : List KeyM} (h : KeysR w D v l) (hD : ∀ b, D b → b < w.heap.size → D' b ∧ w'.heap[b]? = w.heap[b]?) : KeysR w' D' v l :=
  Row.imp h (fun _ _ _ h => h) hD (by omega) (fun _ _ h => h.len)
theorem KeysR.below {w w' : World} {D : Nat → Prop} {v : Value} {l : List KeyM} (h : KeysR w D v l) (hb : Below w.heap.size w w') : KeysR w' D v l := h.imp fun b hd hlt => ⟨hd, hb.block b hlt⟩
theorem KeysR.all {w : World} {D : Nat → Prop} {v : Value} {l : List KeyM} (h : KeysR w D v l) (h0 : 0 < l.length) :
    ∃ b off c, v = .slice (some ⟨b, off, none⟩) l.length c ∧ l.length ≤ c ∧ c ≤ 9223372036854775807 ∧ D b ∧ b < w.heap.size ∧
      ∀ k, k < l.length → w.cell? ⟨b, off + k * 2, none⟩ = some (.string (nth l k).1) ∧ w.cell? ⟨b, off + k * 2 + 1, none⟩ = some (.int .u8 (nth l k).2) := by
  obtain ⟨A, c, h1, h2, h3, h4⟩ := h.out
  obtain ⟨b, off, hA, hD, hall⟩ := h4 h0
  subst hA
  have key : ∀ k, k < l.length → w.cell? ⟨b, off + k * 2, none⟩ = some (.string (nth l k).1) ∧ w.cell? ⟨b, off + k * 2 + 1, none⟩ = some (.int .u8 (nth l k).2) := by
    intro k hk
    obtain ⟨cs, hr, _, hc⟩ := hall k hk
    have hr' : cs = _ := hr
    subst hr'
    exact ⟨hc 0 _ rfl, hc 1 _ rfl⟩
  exact ⟨b, off, c, h1, h2, h3, hD, World.block_lt_of_cell? w _ (key 0 h0).1, key⟩
/-! ### are keys the same -/
def sameK (x y : KeyM) : Bool := decide (x.1 = y.1) && decide (x.2 = y.2)
theorem sameK_refl (x : KeyM) : sameK x x = true := by simp [sameK]
theorem sameK_eq {x y : KeyM} : sameK x y = true ↔ x = y := by
  simp only [sameK, Bool.and_eq_true, decide_eq_true_eq]
  exact ⟨fun h => Prod.ext h.1 h.2, fun h => by rw [h]; exact ⟨rfl, rfl⟩⟩
/-- among some -/
def hasK (l : List KeyM) (k : KeyM) : Bool := l.any (fun q => decide (q = k))
end Go.Proofs.YtloilngmhekmmaaGreatDoor
