/- The other operations over the abstract heap. No program in sight. -/
import Derived.Test.YtlajcmoiopaemaaAv5
set_option linter.unusedVariables false
set_option linter.unusedSimpArgs false
noncomputable section
namespace Go.Proofs.Ytlajcmoiopaemaa
section
variable {T : Tab} {w : World} {G : Gh} {H : AH}
def aCopy (T : Tab) (t : TypeId) (d s : AV) (H : AH) : Option (AV × AH) :=
  match T.underlying t with
  | some (.slice e) => match T.info? e, srcLen s, d with
    | some ie, some n, .sl id g off len sz rm => match srcRead ie.size (Nat.min n len) s H with
      | some us => match Nat.beq (Nat.min n len) 0 with
        | true => some (.v (goInt (Nat.min n len)), H)
        | false => match wr H (.heap id g off) us with
          | some H' => some (.v (goInt (Nat.min n len)), H')
          | none => none
      | none => none
    | _, _, _ => none
  | _ => none
theorem aCopy_sound (hR : Rel w G H) {t : TypeId} {x y : Value} {u v r : AV} {H' : AH} (tys : Array TypeId) (ty : TypeId) (hx : VR G x u) (hy : VR G y v) (h : aCopy T t u v H = some (r, H')) (t2 : TypeId) : RunsV T.P (Builtin.copy_ #[t, t2] ty #[x, y]) w G H r H' := by
  unfold aCopy at h
  split at h <;> try (cases h; done)
  rename_i e hu
  split at h <;> try (cases h; done)
  rename_i ie n id g off len sz rm hie hn
  split at h <;> try (cases h; done)
  rename_i us hus
  have hlen := srcLen_sound (T := T) hy hn w
  obtain ⟨xs, x1, x2, x3⟩ := srcRead_sound (T := T) hR hy hus
  simp only [VR] at hx
  obtain ⟨p1, p2, a, cap, rfl, p4, p5⟩ := hx
  have hm : (Nat.min n len) = min n len := rfl
  split at h
  · rename_i h0
    rw [Nat.beq_eq] at h0
    simp only [Option.some.injEq, Prod.mk.injEq] at h
    obtain ⟨rfl, rfl⟩ := h
    have hx0 : xs = [] := List.eq_nil_of_length_eq_zero (by rw [x1, h0, Nat.zero_mul])
    subst hx0
    refine .same hR (x := goInt (Nat.min n len)) ?_ (by simp [VR])
    simp [Builtin.copy_, run_underlying hu, hlen, run_tsize hie, x3, storeCells, Result.andThen]
  · rename_i h0
    have h0' : Nat.min n len ≠ 0 := fun e => by rw [e] at h0; cases h0
    split at h <;> try (cases h; done)
    rename_i H1 hw
    simp only [Option.some.injEq, Prod.mk.injEq] at h
    obtain ⟨rfl, rfl⟩ := h
    have hg := wr_gen hR hw
    obtain ⟨e1, e2, e3⟩ := p5 hg
    obtain ⟨e4, _⟩ := e3 (by rw [hm] at h0'; omega)
    obtain ⟨b, o, s⟩ := a
    simp only at e1 e2 e4
    subst e1 e2 e4
    obtain ⟨w', q1, q2, q3⟩ := wr_sound (P := T.P) hR (p := .heap id g off) (a := ⟨G.blk id, G.base id + off, none⟩) ⟨p1, p2, fun _ => rfl⟩ x2 hw
    refine ⟨goInt (Nat.min n len), w', G, ?_, q2, q3, by simp [VR]⟩
    simp [Builtin.copy_, run_underlying hu, hlen, run_tsize hie, x3, q1, Result.andThen]
def aCap (T : Tab) (t : TypeId) (u : AV) : Option AV := match T.underlying t with
  | some (.slice _) => match u with
    | .v (.slice _ _ c) => some (.v (goInt c))
    | .esl => some (.v (goInt 0))
    | _ => none
  | _ => none
theorem aCap_sound (hR : Rel w G H) {t : TypeId} {x : Value} {u r : AV} (ty : TypeId) (hx : VR G x u) (h : aCap T t u = some r) : RunsV T.P (Builtin.cap_ #[t] ty #[x]) w G H r H := by
  unfold aCap at h
  split at h <;> try (cases h; done)
  rename_i e hu
  split at h <;> try (cases h; done)
  · simp only [Option.some.injEq] at h; subst h
    simp only [VR] at hx
    subst hx
    refine .same hR (x := goInt _) ?_ (by simp only [VR]; rfl)
    simp [Builtin.cap_, run_underlying hu, Result.andThen]
  · simp only [Option.some.injEq] at h; subst h
    simp only [VR] at hx
    obtain ⟨a, rfl⟩ := hx
    refine .same hR (x := goInt 0) ?_ (by simp [VR])
    simp [Builtin.cap_, run_underlying hu, Result.andThen]
def aClear (T : Tab) (t : TypeId) (d : AV) (H : AH) : Option (AV × AH) :=
  match T.underlying t with
  | some (.slice e) => match T.info? e, d with
    | some ie, .sl id g off len sz rm => match ie.zero with
      | some z => match Nat.beq len 0 with
        | true => some (.tuple [], H)
        | false => match Nat.beq z.cells.size ie.size with
          | true => match wr H (.heap id g off) (zrow z.cells (len * z.cells.size)) with
            | some H' => some (.tuple [], H')
            | none => none
          | false => none
      | none => none
    | some _, .csl _ _ len _ => match Nat.beq len 0 with
      | true => some (.tuple [], H)
      | false => none
    | some _, .esl => some (.tuple [], H)
    | _, _ => none
  | _ => none
theorem aClear_sound (hR : Rel w G H) {t : TypeId} {x : Value} {u r : AV} {H' : AH} (ty : TypeId) (hx : VR G x u) (h : aClear T t u H = some (r, H')) : RunsV T.P (Builtin.clear_ #[t] ty #[x]) w G H r H' := by
  unfold aClear at h
  split at h <;> try (cases h; done)
  rename_i e hu
  split at h <;> try (cases h; done)
  · rename_i ie id g off len sz rm hie
    split at h <;> try (cases h; done)
    rename_i z hz
    simp only [VR] at hx
    obtain ⟨p1, p2, a, cap, rfl, p4, p5⟩ := hx
    split at h
    · rename_i h0
      rw [Nat.beq_eq] at h0
      subst h0
      simp only [Option.some.injEq, Prod.mk.injEq] at h
      obtain ⟨rfl, rfl⟩ := h
      refine .same hR (x := .tuple #[]) ?_ (by simp only [VR, VRs]; exact ⟨[], rfl, rfl⟩)
      simp [Builtin.clear_, run_underlying hu, Result.andThen]
    · rename_i h0
      have h0' : len ≠ 0 := fun e => by rw [e] at h0; cases h0
      split at h <;> try (cases h; done)
      rename_i hzs
      rw [Nat.beq_eq] at hzs
      split at h <;> try (cases h; done)
      rename_i H1 hw
      simp only [Option.some.injEq, Prod.mk.injEq] at h
      obtain ⟨rfl, rfl⟩ := h
      have hg := wr_gen hR hw
      obtain ⟨e1, e2, e3⟩ := p5 hg
      obtain ⟨e4, _⟩ := e3 (by omega)
      obtain ⟨b, o, s⟩ := a
      simp only at e1 e2 e4
      subst e1 e2 e4
      have hv : VRs G (Builtin.zeroCells z.cells len).toList (zrow z.cells (len * z.cells.size)) := by
        rw [Nat.mul_comm]
        have := zrow_rel (G := G) z.cells (z.cells.size * len)
        rw [Nat.mul_comm] at this ⊢
        exact this
      obtain ⟨w', q1, q2, q3⟩ := wr_sound (P := T.P) hR (p := .heap id g off) (a := ⟨G.blk id, G.base id + off, none⟩) ⟨p1, p2, fun _ => rfl⟩ hv hw
      refine ⟨.tuple #[], w', G, ?_, q2, q3, by simp only [VR, VRs]; exact ⟨[], rfl, rfl⟩⟩
      obtain ⟨k, rfl⟩ : ∃ k, len = k + 1 := ⟨len - 1, by omega⟩
      simp [Builtin.clear_, run_underlying hu, run_tzero hie hz, q1, Result.andThen]
  · rename_i cells off len sz
    split at h <;> try (cases h; done)
    rename_i h0
    rw [Nat.beq_eq] at h0
    subst h0
    simp only [Option.some.injEq, Prod.mk.injEq] at h
    obtain ⟨rfl, rfl⟩ := h
    simp only [VR] at hx
    obtain ⟨b, base, arr, o, cap, p1, rfl, p4, p5, p6, p7⟩ := hx
    refine .same hR (x := .tuple #[]) ?_ (by simp only [VR, VRs]; exact ⟨[], rfl, rfl⟩)
    simp [Builtin.clear_, run_underlying hu, Result.andThen]
  · simp only [Option.some.injEq, Prod.mk.injEq] at h
    obtain ⟨rfl, rfl⟩ := h
    simp only [VR] at hx
    obtain ⟨a, rfl⟩ := hx
    refine .same hR (x := .tuple #[]) ?_ (by simp only [VR, VRs]; exact ⟨[], rfl, rfl⟩)
    simp [Builtin.clear_, run_underlying hu, Result.andThen]
/-! ### interfaces, tuples, functions -/
def aMakeIface (T : Tab) (t : TypeId) (u : AV) : Option AV := match T.underlying t with
  | some (.interface _) => none
  | some _ => some (.iface t u)
  | none => none
theorem aMakeIface_sound (hR : Rel w G H) {t : TypeId} {x : Value} {u r : AV} (hx : VR G x u) (h : aMakeIface T t u = some r) : RunsV T.P (Instr.makeInterface t x) w G H r H := by
  unfold aMakeIface at h
  split at h <;> try (cases h; done)
  rename_i d hd hu
  simp only [Option.some.injEq] at h
  subst h
  refine .same hR (x := .iface t x) ?_ (by simp only [VR]; exact ⟨x, rfl, hx⟩)
  cases d <;> first | (exact absurd rfl (hd _)) | simp [Instr.makeInterface, run_underlying hu, Result.andThen]
def aTypeAssert (T : Tab) (u : AV) (asserted : TypeId) (commaOk : Bool) : Option AV := match T.underlying asserted, u.norm with
  | some (.interface _), _ => none
  | some _, .iface t x => match Nat.beq t asserted with
    | true => match commaOk with
      | true => some (.tuple [x, .v (.bool true)])
      | false => some x
    | false => match commaOk, T.info? asserted with
      | true, some i => match i.zero with
        | some z => some (.tuple [.v z, .v (.bool false)])
        | none => none
      | _, _ => none
  | _, _ => none
theorem aTypeAssert_sound (hR : Rel w G H) {xt asserted : TypeId} {ok : Bool} {x : Value} {u r : AV} (hx : VR G x u) (h : aTypeAssert T u asserted ok = some r) : RunsV T.P (Instr.typeAssert x xt asserted ok) w G H r H := by
  unfold aTypeAssert at h
  have hx' := hx.norm
  split at h <;> try (cases h; done)
  rename_i d t u' hd hu hn
  rw [hn] at hx'
  simp only [VR] at hx'
  obtain ⟨y, rfl, hy⟩ := hx'
  split at h
  · rename_i he
    rw [Nat.beq_eq] at he
    subst he
    split at h <;> simp only [Option.some.injEq] at h <;> subst h
    · refine .same hR (x := .tuple #[y, .bool true]) ?_ (by simp only [VR, VRs]; exact ⟨_, rfl, y, _, rfl, hy, .bool true, [], rfl, rfl, rfl⟩)
      cases d <;> first | (exact absurd rfl (hd _)) | simp [Instr.typeAssert, run_underlying hu, Result.andThen]
    · refine .same hR (x := y) ?_ hy
      cases d <;> first | (exact absurd rfl (hd _)) | simp [Instr.typeAssert, run_underlying hu, Result.andThen]
  · rename_i he
    have hne : t ≠ asserted := fun e => by subst e; simp at he
    split at h <;> try (cases h; done)
    rename_i i hi
    split at h <;> try (cases h; done)
    rename_i z hz
    simp only [Option.some.injEq] at h
    subst h
    refine .same hR (x := .tuple #[z, .bool false]) ?_ (by simp only [VR, VRs]; exact ⟨_, rfl, z, _, rfl, rfl, .bool false, [], rfl, rfl, rfl⟩)
    cases d <;> first | (exact absurd rfl (hd _)) | simp [Instr.typeAssert, run_underlying hu, hne, run_tzero hi hz, Result.andThen]
def aExtract (u : AV) (i : Nat) : Option AV := match u.norm with
  | .tuple vs => vs[i]?
  | _ => none
theorem aExtract_sound (hR : Rel w G H) {x : Value} {u r : AV} {i : Nat} (hx : VR G x u) (h : aExtract u i = some r) : RunsV T.P (Instr.extract x i) w G H r H := by
  unfold aExtract at h
  have hx' := hx.norm
  split at h <;> try (cases h; done)
  rename_i vs hn
  rw [hn] at hx'
  simp only [VR] at hx'
  obtain ⟨cs, rfl, h2⟩ := hx'
  obtain ⟨y, h3, h4⟩ := h2.get i r h
  refine .same hR (x := y) ?_ h4
  have : (⟨cs⟩ : Array Value)[i]? = some y := by simpa using h3
  simp [Instr.extract, this]
/-- nil against what is not -/
def someOf : AV → Bool
  | .ptr .. | .cptr .. | .sl .. | .csl .. | .esl | .map _ | .fn .. | .yld _ | .iface .. => true
  | _ => false
def nilOf : AV → Bool
  | .v (.pointer none) | .v (.slice none _ _) | .v (.map none) | .v .nilFunc | .v .nilIface => true
  | _ => false
def fitsNil : TypeDesc → AV → AV → Bool
  | .pointer _, .ptr .., .v (.pointer none) | .pointer _, .cptr .., .v (.pointer none) => true
  | .slice _, .sl .., .v (.slice none _ _) | .slice _, .csl .., .v (.slice none _ _) | .slice _, .esl, .v (.slice none _ _) => true
  | .map _ _, .map _, .v (.map none) => true
  | .func _ _ _, .fn .., .v .nilFunc | .func _ _ _, .yld _, .v .nilFunc => true
  | .interface _, .iface .., .v .nilIface => true
  | _, _, _ => false
def nilAns : BinOp → Option AV
  | .eql => some (.v (.bool false))
  | .neq => some (.v (.bool true))
  | _ => none
def aNil (T : Tab) (op : BinOp) (t : TypeId) (u v : AV) : Option AV := match T.underlying t with
  | some d => match fitsNil d u.norm v || fitsNil d v.norm u with
    | true => nilAns op
    | false => none
  | none => none
theorem fitsNil_shape {d : TypeDesc} {u v : AV} {x y : Value} (hx : VR G x u) (hy : VR G y v) (h : fitsNil d u v = true) :
    (∃ t a, d = .pointer t ∧ x = .pointer (some a) ∧ y = .pointer none) ∨ (∃ t a n c m k, d = .slice t ∧ x = .slice (some a) n c ∧ y = .slice none m k) ∨ (∃ k t r, d = .map k t ∧ x = .map (some r) ∧ y = .map none) ∨
      (∃ a b c f p q, d = .func a b c ∧ x = .func f p q ∧ y = .nilFunc) ∨ (∃ m t z, d = .interface m ∧ x = .iface t z ∧ y = .nilIface) := by
  unfold fitsNil at h
  split at h <;> first | (cases h; done) | skip
  all_goals simp only [VR] at hx hy
  all_goals subst hy
  · obtain ⟨_, _, a, rfl, _⟩ := hx; exact .inl ⟨_, a, rfl, rfl, rfl⟩
  · obtain ⟨_, _, _, _, rfl, _⟩ := hx; exact .inl ⟨_, _, rfl, rfl, rfl⟩
  · obtain ⟨_, _, a, c, rfl, _⟩ := hx; exact .inr (.inl ⟨_, a, _, c, _, _, rfl, rfl, rfl⟩)
  · obtain ⟨_, _, _, _, _, _, rfl, _⟩ := hx; exact .inr (.inl ⟨_, _, _, _, _, _, rfl, rfl, rfl⟩)
  · obtain ⟨_, rfl⟩ := hx; exact .inr (.inl ⟨_, _, _, _, _, _, rfl, rfl, rfl⟩)
  · obtain ⟨_, _, _, rfl, _⟩ := hx; exact .inr (.inr (.inl ⟨_, _, _, rfl, rfl, rfl⟩))
  · obtain ⟨_, _, rfl, _⟩ := hx; exact .inr (.inr (.inr (.inl ⟨_, _, _, _, _, _, rfl, rfl, rfl⟩)))
  · obtain ⟨_, _, _, rfl, _⟩ := hx; exact .inr (.inr (.inr (.inl ⟨_, _, _, _, _, _, rfl, rfl, rfl⟩)))
  · obtain ⟨_, rfl, _⟩ := hx; exact .inr (.inr (.inr (.inr ⟨_, _, _, rfl, rfl, rfl⟩)))
theorem equal_ptr {t e : TypeId} (hu : T.underlying t = some (.pointer e)) (a : Addr) (w : World) : (Op.equal t (.pointer (some a)) (.pointer none)).run T.P w = .ok false w ∧ (Op.equal t (.pointer none) (.pointer (some a))).run T.P w = .ok false w := by
  constructor <;> (unfold Op.equal Op.maxDepth; unfold Op.equalIn; simp only [Sem.run_bind, run_underlying hu, Result.andThen_ok]; rfl)
theorem equal_sl {t e : TypeId} (hu : T.underlying t = some (.slice e)) (a : Addr) (n c m k : Nat) (w : World) : (Op.equal t (.slice (some a) n c) (.slice none m k)).run T.P w = .ok false w ∧ (Op.equal t (.slice none m k) (.slice (some a) n c)).run T.P w = .ok false w := by
  constructor <;> (unfold Op.equal Op.maxDepth; unfold Op.equalIn; simp only [Sem.run_bind, run_underlying hu, Result.andThen_ok]; rfl)
theorem equal_map {t k e : TypeId} (hu : T.underlying t = some (.map k e)) (r : Nat) (w : World) : (Op.equal t (.map (some r)) (.map none)).run T.P w = .ok false w ∧ (Op.equal t (.map none) (.map (some r))).run T.P w = .ok false w := by
  constructor <;> (unfold Op.equal Op.maxDepth; unfold Op.equalIn; simp only [Sem.run_bind, run_underlying hu, Result.andThen_ok]; rfl)
theorem equal_fn {t : TypeId} {a b : Array TypeId} {c : Bool} (hu : T.underlying t = some (.func a b c)) (f : Fn) (p q : Array Value) (w : World) : (Op.equal t (.func f p q) .nilFunc).run T.P w = .ok false w ∧ (Op.equal t .nilFunc (.func f p q)).run T.P w = .ok false w := by
  constructor <;> (unfold Op.equal Op.maxDepth; unfold Op.equalIn; simp only [Sem.run_bind, run_underlying hu, Result.andThen_ok]; rfl)
theorem equal_if {t t' : TypeId} {m : Array (String × TypeId)} (hu : T.underlying t = some (.interface m)) (z : Value) (w : World) : (Op.equal t (.iface t' z) .nilIface).run T.P w = .ok false w ∧ (Op.equal t .nilIface (.iface t' z)).run T.P w = .ok false w := by
  constructor <;> (unfold Op.equal Op.maxDepth; unfold Op.equalIn; simp only [Sem.run_bind, run_underlying hu, Result.andThen_ok]; rfl)
theorem eql_of {op : BinOp} {t : TypeId} {ox oy : Operand} {x y : Value} {r : AV} (hR : Rel w G H) (hg : (eqGuard op t ox oy x y).run T.P w = .ok () w) (he : (Op.equal t x y).run T.P w = .ok false w) (h1 : binOp .eql t x y = (do pure (.bool (← Op.equal t x y)))) (h2 : binOp .neq t x y = (do pure (.bool (!(← Op.equal t x y)))))
    (h : nilAns op = some r) : RunsV T.P (do eqGuard op t ox oy x y; binOp op t x y) w G H r H := by
  cases op <;> simp only [nilAns, Option.some.injEq, reduceCtorEq] at h <;> subst h
  · refine .same hR (x := .bool false) ?_ (by simp [VR])
    simp only [Sem.run_bind, hg, Result.andThen_ok, h1, he, Sem.run_pure]
  · refine .same hR (x := .bool true) ?_ (by simp [VR])
    simp only [Sem.run_bind, hg, Result.andThen_ok, h2, he, Sem.run_pure]; rfl
theorem aNil_sound (hR : Rel w G H) {op : BinOp} {t : TypeId} {ox oy : Operand} {x y : Value} {u v r : AV} (hx : VR G x u) (hy : VR G y v) (h : aNil T op t u v = some r) : RunsV T.P (do eqGuard op t ox oy x y; binOp op t x y) w G H r H := by
  unfold aNil at h
  split at h <;> try (cases h; done)
  rename_i d hu
  split at h <;> try (cases h; done)
  rename_i hf
  rw [Bool.or_eq_true] at hf
  rcases hf with hf | hf
  · rcases fitsNil_shape hx.norm hy hf with ⟨e, a, rfl, rfl, rfl⟩ | ⟨e, a, n, c, m, k, rfl, rfl, rfl⟩ | ⟨k, e, q, rfl, rfl, rfl⟩ | ⟨a, b, c, f, p, q, rfl, rfl, rfl⟩ | ⟨m, e, z, rfl, rfl, rfl⟩
    · exact eql_of hR (by cases op <;> rfl) (equal_ptr hu a w).1 rfl rfl h
    · exact eql_of hR (by cases op <;> rfl) (equal_sl hu a n c m k w).1 rfl rfl h
    · exact eql_of hR (by cases op <;> rfl) (equal_map hu q w).1 rfl rfl h
    · exact eql_of hR (by cases op <;> rfl) (equal_fn hu f p q w).1 rfl rfl h
    · exact eql_of hR (by cases op <;> rfl) (equal_if hu z w).1 rfl rfl h
  · rcases fitsNil_shape hy.norm hx hf with ⟨e, a, rfl, rfl, rfl⟩ | ⟨e, a, n, c, m, k, rfl, rfl, rfl⟩ | ⟨k, e, q, rfl, rfl, rfl⟩ | ⟨a, b, c, f, p, q, rfl, rfl, rfl⟩ | ⟨m, e, z, rfl, rfl, rfl⟩
    · exact eql_of hR (by cases op <;> rfl) (equal_ptr hu a w).2 rfl rfl h
    · exact eql_of hR (by cases op <;> rfl) (equal_sl hu a n c m k w).2 rfl rfl h
    · exact eql_of hR (by cases op <;> rfl) (equal_map hu q w).2 rfl rfl h
    · exact eql_of hR (by cases op <;> rfl) (equal_fn hu f p q w).2 rfl rfl h
    · exact eql_of hR (by cases op <;> rfl) (equal_if hu z w).2 rfl rfl h
end
end Go.Proofs.Ytlajcmoiopaemaa
