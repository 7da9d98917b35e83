/- The operations that touch no memory do what they say. -/
import Derived.Test.YteblalbifpkdcaaGreatDoorA1
import GoSem.Dispatch
import Derived.ChangeKeysEq
namespace Go.Ex

def TyOk (P : Program) (ty : Ty) : Prop := ∀ t r, ty t = some r → rowOk P t r = true

theorem row_spec {P : Program} {t : Nat} {r : Row} (h : rowOk P t r = true) :
    ∃ i d, P.info? t = some i ∧ P.underlying t = some d ∧ tdOf d = r.td ∧ i.size = r.size ∧ i.bytes = r.bytes ∧ (∃ z, i.zero = some z ∧ constOk z r.zero = true) ∧ (∀ fs, r.td = .st fs → P.stoodInHeld t = false) := by
  unfold rowOk at h
  split at h
  · rename_i i hi
    split at h
    · rename_i d hd
      simp only [Bool.and_eq_true, decide_eq_true_eq, beq_iff_eq] at h
      obtain ⟨⟨⟨⟨h1, h2⟩, h3⟩, h4⟩, h5⟩ := h
      split at h4
      · rename_i z hz
        exact ⟨i, d, hi, hd, h1, h2, h3, ⟨z, hz, h4⟩, fun fs hfs => by simpa [hfs] using h5⟩
      · cases h4
    · cases h
  · cases h

section
variable {P : Program} {w : World}
theorem run_und {t : TypeId} {d : TypeDesc} (h : P.underlying t = some d) : (underlying t).run P w = .ok d w := by simp [underlying, h]
theorem run_typeInfo' {t : TypeId} {i : TypeInfo} (h : P.info? t = some i) : (typeInfo t).run P w = .ok i w := by simp [typeInfo, h]
theorem run_sizeOf' {t : TypeId} {i : TypeInfo} (h : P.info? t = some i) : (sizeOf t).run P w = .ok i.size w := by simp [sizeOf, typeInfo, h]
theorem run_zeroValue' {t : TypeId} {i : TypeInfo} {z : Value} (h : P.info? t = some i) (hz : i.zero = some z) : (zeroValue t).run P w = .ok z w := by
  simp [zeroValue, typeInfo, h, hz]

/-- what a description's shape says -/
theorem td_int {d : TypeDesc} {k : IntKind} (h : tdOf d = .int k) : d = .int k := by cases d <;> simp [tdOf] at h; rw [h]
theorem td_bool {d : TypeDesc} (h : tdOf d = .bool) : d = .bool := by cases d <;> simp [tdOf] at h; rfl
theorem td_str {d : TypeDesc} (h : tdOf d = .str) : d = .string := by cases d <;> simp [tdOf] at h; rfl
theorem td_ptr {d : TypeDesc} {e : Nat} (h : tdOf d = .ptr e) : d = .pointer e := by cases d <;> simp [tdOf] at h; rw [h]
theorem td_sli {d : TypeDesc} {e : Nat} (h : tdOf d = .sli e) : d = .slice e := by cases d <;> simp [tdOf] at h; rw [h]
theorem td_arr {d : TypeDesc} {n e : Nat} (h : tdOf d = .arr n e) : d = .array n e := by cases d <;> simp [tdOf] at h; rw [h.1, h.2]
theorem td_map {d : TypeDesc} {k e : Nat} (h : tdOf d = .map k e) : d = .map k e := by cases d <;> simp [tdOf] at h; rw [h.1, h.2]
theorem td_fn {d : TypeDesc} (h : tdOf d = .fn) : ∃ a b c, d = .func a b c := by cases d <;> simp [tdOf] at h; exact ⟨_, _, _, rfl⟩
theorem td_st {d : TypeDesc} {fs : List (Nat × Nat × Bool)} (h : tdOf d = .st fs) : ∃ a : Array Field, d = .struct a ∧ a.toList.map (fun f => (f.offset, f.type, f.name == "_")) = fs := by
  cases d <;> simp [tdOf] at h; exact ⟨_, rfl, h⟩

theorem run_isAgg {t : TypeId} {r : Row} (h : rowOk P t r = true) : (isAgg t).run P w = .ok r.agg w := by
  obtain ⟨i, d, hi, hd, ht, _⟩ := row_spec h
  unfold isAgg
  simp only [Sem.run_bind, run_und hd, Result.andThen_ok]
  unfold Row.agg
  rw [← ht]
  cases d <;> simp [tdOf]
end

theorem nth_eq : ∀ {α : Type} (l : List α) (n : Nat), nth l n = l[n]?
  | _, [], n => by cases n <;> simp [nth]
  | _, x :: l, 0 => by simp [nth]
  | _, x :: l, n + 1 => by simp [nth, nth_eq l n]

theorem toList_getElem? {α : Type} (a : Array α) (i : Nat) : a.toList[i]? = a[i]? := by simp

theorem field_of {a : Array Field} {fs : List (Nat × Nat × Bool)} (h : a.toList.map (fun f => (f.offset, f.type, f.name == "_")) = fs) {i o t : Nat} {b : Bool}
    (hn : nth fs i = some (o, t, b)) : ∃ f, a[i]? = some f ∧ f.offset = o ∧ f.type = t ∧ (f.name == "_") = b := by
  rw [nth_eq, ← h, List.getElem?_map, Option.map_eq_some_iff] at hn
  obtain ⟨f, hf, he⟩ := hn
  simp only [Prod.mk.injEq] at he
  exact ⟨f, by simpa using hf, he.1, he.2.1, he.2.2⟩

/-- the operands are what they say -/
def EvR (σ : Sig) (ρ : Rho) (X : Cx) (ctx : List (Option Nat)) (scr : List AV) (env : Tr AV) (e : Operand → Value) : Prop :=
  ∀ x y v, X.opd ctx x y = true → opd scr env y = some v → VR σ ρ v (e x)

section
variable {σ : Sig} {ρ : Rho} {X : Cx} {ctx : List (Option Nat)} {scr : List AV} {env : Tr AV} {e : Operand → Value}

theorem EvR.list (h : EvR σ ρ X ctx scr env e) : ∀ (xs : List Operand) (ys : List AOpd) (vs : List AV), X.opds ctx xs ys = true → opds scr env ys = some vs →
    VRs σ ρ vs (xs.map e)
  | [], ys, vs, hk, ho => by
    cases ys with
    | nil => simp only [opds, Option.some.injEq] at ho; subst ho; exact VRs.nil
    | cons y ys => simp [Cx.opds] at hk
  | x :: xs, ys, vs, hk, ho => by
    cases ys with
    | nil => simp [Cx.opds] at hk
    | cons y ys =>
      simp only [Cx.opds, Bool.and_eq_true] at hk
      simp only [opds] at ho
      split at ho
      · cases ho
      · rename_i v hv
        split at ho
        · cases ho
        · rename_i vs' hvs
          simp only [Option.some.injEq] at ho
          subst ho
          exact VRs.cons (h x y v hk.1 hv) (EvR.list h xs ys vs' hk.2 hvs)

theorem nat_beq {a b : Nat} : (Nat.beq a b = true) = (a = b) := by simp

-- numbers
theorem wrapA_eq (k : IntKind) (n : Int) : wrapA k n = k.wrap n := by
  unfold wrapA
  split
  · rename_i h
    obtain ⟨h1, h2⟩ := h
    unfold IntKind.wrap IntKind.min IntKind.max at *
    cases k <;> simp [IntKind.signed, IntKind.bits] at * <;> omega
  · rfl

theorem natBits_eq {k : IntKind} {a b : Int} {g : Nat → Nat → Nat} {v : AV} (h : natBits k a b g = some v) :
    ∃ x y : Nat, a = .ofNat x ∧ b = .ofNat y ∧ x < 2 ^ k.bits ∧ y < 2 ^ k.bits ∧ v = .i k (k.wrap (.ofNat (g x y))) := by
  unfold natBits at h
  split at h
  · rename_i x y
    split at h
    · rename_i hlt
      simp only [Option.some.injEq] at h
      exact ⟨x, y, rfl, rfl, hlt.1, hlt.2, by rw [← h, wrapA_eq]⟩
    · cases h
  · cases h

theorem bv_of {n x : Nat} (h : x < 2 ^ n) : (BitVec.ofInt n (Int.ofNat x)).toNat = x := by
  simp
  exact Nat.mod_eq_of_lt h

theorem intBin_sound {op : BinOp} {k : IntKind} {a b : Int} {v : AV} (h : intBin op k a b = some v) (hs : op ≠ .shl ∧ op ≠ .shr) (P : Program) (w : World) (t : TypeId) :
    ∃ cv, VR σ ρ v cv ∧ (binOp op t (.int k a) (.int k b)).run P w = .ok cv w := by
  cases op <;> simp only [intBin, Option.some.injEq, reduceCtorEq] at h
  case add => subst h; exact ⟨_, by simp only [VR]; rfl, by simp [binOp, Op.intArith, wrapA_eq]⟩
  case sub => subst h; exact ⟨_, by simp only [VR]; rfl, by simp [binOp, Op.intArith, wrapA_eq]⟩
  case mul => subst h; exact ⟨_, by simp only [VR]; rfl, by simp [binOp, Op.intArith, wrapA_eq]⟩
  case quo =>
    split at h
    · cases h
    · rename_i h0
      simp only [Option.some.injEq] at h
      subst h; exact ⟨_, by simp only [VR]; rfl, by simp [binOp, Op.intDiv, wrapA_eq, h0]⟩
  case rem =>
    split at h
    · cases h
    · rename_i h0
      simp only [Option.some.injEq] at h
      subst h; exact ⟨_, by simp only [VR]; rfl, by simp [binOp, Op.intDiv, h0]⟩
  case and =>
    obtain ⟨x, y, rfl, rfl, hx, hy, rfl⟩ := natBits_eq h
    refine ⟨.int k (k.wrap (.ofNat (x &&& y))), by simp only [VR], ?_⟩
    simp only [binOp, Op.intBits, ne_eq, not_true_eq_false, if_false]
    rw [Sem.run_pure, BitVec.toNat_and, bv_of hx, bv_of hy]; rfl
  case or =>
    obtain ⟨x, y, rfl, rfl, hx, hy, rfl⟩ := natBits_eq h
    refine ⟨.int k (k.wrap (.ofNat (x ||| y))), by simp only [VR], ?_⟩
    simp only [binOp, Op.intBits, ne_eq, not_true_eq_false, if_false]
    rw [Sem.run_pure, BitVec.toNat_or, bv_of hx, bv_of hy]; rfl
  case xor =>
    obtain ⟨x, y, rfl, rfl, hx, hy, rfl⟩ := natBits_eq h
    refine ⟨.int k (k.wrap (.ofNat (x ^^^ y))), by simp only [VR], ?_⟩
    simp only [binOp, Op.intBits, ne_eq, not_true_eq_false, if_false]
    rw [Sem.run_pure, BitVec.toNat_xor, bv_of hx, bv_of hy]; rfl
  case andNot =>
    obtain ⟨x, y, rfl, rfl, hx, hy, rfl⟩ := natBits_eq h
    refine ⟨.int k (k.wrap (.ofNat (x ^^^ (x &&& y)))), by simp only [VR], ?_⟩
    simp only [binOp, Op.intBits, ne_eq, not_true_eq_false, if_false]
    have e : BitVec.ofInt k.bits (Int.ofNat x) &&& ~~~ BitVec.ofInt k.bits (Int.ofNat y) =
        BitVec.ofInt k.bits (Int.ofNat x) ^^^ (BitVec.ofInt k.bits (Int.ofNat x) &&& BitVec.ofInt k.bits (Int.ofNat y)) := by
      ext i hi
      simp only [BitVec.getElem_and, BitVec.getElem_not, BitVec.getElem_xor]
      cases (BitVec.ofInt k.bits (Int.ofNat x))[i] <;> cases (BitVec.ofInt k.bits (Int.ofNat y))[i] <;> rfl
    rw [e, Sem.run_pure, BitVec.toNat_xor, BitVec.toNat_and, bv_of hx, bv_of hy]; rfl
  case eql => subst h; exact ⟨_, by simp only [VR]; rfl, by simp [binOp, Op.intCmp]; rfl⟩
  case neq => subst h; exact ⟨_, by simp only [VR]; rfl, by simp [binOp, Op.intCmp]; rfl⟩
  case lss => subst h; exact ⟨_, by simp only [VR]; rfl, by simp [binOp, Op.intCmp]⟩
  case leq => subst h; exact ⟨_, by simp only [VR]; rfl, by simp [binOp, Op.intCmp]⟩
  case gtr => subst h; exact ⟨_, by simp only [VR]; rfl, by simp [binOp, Op.intCmp]⟩
  case geq => subst h; exact ⟨_, by simp only [VR]; rfl, by simp [binOp, Op.intCmp]⟩

end
end Go.Ex
/- Comparisons of values that hold no address. -/
namespace Go.Ex

def LfR : Lf → Value → Prop
  | .i k, v => ∃ n, v = .int k n
  | .b, v => ∃ x, v = .bool x
  | .s, v => ∃ s, v = .string s

def LfsR : List Lf → List Value → Prop
  | [], l => l = []
  | f :: fs, l => ∃ v r, l = v :: r ∧ LfR f v ∧ LfsR fs r

/-- are two leaves the same? -/
def lfEq : Value → Value → Bool
  | .int _ a, .int _ b => a == b
  | .bool a, .bool b => a == b
  | .string a, .string b => a.toList == b.toList
  | _, _ => false

def lfsEq : List Value → List Value → Bool
  | [], [] => true
  | x :: l, y :: l' => lfEq x y && lfsEq l l'
  | _, _ => false

theorem LfsR.length : ∀ {fs : List Lf} {l : List Value}, LfsR fs l → l.length = fs.length
  | [], _, h => by simp only [LfsR] at h; subst h; rfl
  | f :: fs, _, h => by
    simp only [LfsR] at h
    obtain ⟨v, r, rfl, _, h2⟩ := h
    simp [LfsR.length h2]

theorem LfsR.split : ∀ {fs gs : List Lf} {l : List Value}, LfsR (fs ++ gs) l → LfsR fs (l.take fs.length) ∧ LfsR gs (l.drop fs.length)
  | [], gs, l, h => by simpa [LfsR] using h
  | f :: fs, gs, _, h => by
    simp only [List.cons_append, LfsR] at h
    obtain ⟨v, r, rfl, h1, h2⟩ := h
    obtain ⟨h3, h4⟩ := LfsR.split h2
    simp only [List.length_cons, List.take_succ_cons, List.drop_succ_cons, LfsR]
    exact ⟨⟨v, _, rfl, h1, h3⟩, h4⟩

theorem lfsEq_append : ∀ {a b c d : List Value}, a.length = c.length → lfsEq (a ++ b) (c ++ d) = (lfsEq a c && lfsEq b d)
  | [], b, [], d, _ => by simp [lfsEq]
  | x :: a, b, y :: c, d, h => by
    simp only [List.cons_append, lfsEq]
    rw [lfsEq_append (by simpa using h), Bool.and_assoc]
  | [], _, _ :: _, _, h => by simp at h
  | _ :: _, _, [], _, h => by simp at h

/-- the value whose cells these are -/
def mkV (a : Bool) (xs : List Value) : Value := if a then .agg xs.toArray else xs.headD undef

section
variable {P : Program} {ty : Ty}

theorem leaves_len : ∀ (d t : Nat) (l : List Lf) (r : Row), leavesOf ty d t = some l → ty t = some r → l.length = r.size := by
  intro d
  induction d with
  | zero => intro t l r h; simp [leavesOf] at h
  | succ d ih =>
    intro t l r h hr
    simp only [leavesOf, hr] at h
    split at h
    · split at h
      · rename_i hs; simp only [Option.some.injEq] at h; subst h; simp at hs; simp [hs]
      · cases h
    · split at h
      · rename_i hs; simp only [Option.some.injEq] at h; subst h; simp at hs; simp [hs]
      · cases h
    · split at h
      · rename_i hs; simp only [Option.some.injEq] at h; subst h; simp at hs; simp [hs]
      · cases h
    · rename_i fs _
      have key : ∀ (fs : List (Nat × Nat × Bool)) (at_ : Nat) (l : List Lf), fieldsF (leavesOf ty d) fs at_ r.size = some l → at_ + l.length = r.size := by
        intro fs
        induction fs with
        | nil =>
          intro at_ l hl
          simp only [fieldsF] at hl
          split at hl
          · rename_i e; simp only [Option.some.injEq] at hl; subst hl; simpa using e
          · cases hl
        | cons f fs ihf =>
          obtain ⟨off, t', b⟩ := f
          intro at_ l hl
          simp only [fieldsF] at hl
          split at hl
          · split at hl
            · cases hl
            · rename_i l1 _
              split at hl
              · cases hl
              · rename_i l2 h2
                simp only [Option.some.injEq] at hl
                subst hl
                have := ihf _ _ h2
                simp; omega
          · cases hl
      have := key fs 0 l h
      omega
    · split at h
      · cases h
      · rename_i re _
        split at h
        · rename_i hs
          split at h
          · cases h
          · rename_i l1 _
            split at h
            · rename_i hl
              simp only [Option.some.injEq] at h
              subst h
              simp at hs hl
              rw [hs]
              have rl : ∀ n, (rep l1 n).length = n * l1.length := by
                intro n
                induction n with
                | zero => simp [rep]
                | succ n ihn => simp [rep, ihn, Nat.succ_mul]; omega
              rw [rl, hl]
            · cases h
        · cases h
    · cases h

variable (hty : TyOk P ty)
include hty

theorem run_part {t : Nat} {r : Row} (hr : ty t = some r) {cs : List Value} {off : Nat} (h1 : off + r.size ≤ cs.length) (h0 : r.agg = false → r.size = 1) (w : World) :
    (part t cs.toArray off).run P w = .ok (mkV r.agg ((cs.drop off).take r.size)) w := by
  obtain ⟨i, d, hi, hd, htd, hsz, _⟩ := row_spec (hty t r hr)
  unfold part
  simp only [Sem.run_bind, run_isAgg (hty t r hr), Result.andThen_ok]
  cases ha : r.agg with
  | true =>
    simp only [if_true, Sem.run_bind, run_sizeOf' hi, Result.andThen_ok, Sem.run_pure, mkV, hsz]
    congr 2
    simp [List.extract_toArray]
  | false =>
    have hs1 := h0 ha
    simp only [Bool.false_eq_true, if_false, mkV, hs1]
    have hlt : off < cs.length := by omega
    simp only [List.getElem?_toArray, List.getElem?_eq_getElem hlt, Sem.run_pure]
    congr 1
    rw [List.take_one]
    simp [List.head?_drop, List.getElem?_eq_getElem hlt]

theorem equalIn_leaves : ∀ (d t : Nat) (fs : List Lf) (r : Row), leavesOf ty d t = some fs → ty t = some r → (r.agg = false → r.size = 1) ∧
    ∀ (D : Nat) (xs ys : List Value) (w : World), d ≤ D → LfsR fs xs → LfsR fs ys →
      (Op.equalIn D t (mkV r.agg xs) (mkV r.agg ys)).run P w = .ok (lfsEq xs ys) w := by
  intro d
  induction d with
  | zero => intro t fs r h; simp [leavesOf] at h
  | succ d ih =>
    intro t fs r h hr
    obtain ⟨i, de, hi, hd, htd, hsz, _, _, hst⟩ := row_spec (hty t r hr)
    simp only [leavesOf, hr] at h
    split at h
    · rename_i k hk
      split at h
      · rename_i hs
        simp only [Option.some.injEq] at h; subst h
        have ha : r.agg = false := by simp [Row.agg, hk]
        simp at hs
        refine ⟨fun _ => hs, fun D xs ys w hD hx hy => ?_⟩
        simp only [LfsR, LfR] at hx hy
        obtain ⟨_, _, rfl, ⟨a, rfl⟩, rfl⟩ := hx
        obtain ⟨_, _, rfl, ⟨b, rfl⟩, rfl⟩ := hy
        obtain ⟨D, rfl⟩ : ∃ E, D = E + 1 := ⟨D - 1, by omega⟩
        rw [hk] at htd
        have hde := td_int htd
        subst hde
        simp [mkV, ha, run_equalIn_int w D t k k a b hd, lfsEq, lfEq]
      · cases h
    · rename_i hk
      split at h
      · rename_i hs
        simp only [Option.some.injEq] at h; subst h
        have ha : r.agg = false := by simp [Row.agg, hk]
        simp at hs
        refine ⟨fun _ => hs, fun D xs ys w hD hx hy => ?_⟩
        simp only [LfsR, LfR] at hx hy
        obtain ⟨_, _, rfl, ⟨a, rfl⟩, rfl⟩ := hx
        obtain ⟨_, _, rfl, ⟨b, rfl⟩, rfl⟩ := hy
        obtain ⟨D, rfl⟩ : ∃ E, D = E + 1 := ⟨D - 1, by omega⟩
        rw [hk] at htd
        have hde := td_bool htd
        subst hde
        simp [mkV, ha, run_equalIn_bool' w D t a b hd, lfsEq, lfEq]
      · cases h
    · rename_i hk
      split at h
      · rename_i hs
        simp only [Option.some.injEq] at h; subst h
        have ha : r.agg = false := by simp [Row.agg, hk]
        simp at hs
        refine ⟨fun _ => hs, fun D xs ys w hD hx hy => ?_⟩
        simp only [LfsR, LfR] at hx hy
        obtain ⟨_, _, rfl, ⟨a, rfl⟩, rfl⟩ := hx
        obtain ⟨_, _, rfl, ⟨b, rfl⟩, rfl⟩ := hy
        obtain ⟨D, rfl⟩ : ∃ E, D = E + 1 := ⟨D - 1, by omega⟩
        rw [hk] at htd
        have hde := td_str htd
        subst hde
        simp [mkV, ha, run_equalIn_string w D t a b hd, lfsEq, lfEq]
      · cases h
    · rename_i fl hk
      have ha : r.agg = true := by simp [Row.agg, hk]
      refine ⟨fun h0 => (by rw [ha] at h0; cases h0), fun D xs ys w hD hx hy => ?_⟩
      obtain ⟨D, rfl⟩ : ∃ E, D = E + 1 := ⟨D - 1, by omega⟩
      rw [hk] at htd
      obtain ⟨fields, rfl, hfl⟩ := td_st htd
      simp only [mkV, ha, if_true]
      have hfo : P.fieldsOf t = fields := by simp [Program.fieldsOf, hd]
      rw [run_equalIn_struct w D t _ _ (by rw [hfo]; exact hd) (hst _ hk), hfo]
      have key : ∀ (gl : List Field) (at_ : Nat) (L : List Lf), fieldsF (leavesOf ty d) (gl.map fun f => (f.offset, f.type, f.name == "_")) at_ r.size = some L →
          LfsR L (xs.drop at_) → LfsR L (ys.drop at_) → at_ ≤ xs.length → at_ ≤ ys.length →
          (Op.eqFields D xs.toArray ys.toArray gl).run P w = .ok (lfsEq (xs.drop at_) (ys.drop at_)) w := by
        intro gl
        induction gl with
        | nil =>
          intro at_ L hL hx hy _ _
          simp only [List.map_nil, fieldsF] at hL
          split at hL
          · simp only [Option.some.injEq] at hL
            subst hL
            simp only [LfsR] at hx hy
            rw [hx, hy]
            simp [Op.eqFields, lfsEq]
          · cases hL
        | cons g gl ihg =>
          intro at_ L hL hx hy hax hay
          simp only [List.map_cons, fieldsF] at hL
          split at hL
          · rename_i hcond
            simp only [Bool.and_eq_true, Nat.beq_eq, Bool.not_eq_true', beq_eq_false_iff_ne] at hcond
            obtain ⟨hoff, hname⟩ := hcond
            split at hL
            · cases hL
            · rename_i l1 h1
              split at hL
              · cases hL
              · rename_i l2 h2
                simp only [Option.some.injEq] at hL
                subst hL
                obtain ⟨rg, hrg⟩ : ∃ rg, ty g.type = some rg := by
                  cases hrg : ty g.type with
                  | some rg => exact ⟨rg, rfl⟩
                  | none => cases d <;> simp [leavesOf, hrg] at h1
                obtain ⟨h01, hrun⟩ := ih g.type l1 rg h1 hrg
                have hlen := leaves_len d g.type l1 rg h1 hrg
                obtain ⟨hx1, hx2⟩ := LfsR.split hx
                obtain ⟨hy1, hy2⟩ := LfsR.split hy
                have hxl := LfsR.length hx
                have hyl := LfsR.length hy
                simp only [List.length_drop, List.length_append] at hxl hyl
                rw [hlen] at hx1 hx2 hy1 hy2
                rw [List.drop_drop] at hx2 hy2
                simp only [Op.eqFields, ne_eq, hname, not_false_eq_true, if_true, Sem.run_bind]
                rw [run_part hty hrg (by rw [hoff]; omega) h01, Result.andThen_ok, run_part hty hrg (by rw [hoff]; omega) h01, Result.andThen_ok]
                rw [hoff, hrun D _ _ w (by omega) hx1 hy1, Result.andThen_ok]
                have hsp : lfsEq (xs.drop at_) (ys.drop at_) = (lfsEq ((xs.drop at_).take rg.size) ((ys.drop at_).take rg.size) && lfsEq (xs.drop (at_ + rg.size)) (ys.drop (at_ + rg.size))) := by
                  rw [← List.drop_drop, ← List.drop_drop, ← lfsEq_append (by simp; omega), List.take_append_drop, List.take_append_drop]
                rw [hsp]
                cases hb : lfsEq ((xs.drop at_).take rg.size) ((ys.drop at_).take rg.size) with
                | false => simp
                | true =>
                  simp only [Bool.not_true, Bool.false_eq_true, if_false, Bool.true_and]
                  rw [hlen] at h2
                  exact ihg (at_ + rg.size) l2 h2 hx2 hy2 (by omega) (by omega)
          · cases hL
      have := key fields.toList 0 fs (by rw [hfl]; exact h) (by simpa using hx) (by simpa using hy) (by omega) (by omega)
      simpa using this
    · rename_i n e hk
      have ha : r.agg = true := by simp [Row.agg, hk]
      refine ⟨fun h0 => (by rw [ha] at h0; cases h0), fun D xs ys w hD hx hy => ?_⟩
      obtain ⟨D, rfl⟩ : ∃ E, D = E + 1 := ⟨D - 1, by omega⟩
      rw [hk] at htd
      have hde := td_arr htd
      subst hde
      split at h
      · cases h
      · rename_i re hre
        split at h
        · rename_i hs
          split at h
          · cases h
          · rename_i l1 h1
            split at h
            · rename_i hl1
              simp only [Option.some.injEq] at h
              subst h
              simp at hs hl1
              obtain ⟨ie, dde, hie, hdde, _, hsze, _⟩ := row_spec (hty e re hre)
              simp only [mkV, ha, if_true]
              have hc : P.cellsOf e = re.size := by simp [Program.cellsOf, hie, hsze]
              rw [run_equalIn_array w D _ _ hd hie, hc]
              obtain ⟨h01, hrun⟩ := ih e l1 re h1 hre
              have key : ∀ (m j : Nat), LfsR (rep l1 m) (xs.drop (j * re.size)) → LfsR (rep l1 m) (ys.drop (j * re.size)) →
                  j * re.size ≤ xs.length → j * re.size ≤ ys.length →
                  (Op.eqItems D e re.size xs.toArray ys.toArray (List.range' j m)).run P w = .ok (lfsEq (xs.drop (j * re.size)) (ys.drop (j * re.size))) w := by
                intro m
                induction m with
                | zero =>
                  intro j hx hy _ _
                  simp only [rep, LfsR] at hx hy
                  rw [hx, hy]
                  simp [Op.eqItems, lfsEq]
                | succ m ihm =>
                  intro j hx hy hax hay
                  simp only [rep] at hx hy
                  obtain ⟨hx1, hx2⟩ := LfsR.split hx
                  obtain ⟨hy1, hy2⟩ := LfsR.split hy
                  have hxl := LfsR.length hx
                  have hyl := LfsR.length hy
                  simp only [List.length_drop, List.length_append] at hxl hyl
                  rw [hl1] at hx1 hx2 hy1 hy2
                  rw [List.drop_drop] at hx2 hy2
                  have hj : j * re.size + re.size = (j + 1) * re.size := by rw [Nat.succ_mul]
                  rw [hj] at hx2 hy2
                  simp only [List.range'_succ, Op.eqItems, Sem.run_bind]
                  rw [run_part hty hre (by omega) h01, Result.andThen_ok, run_part hty hre (by omega) h01, Result.andThen_ok,
                    hrun D _ _ w (by omega) hx1 hy1, Result.andThen_ok]
                  have hsp : lfsEq (xs.drop (j * re.size)) (ys.drop (j * re.size)) = (lfsEq ((xs.drop (j * re.size)).take re.size) ((ys.drop (j * re.size)).take re.size) && lfsEq (xs.drop ((j + 1) * re.size)) (ys.drop ((j + 1) * re.size))) := by
                    rw [← hj, ← List.drop_drop, ← List.drop_drop, ← lfsEq_append (by simp; omega), List.take_append_drop, List.take_append_drop]
                  rw [hsp]
                  cases hb : lfsEq ((xs.drop (j * re.size)).take re.size) ((ys.drop (j * re.size)).take re.size) with
                  | false => simp
                  | true =>
                    simp only [Bool.not_true, Bool.false_eq_true, if_false, Bool.true_and]
                    exact ihm (j + 1) hx2 hy2 (by omega) (by omega)
              have := key n 0 (by simpa using hx) (by simpa using hy) (by omega) (by omega)
              simpa [List.range_eq_range'] using this
            · cases h
        · cases h
    · cases h
end

-- the abstract comparison
theorem UInt8_ofNat_inj {a b : Nat} (ha : a < 256) (hb : b < 256) (h : UInt8.ofNat a = UInt8.ofNat b) : a = b := by
  have := congrArg UInt8.toNat h
  simp at this
  omega

theorem small_mem : ∀ {l : List Nat}, small l = true → ∀ c ∈ l, c < 256
  | [], _, c, h => by cases h
  | x :: l, hs, c, h => by
    simp only [small, Bool.and_eq_true, Nat.blt_eq] at hs
    cases h with
    | head => exact hs.1
    | tail _ h => exact small_mem hs.2 c h

theorem bytes_inj : ∀ {l l' : List Nat}, small l = true → small l' = true → l.map UInt8.ofNat = l'.map UInt8.ofNat → l = l'
  | [], [], _, _, _ => rfl
  | [], _ :: _, _, _, h => by simp at h
  | _ :: _, [], _, _, h => by simp at h
  | x :: l, y :: l', h1, h2, h => by
    simp only [small, Bool.and_eq_true, Nat.blt_eq] at h1 h2
    simp only [List.map_cons, List.cons.injEq] at h
    rw [UInt8_ofNat_inj h1.1 h2.1 h.1, bytes_inj h1.2 h2.2 h.2]

theorem bytesOf_toList (l : List Nat) : (bytesOf l).toList = l.map UInt8.ofNat := by
  simp [bytesOf, ByteArray.toList_eq]

theorem bytesOf_eq {l l' : List Nat} (h1 : small l = true) (h2 : small l' = true) : ((bytesOf l).toList == (bytesOf l').toList) = (l == l') := by
  rw [bytesOf_toList, bytesOf_toList]
  by_cases h : l = l'
  · subst h; simp
  · have : ¬ l.map UInt8.ofNat = l'.map UInt8.ofNat := fun e => h (bytes_inj h1 h2 e)
    rw [beq_eq_false_iff_ne.2 h, beq_eq_false_iff_ne.2 this]

section
variable {σ : Sig} {ρ : Rho}
theorem leafEq_sound {f : Lf} {x y : AV} {b : Bool} {u v : Value} (h : leafEq f x y = some b) (hx : VR σ ρ x u) (hy : VR σ ρ y v) :
    LfR f u ∧ LfR f v ∧ lfEq u v = b := by
  cases f <;> cases x <;> (try (simp only [leafEq, reduceCtorEq] at h; done)) <;> cases y <;> (try (simp only [leafEq, reduceCtorEq] at h; done)) <;> simp only [leafEq] at h <;> simp only [VR] at hx hy
  case i.i.i k k1 n1 k2 n2 =>
    split at h
    · rename_i e
      obtain ⟨rfl, rfl⟩ := e
      simp only [Option.some.injEq] at h
      subst hx; subst hy
      refine ⟨⟨_, rfl⟩, ⟨_, rfl⟩, ?_⟩
      rw [← h]; simp [lfEq]; rfl
    · cases h
  case b.b.b =>
    simp only [Option.some.injEq] at h
    subst hx; subst hy
    exact ⟨⟨_, rfl⟩, ⟨_, rfl⟩, by simpa [lfEq] using h⟩
  case s.s.s =>
    simp only [Option.some.injEq] at h
    obtain ⟨rfl, h1⟩ := hx
    obtain ⟨rfl, h2⟩ := hy
    refine ⟨⟨_, rfl⟩, ⟨_, rfl⟩, ?_⟩
    simp only [lfEq]
    rw [bytesOf_eq h1 h2, h]

theorem cellsEq_sound : ∀ {fs : List Lf} {l l' : List AV} {b : Bool} {u v : List Value}, cellsEq fs l l' = some b → VRs σ ρ l u → VRs σ ρ l' v →
    LfsR fs u ∧ LfsR fs v ∧ lfsEq u v = b
  | [], l, l', b, u, v, h, hx, hy => by
    cases l <;> cases l' <;> simp only [cellsEq, reduceCtorEq, Option.some.injEq] at h
    simp only [VRs] at hx hy
    subst hx; subst hy; subst h
    simp [LfsR, lfsEq]
  | f :: fs, l, l', b, u, v, h, hx, hy => by
    cases l with
    | nil => simp [cellsEq] at h
    | cons x l =>
      cases l' with
      | nil => simp [cellsEq] at h
      | cons y l' =>
        simp only [cellsEq] at h
        split at h
        · cases h
        · rename_i e1 h1
          split at h
          · cases h
          · rename_i e2 h2
            simp only [Option.some.injEq] at h
            simp only [VRs] at hx hy
            obtain ⟨x1, xr, rfl, hx1, hx2⟩ := hx
            obtain ⟨y1, yr, rfl, hy1, hy2⟩ := hy
            obtain ⟨a1, a2, a3⟩ := leafEq_sound h1 hx1 hy1
            obtain ⟨b1, b2, b3⟩ := cellsEq_sound h2 hx2 hy2
            exact ⟨⟨_, _, rfl, a1, b1⟩, ⟨_, _, rfl, a2, b2⟩, by simp [lfsEq, a3, b3, h]⟩
end
end Go.Ex
/- The operations that touch no memory do what they say: the rest. -/
namespace Go.Ex
section
variable {σ : Sig} {ρ : Rho} {X : Cx} {P : Program} {ctx : List (Option Nat)} {scr : List AV} {env : Tr AV} {e : Operand → Value}

theorem shiftBin_sound {op : BinOp} {k k' : IntKind} {a b : Int} {v : AV} (h : shiftBin op k a b = some v) (t : TypeId) :
    ∃ cv, VR σ ρ v cv ∧ ∀ w, (binOp op t (.int k a) (.int k' b)).run P w = .ok cv w := by
  unfold shiftBin at h
  split at h
  · rename_i x y
    split at h
    · simp only [Option.some.injEq] at h
      subst h
      refine ⟨_, by simp only [VR]; rfl, fun w => ?_⟩
      rw [wrapA_eq]
      have : ¬ ((Int.ofNat y : Int) < 0) := by simp
      simp only [binOp, Op.shift, this, if_false, Sem.run_pure]
      simp
    · simp only [Option.some.injEq] at h
      subst h
      refine ⟨_, by simp only [VR]; rfl, fun w => ?_⟩
      have : ¬ ((Int.ofNat y : Int) < 0) := by simp
      simp only [binOp, Op.shift, this, if_false, Sem.run_pure]
      congr 2
      simp only [Int.ofNat_eq_natCast, Int.toNat_natCast]
      rw [Int.fdiv_eq_ediv_of_nonneg _ (by exact_mod_cast Nat.zero_le _)]
      norm_cast
    · cases h
  · cases h

theorem eqGuard_nil {op : BinOp} {t : TypeId} {x y : Operand} {a b : Value} (h : (∀ as bs, a = .agg as → b = .agg bs → P.eqGuardType P.depth t = false) ∧ (a = .nilIface → b = .nilIface → False)) (w : World) :
    (eqGuard op t x y a b).run P w = .ok () w := by
  obtain ⟨h1, h2⟩ := h
  unfold eqGuard
  cases op <;> simp <;> (split <;> first | (exact absurd rfl (fun e => (h2 e rfl).elim)) | (rename_i as bs; simp [h1 as bs rfl rfl]) | simp)

theorem tdIs_spec (hty : TyOk P X.ty) {t : Nat} {f : TD → Bool} (h : X.tdIs t f = true) : ∃ r d, X.ty t = some r ∧ P.underlying t = some d ∧ tdOf d = r.td ∧ f r.td = true := by
  unfold Cx.tdIs at h
  split at h
  · cases h
  · rename_i r hr
    obtain ⟨i, d, hi, hd, htd, _⟩ := row_spec (hty t r hr)
    exact ⟨r, d, hr, hd, htd, h⟩

theorem eqOp_some {op : BinOp} {q : Option Bool} {v : AV} (h : eqOp op q = some v) : ∃ b, q = some b ∧ ((op = .eql ∧ v = .b b) ∨ (op = .neq ∧ v = .b (!b))) := by
  cases q with
  | none => simp [eqOp] at h
  | some b =>
    refine ⟨b, rfl, ?_⟩
    simp only [eqOp] at h
    split at h
    · simp only [Option.some.injEq] at h; exact .inl ⟨rfl, h.symm⟩
    · simp only [Option.some.injEq] at h; exact .inr ⟨rfl, h.symm⟩
    · cases h

/-- comparisons that are none of integers or strings -/
theorem valEq_sound (hty : TyOk P X.ty) {op : BinOp} {c : EC} {x y : AV} {b : Bool} {t : Nat} {cx cy : Value} (hc : X.ecOk P op t c = true) (h : valEq c x y = some b)
    (hx : VR σ ρ x cx) (hy : VR σ ρ y cy) :
    (∀ w, (Op.equal t cx cy).run P w = .ok b w) ∧ (binOp .eql t cx cy = (do pure (.bool (← Op.equal t cx cy)))) ∧ (binOp .neq t cx cy = (do pure (.bool (!(← Op.equal t cx cy))))) ∧
    ((∀ as bs, cx = .agg as → cy = .agg bs → P.eqGuardType P.depth t = false) ∧ (cx = .nilIface → cy = .nilIface → False)) := by
  unfold valEq at h
  split at h
  · simp only [Option.some.injEq] at h
    simp only [VR] at hx hy
    subst hx; subst hy
    simp only [Cx.ecOk] at hc
    obtain ⟨r, d, _, hd, htd, hf⟩ := tdIs_spec hty hc
    simp only [decide_eq_true_eq] at hf
    rw [hf] at htd
    have := td_bool htd
    subst this
    refine ⟨fun w => ?_, rfl, rfl, by simp⟩
    rw [← h]
    exact run_equalIn_bool' w 9999 t _ _ hd
  iterate 3
    · simp only [Option.some.injEq] at h
      subst h
      simp only [VR] at hx hy
      simp only [Cx.ecOk] at hc
      obtain ⟨r, d, _, hd, htd, hf⟩ := tdIs_spec hty hc
      split at hf
      · rename_i e he
        rw [he] at htd
        have := td_ptr htd
        subst this
        (first
          | (subst hx; subst hy)
          | (subst hx; obtain ⟨L, _, rfl⟩ := hy)
          | (obtain ⟨L, _, rfl⟩ := hx; subst hy))
        exact ⟨fun w => (fun (D : Nat) => (by simp [Op.equalIn, run_und hd] : (Op.equalIn (D + 1) t _ _).run P w = .ok _ w)) 9999, rfl, rfl, by simp⟩
      · cases hf
  iterate 3
    · simp only [Option.some.injEq] at h
      subst h
      simp only [VR] at hx hy
      simp only [Cx.ecOk] at hc
      obtain ⟨r, d, _, hd, htd, hf⟩ := tdIs_spec hty hc
      split at hf
      · rename_i e he
        rw [he] at htd
        have := td_sli htd
        subst this
        (first
          | (subst hx; subst hy)
          | (subst hx; obtain ⟨L, k, _, rfl, _⟩ := hy)
          | (obtain ⟨L, k, _, rfl, _⟩ := hx; subst hy))
        exact ⟨fun w => (fun (D : Nat) => (by simp [Op.equalIn, run_und hd] : (Op.equalIn (D + 1) t _ _).run P w = .ok _ w)) 9999, rfl, rfl, by simp⟩
      · cases hf
  iterate 3
    · simp only [Option.some.injEq] at h
      subst h
      simp only [VR] at hx hy
      simp only [Cx.ecOk] at hc
      obtain ⟨r, d, _, hd, htd, hf⟩ := tdIs_spec hty hc
      split at hf
      · rename_i k e he
        rw [he] at htd
        have := td_map htd
        subst this
        (first
          | (subst hx; subst hy)
          | (subst hx; obtain ⟨L, _, rfl⟩ := hy)
          | (obtain ⟨L, _, rfl⟩ := hx; subst hy))
        exact ⟨fun w => (fun (D : Nat) => (by simp [Op.equalIn, run_und hd] : (Op.equalIn (D + 1) t _ _).run P w = .ok _ w)) 9999, rfl, rfl, by simp⟩
      · cases hf
  iterate 3
    · simp only [Option.some.injEq] at h
      subst h
      simp only [VR] at hx hy
      simp only [Cx.ecOk] at hc
      obtain ⟨r, d, _, hd, htd, hf⟩ := tdIs_spec hty hc
      split at hf
      · rename_i he
        rw [he] at htd
        obtain ⟨_, _, _, this⟩ := td_fn htd
        subst this
        (first
          | (subst hx; subst hy)
          | (subst hx; obtain ⟨_, _, _, _, rfl⟩ := hy)
          | (obtain ⟨_, _, _, _, rfl⟩ := hx; subst hy))
        exact ⟨fun w => (fun (D : Nat) => (by simp [Op.equalIn, run_und hd] : (Op.equalIn (D + 1) t _ _).run P w = .ok _ w)) 9999, rfl, rfl, by simp⟩
      · cases hf
  · rename_i fs l l'
    simp only [VR] at hx hy
    obtain ⟨u, hu, rfl⟩ := hx
    obtain ⟨v, hv, rfl⟩ := hy
    simp only [Cx.ecOk, Bool.and_eq_true, Bool.not_eq_true'] at hc
    obtain ⟨⟨⟨_, hl⟩, hg⟩, ht⟩ := hc
    unfold Cx.leaves at hl
    split at hl
    · cases hl
    · rename_i fs' hfs
      have hff : fs = fs' := by
        have : ∀ (a b : List Lf), lfsBeq a b = true → a = b := by
          intro a
          induction a with
          | nil => intro b hb; cases b <;> simp_all [lfsBeq]
          | cons p a ih =>
            intro b hb
            cases b with
            | nil => simp [lfsBeq] at hb
            | cons q b =>
              simp only [lfsBeq, Bool.and_eq_true] at hb
              rw [ih b hb.2]
              congr 1
              cases p <;> cases q <;> simp_all [Lf.beq]
        exact this _ _ hl
      subst hff
      obtain ⟨r, d, hr, hd, htd, hf⟩ := tdIs_spec hty ht
      have ha : r.agg = true := by
        unfold Row.agg
        split at hf <;> simp_all
      obtain ⟨h1, h2, h3⟩ := cellsEq_sound h hu hv
      obtain ⟨_, hrun⟩ := equalIn_leaves hty 8 t _ r hfs hr
      refine ⟨fun w => ?_, rfl, rfl, fun _ _ _ _ => hg, by simp⟩
      have := hrun 10000 u v w (by omega) h1 h2
      simp only [mkV, ha, if_true] at this
      rw [← h3]
      exact this
  · cases h

/-- ints of one kind, strings: no type is asked -/
theorem binA_sound (hty : TyOk P X.ty) {op : BinOp} {c : EC} {x y : AV} {v : AV} {t : Nat} {cx cy : Value} (hc : X.ecOk P op t c = true) (h : binA op c x y = some v)
    (hx : VR σ ρ x cx) (hy : VR σ ρ y cy) (o1 o2 : Operand) :
    ∃ cv, VR σ ρ v cv ∧ ∀ w, (do eqGuard op t o1 o2 cx cy; binOp op t cx cy : Sem Value).run P w = .ok cv w := by
  have gd : ∀ (cv : Value), ((∀ as bs, cx = .agg as → cy = .agg bs → P.eqGuardType P.depth t = false) ∧ (cx = .nilIface → cy = .nilIface → False)) →
      (∀ w, (binOp op t cx cy).run P w = .ok cv w) → ∀ w, (do eqGuard op t o1 o2 cx cy; binOp op t cx cy : Sem Value).run P w = .ok cv w := by
    intro cv hg hb w
    rw [Sem.run_bind, eqGuard_nil hg, Result.andThen_ok, hb]
  cases x
  case i k a =>
    simp only [VR] at hx
    subst hx
    cases y <;> simp only [binA, reduceCtorEq] at h
    rename_i k' b
    simp only [VR] at hy
    subst hy
    split at h
    · obtain ⟨cv, h1, h2⟩ := shiftBin_sound (σ := σ) (ρ := ρ) (P := P) (k' := k') h t
      exact ⟨cv, h1, gd cv ⟨by simp, by simp⟩ h2⟩
    · obtain ⟨cv, h1, h2⟩ := shiftBin_sound (σ := σ) (ρ := ρ) (P := P) (k' := k') h t
      exact ⟨cv, h1, gd cv ⟨by simp, by simp⟩ h2⟩
    · rename_i hn1 hn2
      split at h
      · rename_i hk
        subst hk
        have hw := fun w => intBin_sound (σ := σ) (ρ := ρ) h ⟨fun e => hn1 e, fun e => hn2 e⟩ P w t
        obtain ⟨cv, h1, _⟩ := hw default
        refine ⟨cv, h1, gd cv ⟨by simp, by simp⟩ fun w => ?_⟩
        obtain ⟨cv', h1', h2'⟩ := hw w
        rw [h2']
        have : cv' = cv := by
          cases v <;> simp only [VR] at h1 h1' <;> first | (rw [h1, h1']) | skip
          all_goals (cases op <;> simp [intBin, natBits] at h <;> (try split at h) <;> (try split at h) <;> simp_all)
        rw [this]
      · cases h
  case s a =>
    simp only [VR] at hx
    obtain ⟨rfl, ha⟩ := hx
    cases y <;> simp only [binA, reduceCtorEq] at h
    rename_i b
    simp only [VR] at hy
    obtain ⟨rfl, hb⟩ := hy
    split at h
    · split at h
      · rename_i hlt
        simp only [Option.some.injEq] at h
        subst h
        refine ⟨.string (bytesOf (a ++ b)), ?_, gd _ ⟨by simp, by simp⟩ fun w => ?_⟩
        · simp only [VR, true_and]
          have : ∀ (l l' : List Nat), small l = true → small l' = true → small (l ++ l') = true := by
            intro l
            induction l with
            | nil => intro l' _ h; simpa using h
            | cons c l ih => intro l' h1 h2; simp only [small, List.cons_append, Bool.and_eq_true] at h1 ⊢; exact ⟨h1.1, ih l' h1.2 h2⟩
          exact this a b ha hb
        · have hsz : ∀ l : List Nat, (bytesOf l).size = l.length := fun l => by simp [bytesOf, ByteArray.size]
          have hle : ¬ ((((bytesOf a).size + (bytesOf b).size : Nat) : Int) > IntKind.i64.max) := by
            rw [hsz, hsz]
            have : IntKind.i64.max = 9223372036854775807 := by decide
            rw [this]; omega
          simp only [binOp, Op.stringOp, hle, if_false, Sem.run_pure]
          congr 2
          simp only [bytesOf, List.map_append]
          apply ByteArray.ext
          simp
      · cases h
    · simp only [Option.some.injEq] at h
      subst h
      exact ⟨.bool (a == b), by simp only [VR], gd _ ⟨by simp, by simp⟩ fun w => by simp [binOp, Op.stringOp, bytesOf_eq ha hb]⟩
    · simp only [Option.some.injEq] at h
      subst h
      exact ⟨.bool (!(a == b)), by simp only [VR], gd _ ⟨by simp, by simp⟩ fun w => by simp [binOp, Op.stringOp, bytesOf_eq ha hb]⟩
    · cases h
  all_goals
    simp only [binA] at h
    -- what is left is a comparison
    obtain ⟨b, hb, hop⟩ := eqOp_some h
    obtain ⟨he, h1, h2, hg⟩ := valEq_sound hty hc hb hx hy
    rcases hop with ⟨rfl, rfl⟩ | ⟨rfl, rfl⟩
    · exact ⟨.bool b, by simp only [VR], gd _ hg fun w => by rw [h1]; simp [he]⟩
    · exact ⟨.bool (!b), by simp only [VR], gd _ hg fun w => by rw [h2]; simp [he]⟩
end
end Go.Ex
/- The operations that touch no memory: all of them. -/
namespace Go.Ex

theorem addr_add (b x n : Nat) : Addr.add ⟨b, x, none⟩ n = ⟨b, x + n, none⟩ := by
  unfold Addr.add
  split
  · rename_i h; subst h; rfl
  · rfl

theorem small_append : ∀ {l l' : List Nat}, small l = true → small l' = true → small (l ++ l') = true
  | [], l', _, h => by simpa using h
  | c :: l, l', h1, h2 => by
    simp only [small, List.cons_append, Bool.and_eq_true] at h1 ⊢
    exact ⟨h1.1, small_append h1.2 h2⟩
theorem small_of_mem : ∀ {l : List Nat}, (∀ c ∈ l, c < 256) → small l = true
  | [], _ => rfl
  | c :: l, h => by
    simp only [small, Bool.and_eq_true, Nat.blt_eq]
    exact ⟨h c (by simp), small_of_mem fun d hd => h d (by simp [hd])⟩
theorem small_sub {l l' : List Nat} (h : small l = true) (hs : ∀ c ∈ l', c ∈ l) : small l' = true :=
  small_of_mem fun c hc => small_mem h c (hs c hc)

theorem bytesOf_size (l : List Nat) : (bytesOf l).size = l.length := by simp [bytesOf, ByteArray.size]
theorem bytesOf_extract (l : List Nat) (a b : Nat) : (bytesOf l).extract a b = bytesOf ((l.take b).drop a) := by
  apply ByteArray.ext
  simp only [ByteArray.data_extract, bytesOf, List.extract_toArray, List.extract_eq_take_drop]
  congr 1
  rw [← List.map_drop, ← List.map_take]
  congr 1
  rw [List.drop_take]

section
variable {σ : Sig} {ρ : Rho} {X : Cx} {P : Program} {ctx : List (Option Nat)} {scr : List AV} {env : Tr AV} {e : Operand → Value}

theorem asNat_some {x : AV} {n : Nat} (h : asNat x = some n) : ∃ k, x = .i k (.ofNat n) := by
  unfold asNat at h
  split at h
  · simp only [Option.some.injEq] at h; subst h; exact ⟨_, rfl⟩
  · cases h

/-- a bound of a slice expression -/
theorem bound_sound (hev : EvR σ ρ X ctx scr env e) {x : Operand} {y : AOpd} {n : Nat} (hx : X.opd ctx x y = true)
    (h : optNat scr env 0 (some y) = some n) : ∃ k, e x = .int k (.ofNat n) := by
  unfold optNat at h
  simp only at h
  split at h
  · rename_i v hv
    obtain ⟨k, rfl⟩ := asNat_some h
    have := hev x y _ hx hv
    simp only [VR] at this
    exact ⟨k, this⟩
  · cases h

theorem optNat_d {d d' : Nat} {y : AOpd} : optNat scr env d (some y) = optNat scr env d' (some y) := rfl

theorem run_sliceBound {k : IntKind} {n y : Nat} {code : BoundsCode} (h : n ≤ y) (w : World) : (Instr.sliceBound (.int k (.ofNat n)) y code).run P w = .ok n w := by
  unfold Instr.sliceBound
  simp [asIntOf, h]

theorem run_sliceBound' {k : IntKind} {n y : Nat} {code : BoundsCode} (h : n ≤ y) (w : World) : (Instr.sliceBound (.int k (n : Int)) y code).run P w = .ok n w :=
  run_sliceBound h w

theorem run_sliceBounds {b : Bool} {len cap : Nat} {lo hi mx : Option Value} {l : Nat} {h m : Option Nat}
    (hl : (lo = none ∧ l = 0) ∨ ∃ k, lo = some (.int k (.ofNat l)))
    (hh : (hi = none ∧ h = none) ∨ ∃ k n, hi = some (.int k (.ofNat n)) ∧ h = some n)
    (hm : (mx = none ∧ m = none) ∨ ∃ k n, mx = some (.int k (.ofNat n)) ∧ m = some n)
    (hhm : h = none → m = none)
    (h1 : m.getD cap ≤ cap) (h2 : h.isSome → h.getD len ≤ m.getD cap) (h3 : l ≤ h.getD len) (w : World) :
    (Instr.sliceBounds b len cap lo hi mx).run P w = .ok (l, h.getD len, m.getD cap) w := by
  unfold Instr.sliceBounds
  rcases hm with ⟨rfl, rfl⟩ | ⟨km, nm, rfl, rfl⟩ <;> rcases hh with ⟨rfl, rfl⟩ | ⟨kh, nh, rfl, rfl⟩ <;> rcases hl with ⟨rfl, rfl⟩ | ⟨kl, rfl⟩ <;>
    simp only [Option.getD_none, Option.getD_some, Option.isSome_some, Option.isSome_none, forall_const, reduceCtorEq, imp_false, false_implies] at *
  all_goals simp [run_sliceBound', *]

theorem fSlS_inv {sz : Nat} {y : AOpd} {lo hi mx : Option AOpd} {v : AV} (h : fSlS sz y lo hi mx scr env = some v) :
    ∃ x l ho mo, opd scr env y = some x ∧ optNat scr env 0 lo = some l ∧
      ((hi = none ∧ ho = none) ∨ ∃ yh n, hi = some yh ∧ optNat scr env 0 (some yh) = some n ∧ ho = some n) ∧
      ((mx = none ∧ mo = none) ∨ ∃ ym n, mx = some ym ∧ optNat scr env 0 (some ym) = some n ∧ mo = some n) ∧ (ho = none → mo = none) ∧
      sliceA sz x l ho mo = some v := by
  unfold fSlS at h
  split at h
  · cases h
  · rename_i x hx
    split at h
    · cases h
    · rename_i l hl
      split at h
      · split at h
        · exact ⟨x, l, none, none, hx, hl, .inl ⟨rfl, rfl⟩, .inl ⟨rfl, rfl⟩, fun _ => rfl, h⟩
        · cases h
      · rename_i yh
        split at h
        · cases h
        · rename_i n hn
          split at h
          · exact ⟨x, l, some n, none, hx, hl, .inr ⟨yh, n, rfl, hn, rfl⟩, .inl ⟨rfl, rfl⟩, (fun h => by cases h), h⟩
          · rename_i ym
            split at h
            · cases h
            · rename_i m hm
              exact ⟨x, l, some n, some m, hx, hl, .inr ⟨yh, n, rfl, hn, rfl⟩, .inr ⟨ym, m, rfl, hm, rfl⟩, (fun h => by cases h), h⟩

theorem opt_none {x : Option Operand} (h : X.opt ctx x none = true) : x = none := by
  cases x with
  | none => rfl
  | some x => simp [Cx.opt] at h
theorem opt_some {x : Option Operand} {y : AOpd} (h : X.opt ctx x (some y) = true) : ∃ x', x = some x' ∧ X.opd ctx x' y = true := by
  cases x with
  | none => simp [Cx.opt] at h
  | some x => exact ⟨x, rfl, by simpa [Cx.opt] using h⟩

theorem lo_sound (hev : EvR σ ρ X ctx scr env e) {x : Option Operand} {y : Option AOpd} {l : Nat} (hx : X.opt ctx x y = true) (h : optNat scr env 0 y = some l) :
    (x.map e = none ∧ l = 0) ∨ ∃ k, x.map e = some (.int k (.ofNat l)) := by
  cases y with
  | none =>
    rw [opt_none hx]
    simp only [optNat, Option.some.injEq] at h
    exact .inl ⟨rfl, h.symm⟩
  | some y =>
    obtain ⟨x', rfl, hx'⟩ := opt_some hx
    obtain ⟨k, hk⟩ := bound_sound hev hx' h
    exact .inr ⟨k, by simp [hk]⟩

theorem hi_sound (hev : EvR σ ρ X ctx scr env e) {x : Option Operand} {y : Option AOpd} {ho : Option Nat} (hx : X.opt ctx x y = true)
    (h : (y = none ∧ ho = none) ∨ ∃ yh n, y = some yh ∧ optNat scr env 0 (some yh) = some n ∧ ho = some n) :
    (x.map e = none ∧ ho = none) ∨ ∃ k n, x.map e = some (.int k (.ofNat n)) ∧ ho = some n := by
  rcases h with ⟨rfl, rfl⟩ | ⟨yh, n, rfl, hn, rfl⟩
  · rw [opt_none hx]; exact .inl ⟨rfl, rfl⟩
  · obtain ⟨x', rfl, hx'⟩ := opt_some hx
    obtain ⟨k, hk⟩ := bound_sound hev hx' hn
    exact .inr ⟨k, n, by simp [hk], rfl⟩

theorem slS_sound (hty : TyOk P X.ty) (hev : EvR σ ρ X ctx scr env e) {t sz : Nat} {x : Operand} {y : AOpd} {l h m : Option Operand} {l' h' m' : Option AOpd} {v : AV}
    {r : Row} {el : Nat} {re : Row} (hr : X.ty t = some r) (htd : r.td = .sli el) (hre : X.ty el = some re) (hsz : re.size = sz)
    (hx : X.opd ctx x y = true) (hl : X.opt ctx l l' = true) (hh : X.opt ctx h h' = true) (hm : X.opt ctx m m' = true)
    (hv : fSlS sz y l' h' m' scr env = some v) : ∃ cv, VR σ ρ v cv ∧ ∀ w, (Instr.sliceAt t (e x) (l.map e) (h.map e) (m.map e)).run P w = .ok cv w := by
  obtain ⟨xv, lo, ho, mo, h1, h2, h3, h4, h5, h6⟩ := fSlS_inv hv
  have hxv := hev x y xv hx h1
  have hlo := lo_sound hev hl h2
  have hho := hi_sound hev hh h3
  have hmo := hi_sound hev hm h4
  obtain ⟨_, d, _, hd, htdd, _⟩ := row_spec (hty t r hr)
  rw [htd] at htdd
  have := td_sli htdd
  subst this
  obtain ⟨ie, _, hie, _, _, hsze, _⟩ := row_spec (hty el re hre)
  have hrun : ∀ (a : Option Addr) (len cap : Nat), e x = .slice a len cap → mo.getD cap ≤ cap → (ho.isSome → ho.getD len ≤ mo.getD cap) → lo ≤ ho.getD len → ∀ w,
      (Instr.sliceAt t (e x) (l.map e) (h.map e) (m.map e)).run P w =
        .ok (.slice (if mo.getD cap = lo then a else a.map (·.add (lo * sz))) (ho.getD len - lo) (mo.getD cap - lo)) w := by
    intro a len cap hex c1 c2 c3 w
    unfold Instr.sliceAt
    simp only [Sem.run_bind, run_und hd, Result.andThen_ok]
    unfold Instr.slice
    simp only [Sem.run_bind, run_und hd, Result.andThen_ok, hex, run_sliceBounds hlo hho hmo h5 c1 c2 c3, run_sizeOf' hie, Sem.run_pure, hsze, hsz]
  unfold sliceA at h6
  split at h6
  · -- nil
    simp only [VR] at hxv
    split at h6
    · rename_i hc
      simp only [Bool.and_eq_true, beq_iff_eq] at hc
      simp only [Option.some.injEq] at h6
      subst h6
      obtain ⟨⟨c1, c2⟩, c3⟩ := hc
      refine ⟨.slice none 0 0, by simp only [VR], fun w => ?_⟩
      rw [hrun none 0 0 hxv (by omega) (by omega) (by omega)]
      simp [c1, c2, c3]
    · cases h6
  · rename_i a o n c ex z
    simp only [VR] at hxv
    obtain ⟨L, k, hL, hex, hnc, hck, hexk, hbd⟩ := hxv
    split at h6
    · rename_i hz
      simp only [beq_iff_eq] at hz
      subst hz
      have mono : ∀ p q : Nat, p ≤ q → p * z ≤ q * z := fun p q hpq => Nat.mul_le_mul_right z hpq
      split at h6
      · rename_i mm
        split at h6
        · rename_i hc
          simp only [Bool.and_eq_true, decide_eq_true_eq] at hc
          obtain ⟨⟨c1, c2⟩, c3⟩ := hc
          have hw := hrun _ _ _ hex (by simpa using Nat.le_trans c1 hck) (by intro _; simpa using c2) c3
          simp only [Option.getD_some] at hw
          split at h6
          · rename_i hlm
            simp only [beq_iff_eq] at hlm
            simp only [Option.some.injEq] at h6
            subst h6
            refine ⟨.slice (some ⟨L.b, L.d + o, none⟩) 0 0, ?_, fun w => ?_⟩
            · simp only [VR]
              exact ⟨L, 0, hL, rfl, Nat.le_refl _, Nat.le_refl _, fun _ => rfl, by omega⟩
            · rw [hw]
              simp [hlm]
              omega
          · rename_i hlm
            simp only [beq_iff_eq] at hlm
            simp only [Option.some.injEq] at h6
            subst h6
            refine ⟨.slice (some ⟨L.b, L.d + (o + lo * z), none⟩) (ho.getD n - lo) (mm - lo), ?_, fun w => ?_⟩
            · simp only [VR]
              refine ⟨L, mm - lo, hL, rfl, by omega, Nat.le_refl _, fun _ => rfl, ?_⟩
              have := mono mm k (by omega)
              have h7 : (mm - lo) * z = mm * z - lo * z := Nat.sub_mul _ _ _
              have := mono lo mm (by omega)
              omega
            · rw [hw, if_neg (fun hh => hlm hh.symm)]
              simp [addr_add, Nat.add_assoc]
        · cases h6
      · split at h6
        · rename_i hc
          simp only [Bool.and_eq_true, decide_eq_true_eq] at hc
          obtain ⟨c1, c2⟩ := hc
          have hw := hrun _ _ _ hex (by simp) (by intro _; simp; omega) c2
          simp only [Option.getD_none] at hw
          split at h6
          · rename_i hlt
            simp only [Option.some.injEq] at h6
            subst h6
            refine ⟨.slice (some ⟨L.b, L.d + (o + lo * z), none⟩) (ho.getD n - lo) (k - lo), ?_, fun w => ?_⟩
            · simp only [VR]
              refine ⟨L, k - lo, hL, rfl, by omega, by omega, fun he => by rw [hexk he], ?_⟩
              have h7 : (k - lo) * z = k * z - lo * z := Nat.sub_mul _ _ _
              have := mono lo k (by omega)
              omega
            · rw [hw, if_neg (by omega)]
              simp [addr_add, Nat.add_assoc]
          · rename_i hge
            split at h6
            · rename_i hext
              simp only [Option.some.injEq] at h6
              subst h6
              have := hexk hext
              refine ⟨.slice (some ⟨L.b, L.d + o, none⟩) 0 0, ?_, fun w => ?_⟩
              · simp only [VR]
                exact ⟨L, 0, hL, rfl, Nat.le_refl _, Nat.le_refl _, fun _ => rfl, by omega⟩
              · rw [hw, if_pos (by omega)]
                have h8 : ho.getD n - lo = 0 := by omega
                have h9 : k - lo = 0 := by omega
                rw [h8, h9]
            · simp only [Option.some.injEq] at h6
              subst h6
              refine ⟨.slice (if k = lo then some ⟨L.b, L.d + o, none⟩ else some (Addr.add ⟨L.b, L.d + o, none⟩ (lo * z))) 0 (k - lo), ?_, fun w => ?_⟩
              · simp only [VR]
                split
                · exact ⟨_, _, rfl⟩
                · exact ⟨_, _, rfl⟩
              · rw [hw]
                have h8 : ho.getD n - lo = 0 := by omega
                rw [h8]
                simp
        · cases h6
    · cases h6
  · cases h6

theorem slT_sound (hty : TyOk P X.ty) (hev : EvR σ ρ X ctx scr env e) {t : Nat} {x : Operand} {y : AOpd} {l h : Option Operand} {l' h' : Option AOpd} {v : AV}
    (ht : X.tdIs t (fun d => decide (d = .str)) = true)
    (hx : X.opd ctx x y = true) (hl : X.opt ctx l l' = true) (hh : X.opt ctx h h' = true)
    (hv : fSlT y l' h' scr env = some v) : ∃ cv, VR σ ρ v cv ∧ ∀ w, (Instr.sliceAt t (e x) (l.map e) (h.map e) none).run P w = .ok cv w := by
  unfold fSlT at hv
  split at hv
  · rename_i s hs
    have hxv := hev x y _ hx hs
    simp only [VR] at hxv
    obtain ⟨hex, hsm⟩ := hxv
    split at hv
    · cases hv
    · rename_i lo hlo
      split at hv
      · cases hv
      · rename_i hi hhi
        split at hv
        · rename_i hc
          simp only [Bool.and_eq_true, decide_eq_true_eq] at hc
          simp only [Option.some.injEq] at hv
          subst hv
          obtain ⟨r, d, hr, hd, htd, hf⟩ := tdIs_spec hty ht
          simp only [decide_eq_true_eq] at hf
          rw [hf] at htd
          have := td_str htd
          subst this
          have h1 := lo_sound hev hl hlo
          have h2 : ∃ ho, ((h.map e = none ∧ ho = none) ∨ ∃ k n, h.map e = some (.int k (.ofNat n)) ∧ ho = some n) ∧ ho.getD s.length = hi := by
            cases h' with
            | none =>
              rw [opt_none hh]
              simp only [optNat, Option.some.injEq] at hhi
              exact ⟨none, .inl ⟨rfl, rfl⟩, by simpa using hhi⟩
            | some y' =>
              obtain ⟨x', rfl, hx'⟩ := opt_some hh
              obtain ⟨k, hk⟩ := bound_sound hev hx' (by rw [optNat_d (d' := s.length)]; exact hhi)
              exact ⟨some hi, .inr ⟨k, hi, by simp [hk], rfl⟩, rfl⟩
          obtain ⟨ho, h2, h3⟩ := h2
          refine ⟨.string (bytesOf ((s.take hi).drop lo)), ?_, fun w => ?_⟩
          · simp only [VR]
            exact ⟨trivial, small_sub hsm fun c hc => List.mem_of_mem_take (List.mem_of_mem_drop hc)⟩
          · unfold Instr.sliceAt
            simp only [Sem.run_bind, run_und hd, Result.andThen_ok]
            unfold Instr.slice
            simp only [Sem.run_bind, run_und hd, Result.andThen_ok, hex, Option.isSome_none, Bool.false_eq_true, if_false, Sem.run_pure]
            rw [run_sliceBounds (m := none) (h := ho) h1 h2 (.inl ⟨rfl, rfl⟩) (fun _ => rfl) (by simp) (by intro hs'; rw [bytesOf_size]; cases ho <;> simp_all) (by rw [bytesOf_size, h3]; exact hc.1)]
            simp only [Result.andThen_ok, bytesOf_size, h3, bytesOf_extract]
        · cases hv
  · cases hv
end
end Go.Ex
