/- The operations that touch no memory: the one theorem. -/
import Derived.Test.YteblalbifpkdcaaGreatDoorA2
import GoSem.Builtin.Max
namespace Go.Ex
section
variable {σ : Sig} {ρ : Rho} {X : Cx} {P : Program} {ctx : List (Option Nat)} {scr : List AV} {env : Tr AV} {e : Operand → Value}

theorem sizeIs_spec (hty : TyOk P X.ty) {t n : Nat} (h : X.sizeIs t n = true) : ∃ r, X.ty t = some r ∧ r.size = n ∧ ∃ i, P.info? t = some i ∧ i.size = n := by
  unfold Cx.sizeIs at h
  split at h
  · cases h
  · rename_i r hr
    simp only [Nat.beq_eq] at h
    obtain ⟨i, _, hi, _, _, hs, _⟩ := row_spec (hty t r hr)
    exact ⟨r, hr, h, i, hi, by omega⟩

theorem szOk_spec {t : Nat} {s : Sz} (h : X.szOk t s = true) : ∃ r, X.ty t = some r ∧ ((s = .one ∧ r.agg = false) ∨ ∃ n, s = .ag n ∧ r.agg = true ∧ n = r.size) := by
  unfold Cx.szOk at h
  split at h
  · cases h
  · rename_i r hr
    split at h
    · exact ⟨r, hr, .inl ⟨rfl, by simpa using h⟩⟩
    · simp only [Bool.and_eq_true, Nat.beq_eq] at h
      exact ⟨r, hr, .inr ⟨_, rfl, h.1, h.2⟩⟩

/-- a part of an aggregate -/
theorem part_sound (hty : TyOk P X.ty) {t off : Nat} {sz : Sz} {l : List AV} {l' : List Value} {v : AV} (hs : X.szOk t sz = true) (h : ofCells sz l off = some v)
    (hl : VRs σ ρ l l') : ∃ cv, VR σ ρ v cv ∧ ∀ w, (part t l'.toArray off).run P w = .ok cv w := by
  obtain ⟨r, hr, hz⟩ := szOk_spec hs
  obtain ⟨i, _, hi, _, _, hsz, _⟩ := row_spec (hty t r hr)
  rcases hz with ⟨rfl, ha⟩ | ⟨n, rfl, ha, rfl⟩
  · simp only [ofCells] at h
    obtain ⟨y, hy, hv⟩ := hl.nth h
    refine ⟨y, hv, fun w => ?_⟩
    unfold part
    simp only [Sem.run_bind, run_isAgg (hty t r hr), Result.andThen_ok, ha, Bool.false_eq_true, if_false]
    simp [hy]
  · simp only [ofCells, Option.map_eq_some_iff] at h
    obtain ⟨c, hc, rfl⟩ := h
    obtain ⟨h1, _⟩ := hl.cut hc
    refine ⟨.agg ((l'.drop off).take r.size).toArray, ?_, fun w => ?_⟩
    · simp only [VR]; exact ⟨_, h1, rfl⟩
    · unfold part
      simp only [Sem.run_bind, run_isAgg (hty t r hr), Result.andThen_ok, ha, if_true, run_sizeOf' hi, Sem.run_pure, hsz]
      congr 2
      simp [List.extract_toArray]

theorem zeroIs_spec (hty : TyOk P X.ty) {t : Nat} {z : AV} (h : X.zeroIs t z = true) : ∃ r i zv, X.ty t = some r ∧ P.info? t = some i ∧ i.zero = some zv ∧ VR σ ρ z zv := by
  unfold Cx.zeroIs at h
  split at h
  · cases h
  · rename_i r hr
    obtain ⟨i, _, hi, _, _, _, _, ⟨zv, hz, hc⟩, _⟩ := row_spec (hty t r hr)
    refine ⟨r, i, zv, hr, hi, hz, ?_⟩
    have := constOk_sound σ ρ _ _ hc
    rw [AV.beq_eq h] at this
    exact this

theorem zeroCs_spec (hty : TyOk P X.ty) {t : Nat} {cs : List AV} (h : X.zeroCs t cs = true) : ∃ r i zv, X.ty t = some r ∧ P.info? t = some i ∧ i.zero = some zv ∧ VRs σ ρ cs zv.cells.toList := by
  unfold Cx.zeroCs at h
  split at h
  · cases h
  · rename_i r hr
    split at h
    · rename_i l hl
      obtain ⟨i, _, hi, _, _, _, _, ⟨zv, hz, hc⟩, _⟩ := row_spec (hty t r hr)
      refine ⟨r, i, zv, hr, hi, hz, ?_⟩
      have := (constOk_sound σ ρ _ _ hc).cells hl
      rw [AV.beqs_eq h] at this
      exact this
    · cases h

/-- what was put over cells -/
def over (l : List Value) (o : Nat) (c : List Value) : List Value := l.take o ++ c ++ l.drop (o + c.length)

theorem put_sound : ∀ {l : List AV} {l' : List Value} {o : Nat} {c : List AV} {c' : List Value} {q : List AV}, VRs σ ρ l l' → VRs σ ρ c c' → put l o c = some q →
    VRs σ ρ q (over l' o c') ∧ o + c'.length ≤ l'.length
  | l, l', 0, [], c', q, hl, hc, h => by
    simp only [VRs] at hc
    subst hc
    have : q = l := by cases l <;> simpa [put] using h.symm
    subst this
    simp [over, hl]
  | [], l', 0, x :: c, c', q, hl, hc, h => by simp [put] at h
  | [], l', o + 1, c, c', q, hl, hc, h => by cases c <;> simp [put] at h
  | y :: l, l', 0, x :: c, c', q, hl, hc, h => by
    simp only [put, Option.map_eq_some_iff] at h
    obtain ⟨q', hq, rfl⟩ := h
    simp only [VRs] at hl hc
    obtain ⟨y', r, rfl, _, hl2⟩ := hl
    obtain ⟨x', s, rfl, hx, hc2⟩ := hc
    obtain ⟨h1, h2⟩ := put_sound hl2 hc2 hq
    refine ⟨?_, by simpa using h2⟩
    have : over (y' :: r) 0 (x' :: s) = x' :: over r 0 s := by simp [over]
    rw [this]
    exact VRs.cons hx h1
  | y :: l, l', o + 1, c, c', q, hl, hc, h => by
    have h' : (put l o c).map (y :: ·) = some q := by cases c <;> simpa [put] using h
    simp only [Option.map_eq_some_iff] at h'
    obtain ⟨q', hq, rfl⟩ := h'
    simp only [VRs] at hl
    obtain ⟨y', r, rfl, hy, hl2⟩ := hl
    obtain ⟨h1, h2⟩ := put_sound hl2 hc hq
    refine ⟨?_, by simp; omega⟩
    have : over (y' :: r) (o + 1) c' = y' :: over r o c' := by simp [over, Nat.add_right_comm]
    rw [this]
    exact VRs.cons hy h1

theorem foldl_over : ∀ (c : List Value) (n o : Nat) (a : List Value), o + n + c.length ≤ a.length →
    ((c.zipIdx n).foldl (fun (cs : Array Value) (p : Value × Nat) => cs.setIfInBounds (o + p.2) p.1) a.toArray) = (over a (o + n) c).toArray
  | [], n, o, a, _ => by simp [over]
  | x :: c, n, o, a, h => by
    simp only [List.zipIdx_cons, List.foldl_cons, List.length_cons] at h ⊢
    have hs : a.toArray.setIfInBounds (o + n) x = (a.set (o + n) x).toArray := by simp
    rw [hs, foldl_over c (n + 1) o (a.set (o + n) x) (by simp; omega)]
    congr 1
    unfold over
    simp only [List.length_cons]
    have h1 : (a.set (o + n) x).take (o + (n + 1)) = a.take (o + n) ++ [x] := by
      rw [show o + (n + 1) = o + n + 1 from by omega, List.take_succ_eq_append_getElem (by simp; omega)]
      simp [List.take_set_of_le]
    have h2 : (a.set (o + n) x).drop (o + (n + 1) + c.length) = a.drop (o + n + (c.length + 1)) := by
      rw [show o + (n + 1) + c.length = o + n + (c.length + 1) from by omega]
      apply List.drop_set_of_lt
      omega
    rw [h1, h2]
    simp

theorem fill_sound (place : Nat → Option (Nat × Nat)) : ∀ {ps : List (Nat × Nat × AV)} {cps : List (Nat × Value)} {l : List AV} {l' : List Value} {q : List AV},
    (F2 (fun p c => place c.1 = some (p.1, p.2.1) ∧ VR σ ρ p.2.2 c.2) ps cps) → VRs σ ρ l l' → fillA l ps = some q →
    ∃ q', Instr.fill place l'.toArray cps = some q'.toArray ∧ VRs σ ρ q q'
  | [], cps, l, l', q, hp, hl, h => by
    cases hp
    simp only [fillA, Option.some.injEq] at h
    subst h
    exact ⟨l', by simp [Instr.fill], hl⟩
  | (o, n, v) :: ps, cps, l, l', q, hp, hl, h => by
    cases hp with
    | cons h1 h2 =>
      rename_i c cps
      obtain ⟨ci, cv⟩ := c
      obtain ⟨hpl, hv⟩ := h1
      simp only at hpl hv
      simp only [fillA] at h
      split at h
      · cases h
      · rename_i cs hcs
        split at h
        · rename_i hlen
          split at h
          · cases h
          · rename_i l2 hl2
            have hc := hv.cells hcs
            obtain ⟨a1, a2⟩ := put_sound hl hc hl2
            obtain ⟨q', b1, b2⟩ := fill_sound place h2 a1 h
            refine ⟨q', ?_, b2⟩
            simp only [beq_iff_eq] at hlen
            have hsz : cv.cells.size = n := by
              have := hc.length
              simp at this
              omega
            simp only [Instr.fill, hpl]
            have hle : ¬ (decide (cv.cells.size ≠ n) || decide (o + cv.cells.size > l'.toArray.size)) = true := by
              simp at a2 ⊢
              omega
            simp only [hsz, ne_eq, not_true_eq_false, decide_false, Bool.false_or, decide_eq_true_eq, gt_iff_lt] at hle ⊢
            rw [if_neg (by simpa [hsz] using a2)]
            have := foldl_over cv.cells.toList 0 o l' (by simpa using a2)
            simp only [Nat.add_zero] at this
            rw [← b1]
            congr 1
            rw [← this, ← Array.toList_zipIdx, Array.foldl_toList]
        · cases h

theorem parts_sound (hev : EvR σ ρ X ctx scr env e) {place : Nat → Option (Nat × Nat)} : ∀ {ps : List (Nat × Operand)} {ps' : List (Nat × Nat × AOpd)} {vs : List (Nat × Nat × AV)},
    X.parts ctx place ps ps' = true → partsA scr env ps' = some vs →
    F2 (fun (p : Nat × Nat × AV) (c : Nat × Value) => place c.1 = some (p.1, p.2.1) ∧ VR σ ρ p.2.2 c.2) vs (ps.map fun p => (p.1, e p.2))
  | [], ps', vs, h, hv => by
    cases ps' with
    | nil => simp only [partsA, Option.some.injEq] at hv; subst hv; exact .nil
    | cons p ps' => simp [Cx.parts] at h
  | (i, x) :: ps, ps', vs, h, hv => by
    cases ps' with
    | nil => simp [Cx.parts] at h
    | cons p ps' =>
      obtain ⟨o, n, y⟩ := p
      simp only [Cx.parts, Bool.and_eq_true] at h
      obtain ⟨⟨h1, h2⟩, h3⟩ := h
      simp only [partsA] at hv
      split at hv
      · cases hv
      · rename_i v hvv
        split at hv
        · cases hv
        · rename_i vs' hvs
          simp only [Option.some.injEq] at hv
          subst hv
          refine .cons ⟨?_, hev x y v h2 hvv⟩ (parts_sound hev h3 hvs)
          split at h1
          · rename_i o' n' hpl
            simp only [Bool.and_eq_true, Nat.beq_eq] at h1
            rw [hpl, h1.1, h1.2]
          · cases h1
end
end Go.Ex
/- The operations that touch no memory: the one theorem. -/
namespace Go.Ex
section
variable {σ : Sig} {ρ : Rho} {X : Cx} {P : Program} {ctx : List (Option Nat)} {scr : List AV} {env : Tr AV} {e : Operand → Value}

/-- the operation's value, whatever the world -/
def Val (σ : Sig) (ρ : Rho) (P : Program) (v : AV) (s : Sem Next) : Prop := ∃ cv, VR σ ρ v cv ∧ ∀ w, s.run P w = .ok (.value cv) w

theorem Val.of {v : AV} {s : Sem Value} (h : ∃ cv, VR σ ρ v cv ∧ ∀ w, s.run P w = .ok cv w) : Val σ ρ P v (do pure (.value (← s))) := by
  obtain ⟨cv, h1, h2⟩ := h
  exact ⟨cv, h1, fun w => by rw [Sem.run_bind, h2]; rfl⟩

theorem ix_sound {k : IntKind} {n : Nat} {cv : Value} (h : VR σ ρ (.i k (.ofNat n)) cv) : cv = .int k (n : Int) := by
  simp only [VR] at h; exact h

theorem un_sound {op : UnOp} {x v : AV} {cx : Value} (h : unA op x = some v) (hx : VR σ ρ x cx) : ∃ cv, VR σ ρ v cv ∧ ∀ w, (Op.unary op cx).run P w = .ok cv w := by
  unfold unA at h
  split at h
  · simp only [VR] at hx
    subst hx
    simp only [Option.some.injEq] at h
    subst h
    exact ⟨_, by simp only [VR]; rfl, fun w => by simp [Op.unary]⟩
  · simp only [VR] at hx
    subst hx
    simp only [Option.some.injEq] at h
    subst h
    rename_i k n
    refine ⟨.int k (k.wrap (0 - n)), by simp only [VR, wrapA_eq], fun w => ?_⟩
    simp only [Op.unary, Op.intArith, Sem.run_pure]
  · rename_i k n
    simp only [VR] at hx
    subst hx
    split at h
    · cases h
    · rename_i hs
      simp only [Bool.not_eq_true] at hs
      simp only [intBin] at h
      obtain ⟨x, y, hx, rfl, hx', hy', rfl⟩ := natBits_eq h
      refine ⟨.int k (k.wrap (.ofNat (x ^^^ y))), by simp only [VR], fun w => ?_⟩
      simp only [Op.unary, hs, Bool.false_eq_true, if_false, hx, Op.intBits, Sem.run_pure]
      rw [BitVec.toNat_xor, bv_of hx', bv_of hy']; rfl
  · cases h

theorem min_sound : ∀ {l : List AV} {k : IntKind} {a : Int} {v : AV} {l' : List Value}, minI k a l = some v → VRs σ ρ l l' →
    ∃ cv, VR σ ρ v cv ∧ ∀ w, (l'.foldlM Builtin.min2 (.int k a)).run P w = .ok cv w
  | [], k, a, v, l', h, hl => by
    simp only [VRs] at hl
    subst hl
    simp only [minI, Option.some.injEq] at h
    subst h
    exact ⟨.int k a, by simp only [VR], fun w => by simp⟩
  | x :: l, k, a, v, l', h, hl => by
    simp only [VRs] at hl
    obtain ⟨y, r, rfl, hx, hr⟩ := hl
    cases x <;> simp only [minI, reduceCtorEq] at h
    simp only [VR] at hx
    subst hx
    obtain ⟨cv, h1, h2⟩ := min_sound h hr
    exact ⟨cv, h1, fun w => by simp only [List.foldlM_cons, Builtin.min2, Sem.run_bind, Sem.run_pure, Result.andThen_ok]; exact h2 w⟩

theorem max_sound : ∀ {l : List AV} {k : IntKind} {a : Int} {v : AV} {l' : List Value}, maxI k a l = some v → VRs σ ρ l l' →
    ∃ cv, VR σ ρ v cv ∧ ∀ w, (l'.foldlM Builtin.max2 (.int k a)).run P w = .ok cv w
  | [], k, a, v, l', h, hl => by
    simp only [VRs] at hl
    subst hl
    simp only [maxI, Option.some.injEq] at h
    subst h
    exact ⟨.int k a, by simp only [VR], fun w => by simp⟩
  | x :: l, k, a, v, l', h, hl => by
    simp only [VRs] at hl
    obtain ⟨y, r, rfl, hx, hr⟩ := hl
    cases x <;> simp only [maxI, reduceCtorEq] at h
    simp only [VR] at hx
    subst hx
    obtain ⟨cv, h1, h2⟩ := max_sound h hr
    exact ⟨cv, h1, fun w => by simp only [List.foldlM_cons, Builtin.max2, Sem.run_bind, Sem.run_pure, Result.andThen_ok]; exact h2 w⟩

theorem st_sound (hty : TyOk P X.ty) {s : Nat} {f : List (Nat × Nat × Bool) → Bool} (h : (match X.ty s with
      | none => false
      | some r => match r.td with
        | .st fs => f fs
        | _ => false) = true) : ∃ (r : Row) (fs : List (Nat × Nat × Bool)) (a : Array Field), X.ty s = some r ∧ r.td = .st fs ∧ P.underlying s = some (.struct a) ∧ a.toList.map (fun f => (f.offset, f.type, f.name == "_")) = fs ∧ f fs = true := by
  split at h
  · cases h
  · rename_i r hr
    split at h
    · rename_i fs hfs
      obtain ⟨_, d, _, hd, htd, _⟩ := row_spec (hty s r hr)
      rw [hfs] at htd
      obtain ⟨a, rfl, ha⟩ := td_st htd
      exact ⟨r, fs, a, hr, hfs, hd, ha, h⟩
    · cases h

theorem sli_sound (hty : TyOk P X.ty) {s : Nat} {f : Nat → Bool} (h : (match X.ty s with
      | none => false
      | some r => match r.td with
        | .sli e => f e
        | _ => false) = true) : ∃ r el, X.ty s = some r ∧ r.td = .sli el ∧ P.underlying s = some (.slice el) ∧ f el = true := by
  split at h
  · cases h
  · rename_i r hr
    split at h
    · rename_i el he
      obtain ⟨_, d, _, hd, htd, _⟩ := row_spec (hty s r hr)
      rw [he] at htd
      have := td_sli htd
      subst this
      exact ⟨r, el, hr, he, hd, h⟩
    · cases h

theorem arr_sound (hty : TyOk P X.ty) {s : Nat} {f : Nat → Nat → Bool} (h : (match X.ty s with
      | none => false
      | some r => match r.td with
        | .arr m e => f m e
        | _ => false) = true) : ∃ r m el, X.ty s = some r ∧ r.td = .arr m el ∧ P.underlying s = some (.array m el) ∧ f m el = true := by
  split at h
  · cases h
  · rename_i r hr
    split at h
    · rename_i m el he
      obtain ⟨_, d, _, hd, htd, _⟩ := row_spec (hty s r hr)
      rw [he] at htd
      have := td_arr htd
      subst this
      exact ⟨r, m, el, hr, he, hd, h⟩
    · cases h

theorem str_sound (hty : TyOk P X.ty) {t : Nat} (h : X.tdIs t (fun d => decide (d = .str)) = true) : P.underlying t = some .string := by
  obtain ⟨r, d, _, hd, htd, hf⟩ := tdIs_spec hty h
  simp only [decide_eq_true_eq] at hf
  rw [hf] at htd
  have := td_str htd
  subst this
  exact hd

theorem fieldRows_spec : ∀ {fs : List (Nat × Nat × Bool)}, X.fieldRows fs = true → ∀ o t b, (o, t, b) ∈ fs → ∃ r, X.ty t = some r
  | [], _, o, t, b, h => by cases h
  | (o', t', b') :: fs, hf, o, t, b, h => by
    simp only [Cx.fieldRows, Bool.and_eq_true] at hf
    cases h with
    | head =>
      have := hf.1
      split at this
      · exact ⟨_, by assumption⟩
      · cases this
    | tail _ h => exact fieldRows_spec hf.2 o t b h

theorem run_places (hty : TyOk P X.ty) : ∀ (a : List Field), X.fieldRows (a.map fun f => (f.offset, f.type, f.name == "_")) = true →
    ∃ ps : List (Nat × Nat), (∀ w, (a.mapM (fun f => do pure (f.offset, ← sizeOf f.type) : Field → Sem (Nat × Nat))).run P w = .ok ps w) ∧
      ∀ i, ps[i]? = X.fieldPlace (a.map fun f => (f.offset, f.type, f.name == "_")) i
  | [], _ => ⟨[], fun w => by simp, fun i => by simp [Cx.fieldPlace, nth]⟩
  | f :: a, h => by
    simp only [List.map_cons, Cx.fieldRows, Bool.and_eq_true] at h
    obtain ⟨r, hr⟩ : ∃ r, X.ty f.type = some r := by
      have := h.1
      split at this
      · exact ⟨_, by assumption⟩
      · cases this
    obtain ⟨i0, _, hi0, _, _, hs, _⟩ := row_spec (hty _ r hr)
    obtain ⟨ps, h1, h2⟩ := run_places hty a h.2
    refine ⟨(f.offset, r.size) :: ps, fun w => ?_, fun i => ?_⟩
    · simp only [List.mapM_cons, Sem.run_bind, run_sizeOf' hi0, Result.andThen_ok, Sem.run_pure, h1, hs]
    · cases i with
      | zero => simp [Cx.fieldPlace, nth, hr]
      | succ i => simpa [Cx.fieldPlace, nth] using h2 i

theorem pk_sound (hty : TyOk P X.ty) (hev : EvR σ ρ X ctx scr env e) {o : Oper} {k : PK} {v : AV} (hk : X.pk P ctx o.op k = true) (h : pureOp k scr env = some v) :
    Val σ ρ P v (execOp e o) := by
  obtain ⟨dst, op, type, pos, after, guard⟩ := o
  simp only at hk
  unfold Cx.pk at hk
  split at hk
  -- move
  · rename_i x y
    exact ⟨_, hev x y v hk h, fun w => by simp [execOp]⟩
  -- assign
  · rename_i x y
    exact ⟨_, hev x y v hk h, fun w => by simp [execOp]⟩
  -- pick
  · rename_i c a b c' a' b'
    simp only [Bool.and_eq_true] at hk
    obtain ⟨⟨h1, h2⟩, h3⟩ := hk
    simp only [pureOp, fPick] at h
    split at h
    · rename_i hc
      have := hev c c' _ h1 hc
      simp only [VR] at this
      exact ⟨_, hev a a' v h2 h, fun w => by simp [execOp, this, asBool]⟩
    · rename_i hc
      have := hev c c' _ h1 hc
      simp only [VR] at this
      exact ⟨_, hev b b' v h3 h, fun w => by simp [execOp, this, asBool]⟩
    · cases h
  -- build
  · rename_i t ps z ps'
    simp only [Bool.and_eq_true] at hk
    obtain ⟨hz, hk⟩ := hk
    obtain ⟨r, i, zv, hr, hi, hiz, hzv⟩ := zeroCs_spec (σ := σ) (ρ := ρ) hty hz
    simp only [pureOp, fBuild] at h
    split at h
    · cases h
    · rename_i vs hvs
      split at h
      · cases h
      · rename_i c hc
        simp only [Option.some.injEq] at h
        subst h
        rw [hr] at hk
        simp only at hk
        split at hk
        · rename_i fs hfs
          simp only [Bool.and_eq_true] at hk
          obtain ⟨hrows, hk⟩ := hk
          obtain ⟨_, d, _, hd, htd, _⟩ := row_spec (hty t r hr)
          rw [hfs] at htd
          obtain ⟨a, rfl, ha⟩ := td_st htd
          rw [← ha] at hrows hk
          obtain ⟨places, hp1, hp2⟩ := run_places hty a.toList hrows
          obtain ⟨q', hq1, hq2⟩ := fill_sound _ (parts_sound hev hk hvs) hzv hc
          have hq1' : Instr.fill (X.fieldPlace (a.toList.map fun f => (f.offset, f.type, f.name == "_"))) zv.cells (ps.toList.map fun p => (p.1, e p.2)) = some q'.toArray := by
            simpa using hq1
          refine ⟨.agg q'.toArray, by simp only [VR]; exact ⟨q', hq2, rfl⟩, fun w => ?_⟩
          simp only [execOp, Instr.build, Sem.run_bind, run_zeroValue' hi hiz, run_und hd, Result.andThen_ok]
          rw [Array.mapM_eq_mapM_toList, Sem.run_map, hp1]
          simp only [Result.andThen_ok, Array.toList_map]
          have hpl : (fun (x : Nat) => (places.toArray)[x]?) = X.fieldPlace (a.toList.map fun f => (f.offset, f.type, f.name == "_")) := by
            funext i
            rw [← hp2 i]; simp
          rw [hpl, hq1']
          rfl
        · rename_i n el he
          split at hk
          · cases hk
          · rename_i re hre
            obtain ⟨_, d, _, hd, htd, _⟩ := row_spec (hty t r hr)
            rw [he] at htd
            have := td_arr htd
            subst this
            obtain ⟨ie, _, hie, _, _, hse, _⟩ := row_spec (hty el re hre)
            obtain ⟨q', hq1, hq2⟩ := fill_sound _ (parts_sound hev hk hvs) hzv hc
            refine ⟨.agg q'.toArray, by simp only [VR]; exact ⟨q', hq2, rfl⟩, fun w => ?_⟩
            simp only [execOp, Instr.build, Sem.run_bind, run_zeroValue' hi hiz, run_und hd, Result.andThen_ok, run_sizeOf' hie, hse]
            have hq1' : Instr.fill (fun i => some (i * re.size, re.size)) zv.cells (ps.toList.map fun p => (p.1, e p.2)) = some q'.toArray := by simpa using hq1
            simp only [Array.toList_map]
            rw [hq1']
            rfl
        · cases hk
  -- nilCheck
  · rename_i x y
    simp only [pureOp, fNc] at h
    split at h <;> first
      | (rename_i hx
         simp only [Option.some.injEq] at h
         subst h
         have := hev x y _ hk hx
         refine ⟨_, this, fun w => ?_⟩
         simp only [VR] at this
         first
           | (obtain ⟨L, _, hh⟩ := this; simp [execOp, hh])
           | (obtain ⟨_, _, _, _, hh⟩ := this; simp [execOp, hh])
           | (obtain ⟨_, _, hh⟩ := this; simp [execOp, hh]))
      | cases h
  -- binOp
  · rename_i op t x y yt op' c x' y'
    simp only [Bool.and_eq_true, decide_eq_true_eq] at hk
    obtain ⟨⟨⟨rfl, h1⟩, h2⟩, h3⟩ := hk
    simp only [pureOp, fBin] at h
    split at h
    · cases h
    · rename_i a ha
      split at h
      · cases h
      · rename_i b hb
        exact Val.of (binA_sound hty h1 h (hev x x' a h2 ha) (hev y y' b h3 hb) x y)
  -- unOp
  · rename_i op _ x op' x'
    simp only [Bool.and_eq_true, decide_eq_true_eq] at hk
    obtain ⟨rfl, h2⟩ := hk
    simp only [pureOp, fUn] at h
    split at h
    · cases h
    · rename_i a ha
      exact Val.of (un_sound h (hev x x' a h2 ha))
  -- convert, integers
  · rename_i s t x k y
    simp only [Bool.and_eq_true] at hk
    obtain ⟨⟨h1, h2⟩, h3⟩ := hk
    simp only [pureOp, fCvI] at h
    split at h
    · rename_i k0 n hx
      simp only [Option.some.injEq] at h
      subst h
      have := hev x y _ h3 hx
      simp only [VR] at this
      obtain ⟨_, d1, _, hd1, ht1, hf1⟩ := tdIs_spec hty h1
      obtain ⟨_, d2, _, hd2, ht2, hf2⟩ := tdIs_spec hty h2
      simp only [decide_eq_true_eq] at hf2
      rw [hf2] at ht2
      have := td_int ht2
      subst this
      refine ⟨.int k (k.wrap n), by simp only [VR, wrapA_eq], fun w => ?_⟩
      simp only [execOp, convert, Sem.run_bind, run_und hd1, run_und hd2, Result.andThen_ok, *, Conv.intToInt, Sem.run_pure]
    · cases h
  -- convert, strings
  · rename_i s t x y
    simp only [Bool.and_eq_true] at hk
    obtain ⟨⟨⟨h1, h2⟩, h3⟩, h4⟩ := hk
    split at h4
    · rename_i l
      simp only [pureOp, fMv, opd, Option.some.injEq] at h
      subst h
      have := hev x (.k (.s l)) (.s l) h3 rfl
      refine ⟨_, this, fun w => ?_⟩
      simp only [VR] at this
      simp only [execOp, convert, Sem.run_bind, run_und (str_sound hty h1), run_und (str_sound hty h2), Result.andThen_ok, this.1, Sem.run_pure]
    · cases h4
  -- makeInterface
  · rename_i t x t' y
    simp only [Bool.and_eq_true, Nat.beq_eq] at hk
    obtain ⟨⟨rfl, h2⟩, h3⟩ := hk
    simp only [pureOp, fMkI] at h
    split at h
    · cases h
    · rename_i a ha
      simp only [Option.some.injEq] at h
      subst h
      obtain ⟨_, d, _, hd, ht, hf⟩ := tdIs_spec hty h2
      refine ⟨.iface t (e x), by simp only [VR]; exact ⟨_, hev x y a h3 ha, rfl⟩, fun w => ?_⟩
      simp only [execOp, Instr.makeInterface, Sem.run_bind, run_und hd, Result.andThen_ok]
      cases d <;> simp [tdOf] at ht ⊢
      rw [← ht] at hf
      simp at hf
  -- makeFunc
  · rename_i f a c g a' c'
    simp only [Bool.and_eq_true, Nat.beq_eq] at hk
    obtain ⟨⟨h1, h2⟩, h3⟩ := hk
    simp only [pureOp, fMkF] at h
    split at h
    · cases h
    · rename_i va hva
      split at h
      · cases h
      · rename_i vc hvc
        simp only [Option.some.injEq] at h
        subst h
        refine ⟨.func (.func f) (a.map e) (c.map e), ?_, fun w => by simp [execOp, Instr.makeFunc]⟩
        simp only [VR]
        exact ⟨_, _, hev.list _ _ _ h2 hva, hev.list _ _ _ h3 hvc, by rw [h1]; simp [← Array.toList_map]⟩
  -- slice of a slice
  · rename_i t x l h' m sz y l' h'' m'
    simp only [Bool.and_eq_true] at hk
    obtain ⟨⟨⟨⟨h1, h2⟩, h3⟩, h4⟩, h5⟩ := hk
    obtain ⟨r, el, hr, htd, _, hs⟩ := sli_sound hty h1
    obtain ⟨re, hre, hsz, _⟩ := sizeIs_spec hty hs
    exact Val.of (slS_sound hty hev hr htd hre hsz h2 h3 h4 h5 h)
  -- slice of a string
  · rename_i t x l h' y l' h''
    simp only [Bool.and_eq_true] at hk
    obtain ⟨⟨⟨h1, h2⟩, h3⟩, h4⟩ := hk
    exact Val.of (slT_sound hty hev h1 h2 h3 h4 h)
  -- fieldAddr
  · rename_i s x i off y
    simp only [Bool.and_eq_true] at hk
    obtain ⟨h1, h2⟩ := hk
    obtain ⟨r, fs, a, hr, htd, hd, hfs, hf⟩ := st_sound hty h1
    split at hf
    · rename_i o t b hn
      simp only [Bool.and_eq_true, Nat.beq_eq] at hf
      obtain ⟨f, hf1, hf2, hf3, _⟩ := field_of hfs hn
      have hsz := hf.2
      split at hsz
      · rename_i rt hrt
        simp only [Nat.blt_eq] at hsz
        obtain ⟨it, _, hit, _, _, hst, _⟩ := row_spec (hty t rt hrt)
        simp only [pureOp, fFa] at h
        split at h
        · rename_i b' o' hx
          simp only [Option.some.injEq] at h
          subst h
          have := hev x y _ h2 hx
          simp only [VR] at this
          obtain ⟨L, hL, hex⟩ := this
          refine ⟨.pointer (some ⟨L.b, L.d + (o' + off), none⟩), by simp only [VR]; exact ⟨L, hL, rfl⟩, fun w => ?_⟩
          have hne : ¬ it.size = 0 := by omega
          subst hf3
          simp only [execOp, Instr.fieldAt, Sem.run_bind, run_und hd, Result.andThen_ok, hf1, Instr.sureAddr, hex, Sem.run_pure, fieldPlace, run_sizeOf' hit, hne, if_false, hf2, hf.1, addr_add,
            Nat.add_assoc]
        · cases h
      · cases hsz
    · cases hf
  -- field
  · rename_i s x i off sz y
    simp only [Bool.and_eq_true] at hk
    obtain ⟨h1, h2⟩ := hk
    obtain ⟨r, fs, a, hr, htd, hd, hfs, hf⟩ := st_sound hty h1
    split at hf
    · rename_i o t b hn
      simp only [Bool.and_eq_true, Nat.beq_eq] at hf
      obtain ⟨f, hf1, hf2, hf3, _⟩ := field_of hfs hn
      simp only [pureOp, fFld] at h
      split at h
      · rename_i l hx
        have := hev x y _ h2 hx
        simp only [VR] at this
        obtain ⟨l', hl, hex⟩ := this
        obtain ⟨cv, hcv, hrun⟩ := part_sound hty hf.2 h hl
        refine Val.of ⟨cv, hcv, fun w => ?_⟩
        subst hf3
        simp only [Instr.field, Sem.run_bind, run_und hd, Result.andThen_ok, hf1, hex, asAgg, Sem.run_pure, hf2, hf.1, hrun]
      · cases h
    · cases hf
  -- indexAddr of a slice
  · rename_i t x i sz y j
    simp only [Bool.and_eq_true] at hk
    obtain ⟨⟨h1, h2⟩, h3⟩ := hk
    obtain ⟨r, el, hr, htd, hd, hs⟩ := sli_sound hty h1
    obtain ⟨re, hre, hsz, ie, hie, hies⟩ := sizeIs_spec hty hs
    simp only [pureOp, fIaS] at h
    split at h
    · rename_i ki n hi
      have hin := ix_sound (hev i j _ h3 hi)
      split at h
      · rename_i a o m c ex z hx
        have := hev x y _ h2 hx
        simp only [VR] at this
        obtain ⟨L, k, hL, hex, _⟩ := this
        split at h
        · rename_i hlt
          simp only [Option.some.injEq] at h
          subst h
          refine ⟨.pointer (some ⟨L.b, L.d + (o + n * sz), none⟩), by simp only [VR]; exact ⟨L, hL, rfl⟩, fun w => ?_⟩
          have hc : (0 : Int) ≤ (n : Int) ∧ (n : Int) < (m : Int) := ⟨by omega, by omega⟩
          simp only [execOp, Instr.indexAt, Sem.run_bind, hin, asIntOf, Sem.run_pure, Result.andThen_ok, run_und hd, hex, hc, and_self, if_true, run_sizeOf' hie, hies, Int.toNat_natCast, addr_add, Nat.add_assoc]
        · cases h
      · cases h
    · cases h
  -- indexAddr of an array
  · rename_i t x i sz len y j
    simp only [Bool.and_eq_true] at hk
    obtain ⟨⟨h1, h2⟩, h3⟩ := hk
    obtain ⟨r, m, el, hr, htd, hd, hs⟩ := arr_sound hty h1
    simp only [Bool.and_eq_true, Nat.beq_eq] at hs
    obtain ⟨hm, hs⟩ := hs
    subst hm
    obtain ⟨re, hre, hsz, ie, hie, hies⟩ := sizeIs_spec hty hs
    simp only [pureOp, fIaA] at h
    split at h
    · rename_i ki n hi
      have hin := ix_sound (hev i j _ h3 hi)
      split at h
      · rename_i a o hx
        have := hev x y _ h2 hx
        simp only [VR] at this
        obtain ⟨L, hL, hex⟩ := this
        split at h
        · rename_i hlt
          simp only [Option.some.injEq] at h
          subst h
          refine ⟨.pointer (some ⟨L.b, L.d + (o + n * sz), none⟩), by simp only [VR]; exact ⟨L, hL, rfl⟩, fun w => ?_⟩
          have hc : (0 : Int) ≤ (n : Int) ∧ (n : Int) < (m : Int) := ⟨by omega, by omega⟩
          simp only [execOp, Instr.indexAt, Sem.run_bind, hin, asIntOf, Sem.run_pure, Result.andThen_ok, run_und hd, hex, Instr.sureAddr, hc, and_self, if_true, run_sizeOf' hie, hies, Int.toNat_natCast, addr_add, Nat.add_assoc]
        · cases h
      · cases h
    · cases h
  -- index of an array
  · rename_i t x i sz len y j
    simp only [Bool.and_eq_true] at hk
    obtain ⟨⟨h1, h2⟩, h3⟩ := hk
    obtain ⟨r, m, el, hr, htd, hd, hs⟩ := arr_sound hty h1
    simp only [Bool.and_eq_true, Nat.beq_eq] at hs
    obtain ⟨⟨hm, hs⟩, hs'⟩ := hs
    subst hm
    obtain ⟨re, hre, hsz, ie, hie, hies⟩ := sizeIs_spec hty hs'
    simp only [pureOp, fIxA] at h
    split at h
    · rename_i ki n hi
      have hin := ix_sound (hev i j _ h3 hi)
      split at h
      · rename_i l hx
        have := hev x y _ h2 hx
        simp only [VR] at this
        obtain ⟨l', hl, hex⟩ := this
        split at h
        · rename_i hlt
          obtain ⟨cv, hcv, hrun⟩ := part_sound hty hs h hl
          refine Val.of ⟨cv, hcv, fun w => ?_⟩
          have hc : (0 : Int) ≤ (n : Int) ∧ (n : Int) < (m : Int) := ⟨by omega, by omega⟩
          simp only [Instr.index, Sem.run_bind, hin, asIntOf, Sem.run_pure, Result.andThen_ok, run_und hd, hex, hc, and_self, if_true, run_sizeOf' hie, hies, Int.toNat_natCast]
          exact hrun w
        · cases h
      · cases h
    · cases h
  -- index of a string
  · rename_i t x i y j
    simp only [Bool.and_eq_true] at hk
    obtain ⟨⟨h1, h2⟩, h3⟩ := hk
    simp only [pureOp, fIxT] at h
    split at h
    · rename_i ki n hi
      have hin := ix_sound (hev i j _ h3 hi)
      split at h
      · rename_i l hx
        have := hev x y _ h2 hx
        simp only [VR] at this
        obtain ⟨hex, hsm⟩ := this
        split at h
        · rename_i c hc
          simp only [Option.some.injEq] at h
          subst h
          rw [nth_eq] at hc
          have hlt : n < l.length := by
            rcases Nat.lt_or_ge n l.length with h' | h'
            · exact h'
            · rw [List.getElem?_eq_none h'] at hc; cases hc
          have hcl : l[n] = c := by rw [List.getElem?_eq_getElem hlt] at hc; simpa using hc
          have hc256 : c < 256 := small_mem hsm c (by rw [← hcl]; exact List.getElem_mem hlt)
          refine ⟨.int .u8 c, by simp only [VR]; rfl, fun w => ?_⟩
          have hb : (bytesOf l)[n]? = some (UInt8.ofNat c) := by
            have hlt' : n < (bytesOf l).size := by rw [bytesOf_size]; exact hlt
            rw [getElem?_pos (bytesOf l) n hlt']
            congr 1
            simp only [bytesOf, ByteArray.getElem_eq_getElem_data, List.getElem_toArray, List.getElem_map, hcl]
          have h0 : (0 : Int) ≤ (n : Int) := by omega
          simp only [execOp, Instr.index, Sem.run_bind, hin, asIntOf, Sem.run_pure, Result.andThen_ok, run_und (str_sound hty h1), hex, h0, if_true, Int.toNat_natCast, hb]
          have : (UInt8.ofNat c).toNat = c := by simp; omega
          rw [this]
        · cases h
      · cases h
    · cases h
  -- typeAssert
  · rename_i x xt t ok t' z ok' y
    simp only [Bool.and_eq_true, Nat.beq_eq, decide_eq_true_eq] at hk
    obtain ⟨⟨⟨⟨rfl, rfl⟩, h2⟩, h3⟩, h4⟩ := hk
    obtain ⟨rz, iz, zv, _, hiz, hizz, hzv⟩ := zeroIs_spec (σ := σ) (ρ := ρ) hty h2
    obtain ⟨_, d, _, hd, ht, hf⟩ := tdIs_spec hty h3
    have hnot : ∀ ms, d ≠ .interface ms := by
      intro ms hh
      subst hh
      simp only [tdOf] at ht
      rw [← ht] at hf
      simp at hf
    simp only [pureOp, fTa] at h
    split at h
    · rename_i u v' hx
      have := hev x y _ h4 hx
      simp only [VR] at this
      obtain ⟨x', hx', hex⟩ := this
      split at h
      · rename_i hu
        simp only [beq_iff_eq] at hu
        simp only [Option.some.injEq] at h
        subst hu
        cases ok
        · simp only [Bool.false_eq_true, if_false] at h
          subst h
          refine ⟨x', hx', fun w => ?_⟩
          simp only [execOp, Instr.typeAssert, Sem.run_bind, run_und hd, Result.andThen_ok, hex]
          cases d <;> first | (exact absurd rfl (hnot _)) | simp
        · simp only [if_true] at h
          subst h
          refine ⟨.tuple #[x', .bool true], by simp only [VR]; exact ⟨[x', .bool true], VRs.cons hx' (VRs.one (by simp only [VR])), rfl⟩, fun w => ?_⟩
          simp only [execOp, Instr.typeAssert, Sem.run_bind, run_und hd, Result.andThen_ok, hex]
          cases d <;> first | (exact absurd rfl (hnot _)) | simp
      · rename_i hu
        simp only [beq_iff_eq] at hu
        split at h
        · rename_i hok
          subst hok
          simp only [Option.some.injEq] at h
          subst h
          refine ⟨.tuple #[zv, .bool false], by simp only [VR]; exact ⟨[zv, .bool false], VRs.cons hzv (VRs.one (by simp only [VR])), rfl⟩, fun w => ?_⟩
          simp only [execOp, Instr.typeAssert, Sem.run_bind, run_und hd, Result.andThen_ok, hex]
          cases d <;> first | (exact absurd rfl (hnot _)) | simp [hu, run_zeroValue' hiz hizz]
        · cases h
    · rename_i hx
      have := hev x y _ h4 hx
      simp only [VR] at this
      split at h
      · rename_i hok
        subst hok
        simp only [Option.some.injEq] at h
        subst h
        refine ⟨.tuple #[zv, .bool false], by simp only [VR]; exact ⟨[zv, .bool false], VRs.cons hzv (VRs.one (by simp only [VR])), rfl⟩, fun w => ?_⟩
        simp only [execOp, Instr.typeAssert, Sem.run_bind, run_und hd, Result.andThen_ok, this]
        cases d <;> first | (exact absurd rfl (hnot _)) | simp [run_zeroValue' hiz hizz]
      · cases h
    · cases h
  -- extract
  · rename_i x n m y
    simp only [Bool.and_eq_true, Nat.beq_eq] at hk
    obtain ⟨rfl, h2⟩ := hk
    simp only [pureOp, fEx] at h
    split at h
    · rename_i l hx
      have := hev x y _ h2 hx
      simp only [VR] at this
      obtain ⟨l', hl, hex⟩ := this
      obtain ⟨cv, hcv, hv⟩ := hl.nth h
      exact ⟨cv, hv, fun w => by simp [execOp, Instr.extract, hex, hcv]⟩
    · cases h
  -- a built-in
  · rename_i k b args argTypes
    have run1 : (execOp e { dst := dst, op := .call { callee := .builtin b, args := args, argTypes := argTypes }, type := type, pos := pos, after := after, guard := guard } : Sem Next) =
        builtin b argTypes type (args.map fun | .const _ => true | _ => false) (args.map e) := by
      simp only [execOp, resolve, invoke, pure_bind]
      rfl
    have args1 : ∀ {x : Operand}, args.toList = [x] → args = #[x] := by intro x hh; cases args; simp_all
    have tys1 : ∀ {x : TypeId}, argTypes.toList = [x] → argTypes = #[x] := by intro x hh; cases argTypes; simp_all
    unfold Val
    rw [run1]
    split at hk
    -- the length of a slice
    · rename_i y
      split at hk
      · rename_i x t ha ht
        simp only [Bool.and_eq_true] at hk
        obtain ⟨h1, h2⟩ := hk
        obtain ⟨_, d, _, hd, htd, hf⟩ := tdIs_spec hty h2
        rw [args1 ha, tys1 ht]
        refine Val.of (v := v) (s := Builtin.len_ _ _ _) ?_
        simp only [pureOp, fLen] at h
        split at hf
        · rename_i el hs
          rw [hs] at htd
          have := td_sli htd
          subst this
          split at h
          · rename_i hx
            simp only [Option.some.injEq] at h
            subst h
            have := hev x y _ h1 hx
            simp only [VR] at this
            obtain ⟨L, k, _, hex, _⟩ := this
            exact ⟨_, by simp only [VR]; rfl, fun w => by simp [Builtin.len_, run_und hd, hex, goInt]⟩
          · rename_i hx
            simp only [Option.some.injEq] at h
            subst h
            have := hev x y _ h1 hx
            simp only [VR] at this
            exact ⟨_, by simp only [VR]; rfl, fun w => by simp [Builtin.len_, run_und hd, this, goInt]⟩
          · rename_i hx
            simp only [Option.some.injEq] at h
            subst h
            have := hev x y _ h1 hx
            simp only [VR] at this
            obtain ⟨_, _, hex⟩ := this
            exact ⟨_, by simp only [VR]; rfl, fun w => by simp [Builtin.len_, run_und hd, hex, goInt]⟩
          · cases h
        · cases hf
      · cases hk
    -- the length of a string
    · rename_i y
      split at hk
      · rename_i x t ha ht
        simp only [Bool.and_eq_true] at hk
        obtain ⟨h1, h2⟩ := hk
        rw [args1 ha, tys1 ht]
        refine Val.of (v := v) (s := Builtin.len_ _ _ _) ?_
        simp only [pureOp, fLenT] at h
        split at h
        · rename_i hx
          simp only [Option.some.injEq] at h
          subst h
          have := hev x y _ h1 hx
          simp only [VR] at this
          exact ⟨_, by simp only [VR]; rfl, fun w => by simp [Builtin.len_, run_und (str_sound hty h2), this.1, bytesOf_size, goInt]⟩
        · cases h
      · cases hk
    -- the length of an array
    · rename_i n
      split at hk
      · rename_i x t ha ht
        obtain ⟨_, d, _, hd, htd, hf⟩ := tdIs_spec hty hk
        rw [args1 ha, tys1 ht]
        refine Val.of (v := v) (s := Builtin.len_ _ _ _) ?_
        simp only [pureOp, fLenA, Option.some.injEq] at h
        subst h
        split at hf
        · rename_i m el hs
          simp only [Nat.beq_eq] at hf
          subst hf
          rw [hs] at htd
          have := td_arr htd
          subst this
          exact ⟨_, by simp only [VR]; rfl, fun w => by simp [Builtin.len_, run_und hd, goInt]⟩
        · cases hf
      · cases hk
    -- min
    · rename_i ys
      refine Val.of (v := v) (s := Builtin.min_ _ _ _) ?_
      simp only [pureOp, fMin] at h
      split at h
      · rename_i k a l hl
        have := hev.list _ _ _ hk hl
        simp only [VRs] at this
        obtain ⟨y, r, hy, hyv, hr⟩ := this
        simp only [VR] at hyv
        subst hyv
        obtain ⟨cv, h1, h2⟩ := min_sound (P := P) h hr
        refine ⟨cv, h1, fun w => ?_⟩
        simp only [Builtin.min_, Array.toList_map, hy]
        exact h2 w
      · cases h
    -- max
    · rename_i ys
      refine Val.of (v := v) (s := Builtin.max_ _ _ _) ?_
      simp only [pureOp, fMax] at h
      split at h
      · rename_i k a l hl
        have := hev.list _ _ _ hk hl
        simp only [VRs] at this
        obtain ⟨y, r, hy, hyv, hr⟩ := this
        simp only [VR] at hyv
        subst hyv
        obtain ⟨cv, h1, h2⟩ := max_sound (P := P) h hr
        refine ⟨cv, h1, fun w => ?_⟩
        simp only [Builtin.max_, Array.toList_map, hy]
        exact h2 w
      · cases h
    · cases hk
  · cases hk
end
end Go.Ex
