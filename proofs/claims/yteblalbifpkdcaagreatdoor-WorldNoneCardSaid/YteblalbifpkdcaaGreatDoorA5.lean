/- The operations that make a block. -/
import Derived.Test.YteblalbifpkdcaaGreatDoorA4
import Derived.Laws.World
import Derived.Laws.NewFold
import Derived.Laws.CopyRow
import Derived.Laws.RangeString
import Derived.Laws.Externs
import Derived.KernelRfl
import Derived.Laws.Append
namespace Go.Ex
section
variable {ρ : Rho} {X : Cx} {P : Program} {ctx : List (Option Nat)} {scr : List AV} {env : Tr AV} {e : Operand → Value} {E : Env}

/-- a block is made, and its address is the value -/
def MkR (E : Env) (ρ : Rho) (P : Program) (v : AV) (o : AO) (a : Bn) (s : Sem Next) : Prop :=
  ∀ w, ∃ cv ob L, s.run P w = .ok (.value cv) (w.alloc ob) ∧ L.b = w.heap.size ∧
    ∀ ρ', ρ.le ρ' → ρ' a = some L → VR E.σ ρ' v cv ∧ ∀ w' : World, w'.heap[L.b]? = some ob → OR E ρ' o L w'

theorem MkR.of {v : AV} {o : AO} {a : Bn} {s : Sem Value} (h : ∀ w, ∃ cv ob L, s.run P w = .ok cv (w.alloc ob) ∧ L.b = w.heap.size ∧
    ∀ ρ', ρ.le ρ' → ρ' a = some L → VR E.σ ρ' v cv ∧ ∀ w' : World, w'.heap[L.b]? = some ob → OR E ρ' o L w') : MkR E ρ P v o a (do pure (.value (← s))) := by
  intro w
  obtain ⟨cv, ob, L, h1, h2⟩ := h w
  exact ⟨cv, ob, L, by simp [h1], h2⟩

theorem VRs.row {σ : Sig} {ρ : Rho} {l : List AV} {cs : Array Value} (h : VRs σ ρ l cs.toList) : RowR σ ρ l cs 0 := by
  intro i x hx
  obtain ⟨y, hy, hv⟩ := h.nth hx
  exact ⟨y, by simpa using hy, hv⟩

/-- a row is laid: its address -/
theorem row_made {cs : List AV} {c : Array Value} (t : TypeId) {a : Bn} (hc : VRs E.σ ρ cs c.toList) {k : Nat → Value} {v : AV} (w : World)
    (hv : ∀ ρ', ρ' a = some ⟨w.heap.size, 0, c.size⟩ → VR E.σ ρ' v (k w.heap.size)) :
    ∃ cv ob L, (do let r ← newRow t c; pure (k r.block) : Sem Value).run P w = .ok cv (w.alloc ob) ∧ L.b = w.heap.size ∧
      ∀ ρ', ρ.le ρ' → ρ' a = some L → VR E.σ ρ' v cv ∧ ∀ w' : World, w'.heap[L.b]? = some ob → OR E ρ' (.c cs) L w' := by
  refine ⟨k w.heap.size, .cells c t (0, 0), ⟨w.heap.size, 0, c.size⟩, by simp [newRow], rfl, fun ρ' hle ha => ⟨hv ρ' ha, fun w' hw' => ?_⟩⟩
  exact ⟨c, t, hw', rfl, (hc.mono hle).row⟩

theorem rep_sound {σ : Sig} {ρ : Rho} {z : List AV} {zc : Array Value} (h : VRs σ ρ z zc.toList) (_h0 : 0 < zc.size) :
    ∀ n, VRs σ ρ (rep z n) ((Array.range (n * zc.size)).map (zc[· % zc.size]!)).toList := by
  have key : ∀ n, ((Array.range (n * zc.size)).map (zc[· % zc.size]!)).toList = (List.replicate n zc.toList).flatten := by
    intro n
    induction n with
    | zero => simp
    | succ n ih =>
      rw [List.replicate_succ', List.flatten_append, ← ih]
      simp only [Array.toList_map, Array.toList_range, Nat.succ_mul, List.range_add, List.map_append, List.map_map, List.flatten_cons, List.flatten_nil, List.append_nil]
      congr 1
      apply List.ext_getElem
      · simp
      · intro i h1 h2
        simp only [List.length_map, List.length_range] at h1
        simp only [List.getElem_map, List.getElem_range, Function.comp_apply, Array.getElem_toList]
        rw [Nat.mul_comm n, Nat.mul_add_mod, Nat.mod_eq_of_lt h1]
        simp [h1]
  intro n
  rw [key]
  induction n with
  | zero => simpa [rep] using VRs.nil
  | succ n ih => simpa [rep, List.replicate_succ] using h.append ih

theorem const_int {r : Option Operand} (h : isConstInt r = true) (w : World) (t : TypeId) {k el : TypeId} (hd : P.underlying t = some (.map k el)) (e : Operand → Value)
    (he : ∀ v, e (.const v) = v) : (Instr.makeMap t (r.map e)).run P w = .ok (.map (some w.heap.size)) (w.alloc (.map #[] 0)) := by
  cases r with
  | none => simp [Instr.makeMap]
  | some x =>
    unfold isConstInt at h
    split at h
    · rename_i hh; cases hh
    · rename_i hh
      simp only [Option.some.injEq] at hh
      subst hh
      simp [Instr.makeMap, he, run_und hd, asInt, asIntOf]
    · cases h

theorem put_len {α : Type} : ∀ {l : List α} {o : Nat} {c q : List α}, put l o c = some q → q.length = l.length
  | l, 0, [], q, h => by have : q = l := by cases l <;> simpa [put] using h.symm
                         rw [this]
  | [], 0, x :: c, q, h => by simp [put] at h
  | [], o + 1, c, q, h => by cases c <;> simp [put] at h
  | y :: l, 0, x :: c, q, h => by
    simp only [put, Option.map_eq_some_iff] at h
    obtain ⟨q', hq, rfl⟩ := h
    simp [put_len hq]
  | y :: l, o + 1, c, q, h => by
    have h' : (put l o c).map (y :: ·) = some q := by cases c <;> simpa [put] using h
    simp only [Option.map_eq_some_iff] at h'
    obtain ⟨q', hq, rfl⟩ := h'
    simp [put_len hq]

theorem fillA_len : ∀ {ps : List (Nat × Nat × AV)} {l q : List AV}, fillA l ps = some q → q.length = l.length
  | [], l, q, h => by simp only [fillA, Option.some.injEq] at h; rw [h]
  | (o, n, v) :: ps, l, q, h => by
    simp only [fillA] at h
    split at h
    · cases h
    · split at h
      · split at h
        · cases h
        · rename_i l2 hl2
          rw [fillA_len h, put_len hl2]
      · cases h

theorem rep_len {α : Type} (z : List α) : ∀ n, (rep z n).length = n * z.length
  | 0 => by simp [rep]
  | n + 1 => by simp [rep, rep_len z n, Nat.succ_mul]; omega

theorem bsl_sound (hty : TyOk P X.ty) (hev : EvR E.σ ρ X ctx scr env e) {t n sz : Nat} {ps : Array (Nat × Operand)} {z : List AV} {ps' : List (Nat × Nat × AOpd)} {a : Bn} {v : AV} {ob : AO}
    (hk : (match X.ty t with
      | none => false
      | some r => match r.td with
        | .sli e => X.sizeIs e sz && X.zeroCs e z && Nat.beq z.length sz && Nat.blt 0 sz && Nat.ble (n * sz) 16777216 && X.parts ctx (fun i => some (i * sz, sz)) ps.toList ps'
        | _ => false) = true) (h : hBsl sz n z ps' a scr env = some (v, ob)) : MkR E ρ P v ob a (do pure (.value (← Instr.buildSlice t n (ps.map fun (i, x) => (i, e x))))) := by
  obtain ⟨_, el, _, _, hd, hf⟩ := sli_sound (f := fun e => X.sizeIs e sz && X.zeroCs e z && Nat.beq z.length sz && Nat.blt 0 sz && Nat.ble (n * sz) 16777216 && X.parts ctx (fun i => some (i * sz, sz)) ps.toList ps') hty hk
  simp only [Bool.and_eq_true, Nat.beq_eq, Nat.blt_eq, Nat.ble_eq] at hf
  obtain ⟨⟨⟨⟨⟨h1, h2⟩, h3⟩, h4⟩, h5⟩, h6⟩ := hf
  obtain ⟨_, _, hse, i, hi, his⟩ := sizeIs_spec hty h1
  obtain ⟨r, i', zv, hr, hi', hiz, hzv⟩ := zeroCs_spec (σ := E.σ) (ρ := ρ) hty h2
  rw [hi] at hi'
  cases hi'
  unfold hBsl at h
  split at h
  · cases h
  · rename_i vs hvs
    split at h
    · cases h
    · rename_i c hc
      simp only [Option.some.injEq, Prod.mk.injEq] at h
      obtain ⟨rfl, rfl⟩ := h
      have hzs : zv.cells.size = sz := by have := hzv.length; simp at this; omega
      have hz := rep_sound hzv (by omega) n
      obtain ⟨q', hq1, hq2⟩ := fill_sound _ (parts_sound hev h6 hvs) hz hc
      have hsize : q'.length = n * sz := by rw [hq2.length, fillA_len hc, rep_len, h3]
      refine MkR.of fun w => ?_
      have := row_made (P := P) (E := E) (ρ := ρ) el (c := q'.toArray) (by simpa using hq2) (a := a) (k := fun b => .slice (some ⟨b, 0, none⟩) n n) (v := .sl a 0 n n true sz) w
        (fun ρ' ha => by simp only [VR]; exact ⟨_, n, ha, rfl, Nat.le_refl _, Nat.le_refl _, fun _ => rfl, by simp [hsize]⟩)
      obtain ⟨cv, ob, L, h1', h2'⟩ := this
      refine ⟨cv, ob, L, ?_, h2'⟩
      rw [← h1']
      have hbig : ¬ n * sz > 2 ^ 24 := by omega
      have hq1' : Instr.fill (fun i => some (i * sz, sz)) ((Array.range (n * sz)).map (zv.cells[· % zv.cells.size]!)) (ps.map fun (i, x) => (i, e x)).toList = some q'.toArray := by
        rw [Array.toArray_toList] at hq1
        rw [Array.toList_map, hzs]
        rw [hzs] at hq1
        exact hq1
      have hr0 : Array.range 0 = #[] := rfl
      simp only [Instr.buildSlice, Sem.run_bind, run_und hd, Result.andThen_ok, run_sizeOf' hi, his, hbig, if_false, Sem.run_pure]
      by_cases hn : n * sz = 0
      · rw [hn] at hq1' ⊢
        simp only [if_true, Sem.run_bind, Sem.run_pure, Result.andThen_ok, hr0, Array.map_empty] at hq1' ⊢
        rw [hq1']
        rfl
      · simp only [hn, if_false, Sem.run_bind, run_zeroValue' hi hiz, Result.andThen_ok, Sem.run_pure]
        rw [hq1']
        rfl

theorem wrap_small {n : Nat} (h : n ≤ 65536) : IntKind.i64.wrap (n : Int) = n := by
  have h1 : IntKind.i64.min = -9223372036854775808 := by decide
  have h2 : IntKind.i64.max = 9223372036854775807 := by decide
  rw [← wrapA_eq]
  unfold wrapA
  rw [if_pos]
  omega

theorem mkS_sound (hty : TyOk P X.ty) (hev : EvR E.σ ρ X ctx scr env e) {t sz : Nat} {l c : Operand} {z : List AV} {l' c' : AOpd} {a : Bn} {v : AV} {ob : AO}
    (hk : (match X.ty t with
      | none => false
      | some r => match r.td with
        | .sli e => X.sizeIs e sz && X.zeroCs e z && Nat.beq z.length sz && Nat.blt 0 sz && (match X.ty e with | some re => Nat.ble re.bytes 1048576 | none => false)
        | _ => false) = true) (hl : X.opd ctx l l' = true) (hc : X.opd ctx c c' = true) (h : hMkS sz z l' c' a scr env = some (v, ob)) :
    MkR E ρ P v ob a (do pure (.value (← Instr.makeSlice t (e l) (e c)))) := by
  obtain ⟨_, el, _, _, hd, hf⟩ := sli_sound (f := fun e => X.sizeIs e sz && X.zeroCs e z && Nat.beq z.length sz && Nat.blt 0 sz && (match X.ty e with | some re => Nat.ble re.bytes 1048576 | none => false)) hty hk
  simp only [Bool.and_eq_true, Nat.beq_eq, Nat.blt_eq] at hf
  obtain ⟨⟨⟨⟨h1, h2⟩, h3⟩, h4⟩, h5⟩ := hf
  obtain ⟨re, hre, hse, i, hi, his⟩ := sizeIs_spec hty h1
  obtain ⟨r, i', zv, hr, hi', hiz, hzv⟩ := zeroCs_spec (σ := E.σ) (ρ := ρ) hty h2
  rw [hi] at hi'
  cases hi'
  rw [hre] at h5
  simp only [Nat.ble_eq] at h5
  obtain ⟨i2, _, hi2, _, _, _, hby, _⟩ := row_spec (hty el re hre)
  rw [hi] at hi2
  cases hi2
  unfold hMkS at h
  split at h
  · rename_i n hn
    split at h
    · rename_i m hm
      split at h
      · rename_i hle
        simp only [Bool.and_eq_true, decide_eq_true_eq] at hle
        simp only [Option.some.injEq, Prod.mk.injEq] at h
        obtain ⟨rfl, rfl⟩ := h
        have e1 := ix_sound (hev l l' _ hl hn)
        have e2 := ix_sound (hev c c' _ hc hm)
        have hzs : zv.cells.size = sz := by have := hzv.length; simp at this; omega
        have hz := rep_sound hzv (by omega) m
        refine MkR.of fun w => ?_
        have := row_made (P := P) (E := E) (ρ := ρ) el (c := (Array.range (m * zv.cells.size)).map (zv.cells[· % zv.cells.size]!)) hz (a := a)
          (k := fun b => .slice (some ⟨b, 0, none⟩) n m) (v := .sl a 0 n m true sz) w
          (fun ρ' ha => by simp only [VR]; exact ⟨_, m, ha, rfl, hle.1, Nat.le_refl _, fun _ => rfl, by simp [hzs]⟩)
        obtain ⟨cv, ob, L, h1', h2'⟩ := this
        refine ⟨cv, ob, L, ?_, h2'⟩
        rw [← h1']
        have hr0 : Array.range 0 = #[] := rfl
        have w1 : IntKind.i64.wrap (n : Int) = n := wrap_small (by omega)
        have w2 : IntKind.i64.wrap (m : Int) = m := wrap_small (by omega)
        have hb1 : i.bytes * m ≤ 68719476736 := (Nat.mul_le_mul (by omega : i.bytes ≤ 1048576) hle.2 : i.bytes * m ≤ 1048576 * 65536)
        have hcond : ¬ (((m : Int) < 0 || (i.bytes : Int) * (m : Int) > 2 ^ 48) || (n : Int) < 0 || (n : Int) > (m : Int)) = true := by
          have hc : (i.bytes : Int) * (m : Int) = ((i.bytes * m : Nat) : Int) := (Int.natCast_mul _ _).symm
          rw [hc]
          generalize i.bytes * m = q at hb1
          simp only [Bool.or_eq_true, decide_eq_true_eq]
          omega
        simp only [Instr.makeSlice, Sem.run_bind, run_und hd, Result.andThen_ok, e1, e2, asInt, asIntOf, Sem.run_pure, run_typeInfo' hi, w1, w2]
        rw [if_neg hcond]
        simp only [Sem.run_bind, Result.andThen_ok, run_askRoom, run_sizeOf' hi, Int.toNat_natCast, his]
        by_cases hm0 : m * sz = 0
        · have hm1 : m = 0 := by
            rcases Nat.mul_eq_zero.1 hm0 with h | h
            · exact h
            · omega
          subst hm1
          simp [newRow, hr0]
        · simp only [hm0, if_false, Sem.run_bind, run_zeroValue' hi hiz, Result.andThen_ok, Sem.run_pure, hzs]
          rfl
      · cases h
    · cases h
  · cases h

theorem mk_sound (hty : TyOk P X.ty) (hev : EvR E.σ ρ X ctx scr env e) (hec : ∀ v, e (.const v) = v) {o : Oper} {k : MK} {a : Bn} {v : AV} {ob : AO} (hk : X.mk' ctx o.op k = true)
    (h : makeOp k a scr env = some (v, ob)) : MkR E ρ P v ob a (execOp e o) := by
  obtain ⟨dst, op, type, pos, after, guard⟩ := o
  simp only at hk
  unfold Cx.mk' at hk
  split at hk
  -- alloc
  · rename_i el cs
    obtain ⟨r, i, zv, hr, hi, hiz, hzv⟩ := zeroCs_spec (σ := E.σ) (ρ := ρ) hty hk
    simp only [makeOp, hAlloc, Option.some.injEq, Prod.mk.injEq] at h
    obtain ⟨rfl, rfl⟩ := h
    refine MkR.of (s := Instr.alloc el true (.tuple #[])) fun w => ?_
    have := row_made (P := P) (E := E) (ρ := ρ) el hzv (a := a) (k := fun b => .pointer (some ⟨b, 0, none⟩)) (v := .p a 0) w (fun ρ' ha => by simp only [VR]; exact ⟨_, ha, rfl⟩)
    obtain ⟨cv, ob, L, h1, h2⟩ := this
    refine ⟨cv, ob, L, ?_, h2⟩
    rw [← h1]
    simp [Instr.alloc, run_zeroValue' hi hiz, newVar, newRow]
  -- box
  · rename_i el x y
    simp only [makeOp, hBox] at h
    split at h
    · cases h
    · rename_i u hu
      split at h
      · cases h
      · rename_i c hc
        simp only [Option.some.injEq, Prod.mk.injEq] at h
        obtain ⟨rfl, rfl⟩ := h
        have hv := (hev x y u hk hu).cells hc
        refine MkR.of (s := Instr.box el (e x)) fun w => ?_
        have := row_made (P := P) (E := E) (ρ := ρ) el hv (a := a) (k := fun b => .pointer (some ⟨b, 0, none⟩)) (v := .p a 0) w (fun ρ' ha => by simp only [VR]; exact ⟨_, ha, rfl⟩)
        obtain ⟨cv, ob, L, h1, h2⟩ := this
        refine ⟨cv, ob, L, ?_, h2⟩
        rw [← h1]
        simp [Instr.box, newVar, newRow]
  -- buildSlice
  · rename_i t n ps sz m z ps'
    simp only [Bool.and_eq_true, Nat.beq_eq] at hk
    obtain ⟨rfl, hk⟩ := hk
    exact bsl_sound hty hev hk h
  -- makeMap
  · rename_i t r
    simp only [Bool.and_eq_true] at hk
    obtain ⟨h1, h2⟩ := hk
    obtain ⟨_, d, _, hd, htd, hf⟩ := tdIs_spec hty h2
    simp only [makeOp, hMkM, Option.some.injEq, Prod.mk.injEq] at h
    obtain ⟨rfl, rfl⟩ := h
    split at hf
    · rename_i k el hkk
      rw [hkk] at htd
      have := td_map htd
      subst this
      refine MkR.of (s := Instr.makeMap t (r.map e)) fun w => ⟨.map (some w.heap.size), .map #[] 0, ⟨w.heap.size, 0, 0⟩, const_int h1 w t hd e hec, rfl, fun ρ' hle ha => ⟨?_, fun w' hw' => ?_⟩⟩
      · simp only [VR]; exact ⟨_, ha, rfl⟩
      · exact ⟨#[], hw', F2.nil⟩
    · cases hf
  -- makeSlice
  · rename_i t l c sz z l' c'
    simp only [Bool.and_eq_true] at hk
    obtain ⟨⟨hk, hl⟩, hc⟩ := hk
    exact mkS_sound hty hev hk hl hc h
  -- range over a string
  · rename_i t x y
    simp only [Bool.and_eq_true] at hk
    obtain ⟨h1, h2⟩ := hk
    simp only [makeOp, hRngT] at h
    split at h
    · rename_i l hl
      simp only [Option.some.injEq, Prod.mk.injEq] at h
      obtain ⟨rfl, rfl⟩ := h
      have := hev x y _ h2 hl
      simp only [VR] at this
      refine MkR.of (s := Instr.range t (e x)) fun w => ⟨.pointer (some ⟨w.heap.size, 0, none⟩), .stringIter (bytesOf l) 0, ⟨w.heap.size, 0, 0⟩, ?_, rfl, fun ρ' hle ha => ⟨?_, fun w' hw' => ?_⟩⟩
      · simp [Instr.range, run_und (str_sound hty h1), this.1]
      · simp only [VR]; exact ⟨_, ha, rfl⟩
      · exact ⟨hw', this.2, rfl⟩
    · cases h
  · cases hk
end
end Go.Ex
/- Rows of cells are written. -/
namespace Go.Ex

theorem setRow_size (w : World) (g : Nat) (c : Array Value) : (w.setRow g c).heap.size = w.heap.size := by simp [World.setRow]
theorem setRow_other (w : World) (g : Nat) (c : Array Value) {b : Nat} (h : b ≠ g) : (w.setRow g c).heap[b]? = w.heap[b]? := by
  simp only [World.setRow, Array.getElem?_modify]
  rw [if_neg (by omega)]
theorem setRow_os (w : World) (g : Nat) (c : Array Value) : (w.setRow g c).os = w.os := rfl
theorem setRow_tape (w : World) (g : Nat) (c : Array Value) : (w.setRow g c).tape = w.tape := rfl
theorem setRow_output (w : World) (g : Nat) (c : Array Value) : (w.setRow g c).output = w.output := rfl

theorem nth_put {α : Type} : ∀ {l c q : List α} {o : Nat}, put l o c = some q → o + c.length ≤ l.length ∧ ∀ i, nth q i = if o ≤ i ∧ i < o + c.length then nth c (i - o) else nth l i
  | l, [], q, 0, h => by
    have : q = l := by cases l <;> simpa [put] using h.symm
    subst this
    exact ⟨by simp, fun i => by rw [if_neg]; simp⟩
  | [], x :: c, q, 0, h => by simp [put] at h
  | [], c, q, o + 1, h => by cases c <;> simp [put] at h
  | y :: l, x :: c, q, 0, h => by
    simp only [put, Option.map_eq_some_iff] at h
    obtain ⟨q', hq, rfl⟩ := h
    obtain ⟨h1, h2⟩ := nth_put hq
    refine ⟨by simp at h1 ⊢; omega, fun i => ?_⟩
    cases i with
    | zero => simp [nth]
    | succ i =>
      simp only [nth, h2, Nat.sub_zero, List.length_cons]
      by_cases hi : i < c.length
      · rw [if_pos (by omega), if_pos (by omega)]
      · rw [if_neg (by omega), if_neg (by omega)]
  | y :: l, c, q, o + 1, h => by
    have h' : (put l o c).map (y :: ·) = some q := by cases c <;> simpa [put] using h
    simp only [Option.map_eq_some_iff] at h'
    obtain ⟨q', hq, rfl⟩ := h'
    obtain ⟨h1, h2⟩ := nth_put hq
    refine ⟨by simp; omega, fun i => ?_⟩
    cases i with
    | zero => rw [if_neg (by omega)]; simp [nth]
    | succ i =>
      simp only [nth, h2]
      by_cases hi : o ≤ i ∧ i < o + c.length
      · rw [if_pos hi, if_pos (by omega), show i + 1 - (o + 1) = i - o by omega]
      · rw [if_neg hi, if_neg (by omega)]

section
variable {σ : Sig} {ρ : Rho}

theorem nth_some {α : Type} {l : List α} {i : Nat} (h : i < l.length) : ∃ x, nth l i = some x := by
  rw [nth_eq]; exact ⟨l[i], List.getElem?_eq_getElem h⟩

theorem RowR.size {l : List AV} {cs : Array Value} {d : Nat} (h : RowR σ ρ l cs d) (h0 : 0 < l.length) : d + l.length ≤ cs.size := by
  obtain ⟨x, hx⟩ := nth_some (l := l) (i := l.length - 1) (by omega)
  obtain ⟨y, hy, _⟩ := h _ x hx
  have := (Array.getElem?_eq_some_iff.1 hy).1
  omega

theorem RowR.put {l c q : List AV} {cs : Array Value} {c' : List Value} {d o : Nat} (h : RowR σ ρ l cs d) (hc : VRs σ ρ c c') (hp : Ex.put l o c = some q) (hs : d + o + c'.length ≤ cs.size) :
    RowR σ ρ q (over cs.toList (d + o) c').toArray d := by
  intro i x hx
  obtain ⟨h1, h2⟩ := nth_put hp
  rw [h2] at hx
  have hlen := hc.length
  simp only [List.getElem?_toArray]
  have hl : (cs.toList.take (d + o)).length = d + o := by simp; omega
  by_cases hi : o ≤ i ∧ i < o + c.length
  · rw [if_pos hi] at hx
    obtain ⟨y, hy, hv⟩ := hc.nth hx
    refine ⟨y, ?_, hv⟩
    unfold over
    rw [List.append_assoc, List.getElem?_append_right (by omega), List.getElem?_append_left (by omega), hl, show d + i - (d + o) = i - o by omega]
    exact hy
  · rw [if_neg hi] at hx
    obtain ⟨y, hy, hv⟩ := h i x hx
    refine ⟨y, ?_, hv⟩
    unfold over
    by_cases hlt : i < o
    · rw [List.append_assoc, List.getElem?_append_left (by omega), List.getElem?_take, if_pos (by omega)]
      simpa using hy
    · rw [List.getElem?_append_right (by simp; omega), List.getElem?_drop]
      simp only [List.length_append, hl]
      rw [show d + o + c'.length + (d + i - (d + o + c'.length)) = d + i by omega]
      simpa using hy

theorem ones_sound : ∀ {l : List AV} {l' : List Value}, VRs σ ρ l l' → ones l = true → ∀ v ∈ l', v.oneCell' = true
  | [], l', h, _, v, hv => by simp only [VRs] at h; subst h; cases hv
  | x :: l, l', h, ho, v, hv => by
    simp only [VRs] at h
    obtain ⟨y, r, rfl, h1, h2⟩ := h
    simp only [ones, Bool.and_eq_true] at ho
    rcases List.mem_cons.1 hv with rfl | hv
    · exact h1.one ho.1
    · exact ones_sound h2 ho.2 v hv

theorem over_length (l : List Value) (o : Nat) (c : List Value) (h : o + c.length ≤ l.length) : (over l o c).length = l.length := by
  unfold over; simp; omega

variable {E : Env} {s : St} {w : World} {P : Program}

/-- cells of a block that may be written are written -/
theorem write_sound (h : Rel E ρ s w) {a : Bn} {l c q : List AV} {o : Nat} (ha : s.h.get a = some (.c l)) {c' : List Value} (hc : VRs E.σ ρ c c') (ho : ones c = true) (hp : put l o c = some q) :
    ∃ L w', ρ a = some L ∧ (storeCells ⟨L.b, L.d + o, none⟩ c').run P w = .ok () w' ∧ Rel E ρ (setH s a (.c q)) w' ∧ Ext s ρ w (setH s a (.c q)) ρ w' ∧
      w'.heap.size = w.heap.size ∧ (∀ b, b ≠ L.b → w'.heap[b]? = w.heap[b]?) ∧ w'.drawn = w.drawn ∧
      (∃ cs e, w'.heap[L.b]? = some (.cells cs e (0, 0)) ∧ cs.size = L.t ∧ RowR E.σ ρ q cs L.d) := by
  obtain ⟨L, hL, cs, e, hb, ht, hrow⟩ := h.obj _ _ (St.get_of_h ha)
  cases c' with
  | nil =>
    have hc0 := hc.length
    have : c = [] := by cases c with | nil => rfl | cons => simp at hc0
    subst this
    have hq : q = l := by
      have : ∀ {l : List AV} {o : Nat} {q : List AV}, put l o [] = some q → q = l := by
        intro l
        induction l with
        | nil => intro o q h; cases o <;> simp [put] at h; exact h
        | cons y l ih =>
          intro o q h
          cases o with
          | zero => simp [put] at h; exact h.symm
          | succ o =>
            simp only [put, Option.map_eq_some_iff] at h
            obtain ⟨q', hq, rfl⟩ := h
            rw [ih hq]
      exact this hp
    subst hq
    obtain ⟨h1, h2⟩ := h.set (w' := w) ha hL rfl (fun _ _ => rfl) rfl rfl rfl (o' := .c q) ⟨cs, e, hb, ht, hrow⟩
    exact ⟨L, w, hL, by simp [storeCells], h1, h2, rfl, fun _ _ => rfl, rfl, cs, e, hb, ht, hrow⟩
  | cons x c1 =>
    obtain ⟨h1, h2⟩ := nth_put hp
    have hlen := hc.length
    have hs : L.d + o + (x :: c1).length ≤ cs.size := by
      have := hrow.size (by simp at hlen; omega)
      omega
    have hrun := run_storeCells_at (P := P) L.b (L.d + o) e (x :: c1) 0 cs w hb (by omega) (ones_sound hc ho)
    simp only [Nat.add_zero] at hrun
    have hb' := setRow_heap w L.b cs (over cs.toList (L.d + o) (x :: c1)).toArray e (0, 0) hb
    have hsz : (over cs.toList (L.d + o) (x :: c1)).toArray.size = L.t := by
      rw [List.size_toArray, over_length _ _ _ (by simpa using hs)]; simpa using ht
    have hrow' := hrow.put hc hp hs
    obtain ⟨r1, r2⟩ := h.set (w' := w.setRow L.b (over cs.toList (L.d + o) (x :: c1)).toArray) ha hL (setRow_size _ _ _) (fun b hb => setRow_other _ _ _ hb) (setRow_os _ _ _) (setRow_tape _ _ _) (setRow_output _ _ _)
      (o' := .c q) ⟨_, e, hb', hsz, hrow'⟩
    exact ⟨L, _, hL, hrun, r1, r2, setRow_size _ _ _, fun b hb => setRow_other _ _ _ hb, rfl, _, e, hb', hsz, hrow'⟩
end
end Go.Ex
/- Effects: a store, a map's update and deletion, iterators. -/
namespace Go.Ex
section
variable {ρ : Rho} {X : Cx} {P : Program} {ctx : List (Option Nat)} {scr : List AV} {env : Tr AV} {e : Operand → Value} {E : Env} {s : St} {w : World} {f : Fr}

/-- one of the outcomes of an operation is what the machine does -/
def EffR (E : Env) (P : Program) (ρ : Rho) (s : St) (w : World) (sem : Sem Next) (f : Fr) : EOut → Prop
  | .x _ => True
  | .v v f' s' => f' = f ∧ ∃ ρ' w' nv cv, sem.run P w = .ok nv w' ∧ (nv = .value cv ∨ (nv = .skip ∧ cv = undef)) ∧ Rel E ρ' s' w' ∧ Ext s ρ w s' ρ' w' ∧ VR E.σ ρ' v cv
  | .p v f' s' => f' = f ∧ s' = s ∧ ∃ cv, sem.run P w = .halt (.panic cv) w ∧ VR E.σ ρ v cv

def Eff (E : Env) (P : Program) (ρ : Rho) (s : St) (w : World) (sem : Sem Next) (f : Fr) (outs : List EOut) : Prop := ∃ o ∈ outs, EffR E P ρ s w sem f o

theorem Eff.bad {sem : Sem Next} {m : String} : Eff E P ρ s w sem f (eBad m) := ⟨.x m, by simp [eBad], trivial⟩

theorem undefA_sound {σ : Sig} {ρ : Rho} : VR σ ρ undefA undef := by
  simp only [undefA, VR]
  exact ⟨[], VRs.nil, rfl⟩

theorem st_sound' (hty : TyOk P X.ty) (hrel : Rel E ρ s w) {t sz : Nat} {a x : Operand} {a' x' : AOpd} {ev : Ev} (hev : EvR E.σ ρ X ctx scr f.env e) (h1 : X.sizeIs t sz = true) (h2 : X.opd ctx a a' = true)
    (h3 : X.opd ctx x x' = true) : Eff E P ρ s w (do Instr.storeAt t (e a) (e x); pure .skip) f (eSt sz a' x' ev scr f s) := by
  unfold eSt
  split
  · rename_i b o ha
    split
    · rename_i v hv
      split
      · rename_i cv hcv
        split
        · rename_i hc
          simp only [Bool.and_eq_true, beq_iff_eq] at hc
          split
          · rename_i l hg
            split
            · rename_i l' hp
              refine ⟨_, List.mem_singleton.2 rfl, rfl, ρ, ?_⟩
              have hV := hev x x' v h3 hv
              have hcs := hV.cells hcv
              have hA := hev a a' _ h2 ha
              simp only [VR] at hA
              obtain ⟨L, w', hL, hrun, hR, hE, _⟩ := write_sound (P := P) hrel hg hcs hc.2 hp
              obtain ⟨L', hL', hex⟩ := hA
              rw [hL] at hL'
              cases hL'
              obtain ⟨_, _, hs, i, hi, his⟩ := sizeIs_spec hty h1
              refine ⟨w', .skip, undef, ?_, .inr ⟨rfl, rfl⟩, hR, hE, undefA_sound⟩
              have hsz : (e x).cells.size = i.size := by have := hcs.length; simp at this; omega
              simp [Instr.storeAt, Instr.sureAddr, hex, storeVar, run_sizeOf' hi, hsz, hrun]
            · exact Eff.bad
          · exact Eff.bad
        · exact Eff.bad
      · exact Eff.bad
    · exact Eff.bad
  · exact Eff.bad

theorem putObj_rel (hrel : Rel E ρ s w) {a : Bn} {o o' : AO} {L : Loc} {ob : Obj} (ha : s.h.get a = some o) (hL : ρ a = some L) (hb : L.b < w.heap.size)
    (ho : ∀ w' : World, w'.heap[L.b]? = some ob → OR E ρ o' L w') :
    Rel E ρ (setH s a o') { w with heap := w.heap.setIfInBounds L.b ob } ∧ Ext s ρ w (setH s a o') ρ { w with heap := w.heap.setIfInBounds L.b ob } :=
  hrel.set ha hL (by simp) (fun b hb => by simp only [Array.getElem?_setIfInBounds]; rw [if_neg (by omega)]) rfl rfl rfl (ho _ (by simp [hb]))

theorem run_stays {old new : Value} (h : Instr.sameBits 10000 old new = true) : (Instr.keyThatStays old new).run P w = .ok new w := by
  simp [Instr.keyThatStays, h]

theorem mu_sound (hty : TyOk P X.ty) (hrel : Rel E ρ s w) {t : Nat} {c : EC} {m k x : Operand} {m' k' x' : AOpd} {ev : Ev} (hev : EvR E.σ ρ X ctx scr f.env e)
    (ht : (match X.ty t with
      | none => false
      | some r => match r.td with
        | .map kt _ => X.keys kt c
        | _ => false) = true) (hm : X.opd ctx m m' = true) (hk : X.opd ctx k k' = true) (hx : X.opd ctx x x' = true) :
    Eff E P ρ s w (do Instr.mapUpdate t (e m) (e k) (e x); pure .skip) f (eMu c m' k' x' ev scr f s) := by
  unfold eMu
  split
  · rename_i a ha
    split
    · rename_i kv hkv
      split
      · rename_i v hv
        split
        · rename_i es clock hg
          split
          · rename_i es' n hp
            refine ⟨_, List.mem_singleton.2 rfl, rfl, ρ, ?_⟩
            obtain ⟨kt, et, hd, hf⟩ := mapRow_spec (f := fun kt _ => X.keys kt c) hty ht
            obtain ⟨fs, r, rfl, hkd⟩ := keys_spec hty hf
            have hK := hev k k' kv hk hkv
            have hV := hev x x' v hx hv
            have hM := hev m m' _ hm ha
            simp only [VR] at hM
            obtain ⟨L, hL, hex⟩ := hM
            obtain ⟨L', ces, hL', hb, hF⟩ := map_obj hrel (St.get_of_h hg)
            rw [hL] at hL'
            cases hL'
            have hlt : L.b < w.heap.size := (Array.getElem?_eq_some_iff.1 hb).1
            obtain ⟨p, hpos, hpp⟩ := keyPut_pos hp
            have hck := key_ok hkd hK hpos hF false w
            have hfk := findKey_sound hkd hK w hpos hF
            cases p with
            | none =>
              obtain ⟨rfl, rfl⟩ := hpp
              obtain ⟨r1, r2⟩ := putObj_rel (ob := .map (ces.push { key := e k, val := e x, born := clock }) (clock + 1)) (o' := .m (es ++ [(kv, v, clock)]) (clock + 1)) hrel hg hL hlt
                (fun w' hw' => ⟨_, hw', by simpa using hF.append (.cons ⟨hK, hV, rfl⟩ .nil)⟩)
              refine ⟨_, .skip, undef, ?_, .inr ⟨rfl, rfl⟩, r1, r2, undefA_sound⟩
              simp [Instr.mapUpdate, run_und hd, hex, MapKept.run_getObj_map hb, hck, hfk, MapKept.run_setObj_map _ hb]
            | some j =>
              obtain ⟨y, hy, hq, rfl, rfl⟩ := hpp
              obtain ⟨cy, hcy, hyr⟩ := hF.get hy
              obtain ⟨xs, ys, e1, e2, e3, e4, e5⟩ := keyEq_sound hkd hq hK hyr.1
              have hsame : Instr.sameBits 10000 cy.key (e k) = true := by
                rw [e1, e2]; exact lfs_same e3 e4 e5 r.agg hkd.one 9999
              have hcy' : ces[j]? = some cy := by simpa using hcy
              obtain ⟨r1, r2⟩ := putObj_rel (ob := .map (ces.modify j fun q => { q with key := e k, val := e x }) n) (o' := .m (es.set j (kv, v, y.2.2)) n) hrel hg hL hlt
                (fun w' hw' => ⟨_, hw', by
                  rw [Array.toList_modify]
                  refine hF.set fun z hz => ?_
                  rw [hcy] at hz
                  cases hz
                  exact ⟨hK, hV, hyr.2.2⟩⟩)
              refine ⟨_, .skip, undef, ?_, .inr ⟨rfl, rfl⟩, r1, r2, undefA_sound⟩
              simp [Instr.mapUpdate, run_und hd, hex, MapKept.run_getObj_map hb, hck, hfk, hcy', run_stays hsame, MapKept.run_setObj_map _ hb]
          · exact Eff.bad
        · exact Eff.bad
      · exact Eff.bad
    · exact Eff.bad
  · exact Eff.bad

theorem del_sound (hty : TyOk P X.ty) (hrel : Rel E ρ s w) {t ty : Nat} {c : EC} {m k : Operand} {m' k' : AOpd} {ev : Ev} {ts : Array TypeId} {as : Array Value} (hev : EvR E.σ ρ X ctx scr f.env e)
    (ht : (match X.ty t with
      | none => false
      | some r => match r.td with
        | .map kt _ => X.keys kt c
        | _ => false) = true) (hm : X.opd ctx m m' = true) (hk : X.opd ctx k k' = true) (hts : ts[0]? = some t) (ha0 : as[0]? = some (e m)) (ha1 : as[1]? = some (e k)) :
    Eff E P ρ s w (do pure (.value (← Builtin.delete_ ts ty as))) f (eDel c m' k' ev scr f s) := by
  unfold eDel
  split
  · rename_i a ha
    split
    · rename_i kv hkv
      split
      · rename_i es clock hg
        split
        · rename_i es' hp
          refine ⟨_, List.mem_singleton.2 rfl, rfl, ρ, ?_⟩
          obtain ⟨kt, et, hd, hf⟩ := mapRow_spec (f := fun kt _ => X.keys kt c) hty ht
          obtain ⟨fs, r, rfl, hkd⟩ := keys_spec hty hf
          have hK := hev k k' kv hk hkv
          have hM := hev m m' _ hm ha
          simp only [VR] at hM
          obtain ⟨L, hL, hex⟩ := hM
          obtain ⟨L', ces, hL', hb, hF⟩ := map_obj hrel (St.get_of_h hg)
          rw [hL] at hL'
          cases hL'
          have hlt : L.b < w.heap.size := (Array.getElem?_eq_some_iff.1 hb).1
          obtain ⟨p, hpos, hpp⟩ := keyDel_pos hp
          have hck := key_ok hkd hK hpos hF ces.isEmpty w
          have hfk := findKey_sound hkd hK w hpos hF
          cases p with
          | none =>
            simp only at hpp
            subst hpp
            obtain ⟨r1, r2⟩ := putObj_rel (ob := .map ces clock) (o' := .m es' clock) hrel hg hL hlt (fun w' hw' => ⟨_, hw', hF⟩)
            refine ⟨_, .value undef, undef, ?_, .inl rfl, r1, r2, undefA_sound⟩
            simp only [Builtin.delete_, hts, ha0, ha1, Sem.run_bind, run_und hd, Result.andThen_ok, hex, MapKept.run_getObj_map hb, hck, hfk, Option.bind_none, MapKept.run_setObj_map _ hb, Sem.run_pure]
            rfl
          | some j =>
            obtain ⟨rfl, hj⟩ := hpp
            have hlen := hF.length
            simp only [Array.length_toList] at hlen
            obtain ⟨r1, r2⟩ := putObj_rel (ob := .map (ces.eraseIdxIfInBounds j) clock) (o' := .m (es.eraseIdx j) clock) hrel hg hL hlt
              (fun w' hw' => ⟨_, hw', by
                have : (ces.eraseIdxIfInBounds j).toList = ces.toList.eraseIdx j := by
                  unfold Array.eraseIdxIfInBounds
                  rw [dif_pos (by omega), Array.toList_eraseIdx]
                rw [this]
                exact hF.erase⟩)
            refine ⟨_, .value undef, undef, ?_, .inl rfl, r1, r2, undefA_sound⟩
            have hcj : ces[j]? = some ces[j] := Array.getElem?_eq_getElem (by omega)
            simp only [Array.getElem?_toList, hcj, Option.map_some, Option.bind_some] at hfk
            simp only [Builtin.delete_, hts, ha0, ha1, Sem.run_bind, run_und hd, Result.andThen_ok, hex, MapKept.run_getObj_map hb, hck, hfk, MapKept.run_setObj_map _ hb, Sem.run_pure]
            rfl
        · exact Eff.bad
      · exact Eff.bad
    · exact Eff.bad
  · exact Eff.bad

theorem rngM_sound (hty : TyOk P X.ty) (hrel : Rel E ρ s w) {t : Nat} {x : Operand} {y : AOpd} {ev : Ev} (hev : EvR E.σ ρ X ctx scr f.env e)
    (ht : (X.tdIs t fun d => match d with | .map _ _ => true | _ => false) = true) (hx : X.opd ctx x y = true) :
    Eff E P ρ s w (do pure (.value (← Instr.range t (e x)))) f (eRngM y ev scr f s) := by
  obtain ⟨_, d, _, hd, htd, hf⟩ := tdIs_spec hty ht
  split at hf
  · rename_i k el hk
    rw [hk] at htd
    have := td_map htd
    subst this
    have fin : ∀ (it : Obj) (o : AO), (Instr.range t (e x)).run P w = .ok (.pointer (some ⟨w.heap.size, 0, none⟩)) (w.alloc it) →
        (∀ w' : World, w'.heap[w.heap.size]? = some it → (∀ b, b < w.heap.size → w'.heap[b]? = w.heap[b]?) → OR E (ρ.add s.nx ⟨w.heap.size, 0, 0⟩) o ⟨w.heap.size, 0, 0⟩ w') →
        EffR E P ρ s w (do pure (.value (← Instr.range t (e x)))) f (.v (.p s.nx 0) f (newH s o)) := by
      intro it o hrun ho
      have hh : ∀ b, b < w.heap.size → (w.alloc it).heap[b]? = w.heap[b]? := fun b hb => Go.RowKit.Below.heap_alloc w it b hb
      obtain ⟨r1, r2⟩ := hrel.new (w' := w.alloc it) (L := ⟨w.heap.size, 0, 0⟩) (o := o) rfl (by simp) hh rfl rfl rfl (ho _ (by show (w.heap.push it)[w.heap.size]? = _; simp) hh)
      refine ⟨rfl, _, _, .value (.pointer (some ⟨w.heap.size, 0, none⟩)), .pointer (some ⟨w.heap.size, 0, none⟩), by simp [hrun], .inl rfl, r1, r2, ?_⟩
      simp only [VR]
      exact ⟨_, Rho.add_self, rfl⟩
    unfold eRngM
    split
    · rename_i h0
      refine ⟨_, List.mem_singleton.2 rfl, fin (.mapIter none 0 #[] 0) _ ?_ fun w' hw' _ => ⟨rfl, none, hw', rfl⟩⟩
      have := hev x y _ hx h0
      simp only [VR] at this
      simp [Instr.range, run_und hd, this]
    · rename_i a ha
      split
      · rename_i es clock hg
        obtain ⟨L, ces, hL, hb, hF⟩ := map_obj hrel hg
        have hM := hev x y _ hx ha
        simp only [VR] at hM
        obtain ⟨L', hL', hex⟩ := hM
        rw [hL] at hL'
        cases hL'
        refine ⟨_, List.mem_singleton.2 rfl, fin (.mapIter (some L.b) clock #[] clock) _ ?_ fun w' hw' _ => ⟨rfl, some L.b, hw', L, Rho.add_le hrel.nx _ _ hL, rfl⟩⟩
        simp [Instr.range, run_und hd, hex, MapKept.run_getObj_map hb]
      · exact Eff.bad
    · exact Eff.bad
  · cases hf
end
end Go.Ex
/- Effects: an iterator's step, a map's copy, a panic. -/
namespace Go.Ex
section
variable {ρ : Rho} {X : Cx} {P : Program} {ctx : List (Option Nat)} {scr : List AV} {env : Tr AV} {e : Operand → Value} {E : Env} {s : St} {w : World} {f : Fr}

theorem over_sound {σ : Sig} {ρ : Rho} : VR σ ρ (.tu [.b false]) (.tuple #[.bool false]) := by
  simp only [VR]
  exact ⟨[.bool false], VRs.one (by simp only [VR]), rfl⟩

theorem natIn_eq (n : Nat) : ∀ l : List Nat, natIn n l = l.contains n
  | [] => rfl
  | x :: l => by
    simp only [natIn, List.contains_cons, natIn_eq n l]
    congr 1
    rw [Bool.eq_iff_iff, beq_iff_eq, beq_iff_eq]
    exact eq_comm

theorem left_sound {σ : Sig} {ρ : Rho} (seen : List Nat) : ∀ {l : List (AV × AV × Nat)} {l' : List MapEntry}, F2 (EntR σ ρ) l l' →
    F2 (EntR σ ρ) (left seen l) (l'.filter fun e => !seen.contains e.born)
  | _, _, .nil => .nil
  | (k, v, b) :: l, x :: l', .cons h1 h2 => by
    have hb := h1.2.2
    simp only at hb
    simp only [left, natIn_eq, List.filter_cons, hb]
    cases seen.contains x.born with
    | true => simpa using left_sound seen h2
    | false =>
      simp only [Bool.false_eq_true, if_false, Bool.not_false, if_true]
      exact .cons ⟨h1.1, h1.2.1, rfl⟩ (left_sound seen h2)

theorem allLt_sound {σ : Sig} {ρ : Rho} {n : Nat} : ∀ {l : List (AV × AV × Nat)} {l' : List MapEntry}, F2 (EntR σ ρ) l l' → allLt n l = true → ∀ x ∈ l', x.born < n
  | _, _, .nil, _, x, hx => by cases hx
  | (k, v, b) :: l, y :: l', .cons h1 h2, h, x, hx => by
    simp only [allLt, Bool.and_eq_true, decide_eq_true_eq] at h
    rcases List.mem_cons.1 hx with rfl | hx
    · have := h1.2.2; simp only at this; omega
    · exact allLt_sound h2 h.2 x hx

theorem nextOuts_mem (a m : Bn) (since clock : Nat) (seen : List Nat) (f : Fr) (s : St) : ∀ {l : List (AV × AV × Nat)} {x : AV × AV × Nat}, x ∈ l →
    EOut.v (.tu [.b true, x.1, x.2.1]) f (setH s a (.mi (some m) since (seen ++ [x.2.2]) clock)) ∈ nextOuts a m since clock seen f s l
  | (k, v, b) :: l, x, h => by
    simp only [nextOuts]
    rcases List.mem_cons.1 h with rfl | h
    · exact List.mem_cons_self ..
    · exact List.mem_cons_of_mem _ (nextOuts_mem a m since clock seen f s h)

theorem F2.get' {α β : Type} {R : α → β → Prop} : ∀ {l : List α} {l' : List β}, F2 R l l' → ∀ {j : Nat} {y : β}, l'[j]? = some y → ∃ x, l[j]? = some x ∧ R x y
  | _, _, .nil, j, x, h => by simp at h
  | _, _, .cons h1 h2, 0, x, h => by simp only [List.getElem?_cons_zero, Option.some.injEq] at h; subst h; exact ⟨_, rfl, h1⟩
  | _, _, .cons h1 h2, j + 1, x, h => by
    obtain ⟨y, hy, hr⟩ := F2.get' h2 (by simpa using h)
    exact ⟨y, by simpa using hy, hr⟩

theorem run_nextMap {r m since : Nat} {seen : Array Nat} {es : Array MapEntry} {clock : Nat} (hr : w.heap[r]? = some (.mapIter (some m) since seen since)) (hm : w.heap[m]? = some (.map es clock))
    (hlt : ∀ x ∈ es.toList, x.born < since) (ty : TypeId) :
    ((es.toList.filter fun e => !seen.contains e.born) = [] ∧ (Instr.next (.pointer (some ⟨r, 0, none⟩)) false ty).run P w = .ok (.tuple #[.bool false]) w) ∨
    ∃ (j : Nat) (en : MapEntry) (w1 : World), (es.toList.filter fun e => !seen.contains e.born)[j]? = some en ∧ w1.heap = w.heap ∧ w1.os = w.os ∧ w1.tape = w.tape ∧ w1.output = w.output ∧
      (Instr.next (.pointer (some ⟨r, 0, none⟩)) false ty).run P w =
        .ok (.tuple #[.bool true, en.key, en.val]) { w1 with heap := w1.heap.setIfInBounds r (.mapIter (some m) since (seen.push en.born) clock) } := by
  have htest : (!seen.isEmpty && !es.isEmpty && es.all (fun x => decide (x.born ≥ since))) = false := by
    cases he : es.isEmpty with
    | true => simp
    | false =>
      have hall : es.all (fun x => decide (x.born ≥ since)) = false := by
        rw [Bool.eq_false_iff]
        intro h
        rw [Array.all_eq_true_iff_forall_mem] at h
        have h0 : 0 < es.size := by
          rcases Nat.eq_zero_or_pos es.size with h0 | h0
          · simp [Array.isEmpty, h0] at he
          · exact h0
        have hm : es[0] ∈ es := Array.getElem_mem h0
        have h1 := h _ hm
        have h2 := hlt es[0] (by simp)
        simp at h1
        omega
      simp [hall]
  have hfl : (es.toList.filter fun e => !seen.contains e.born) = (es.filter fun e => !seen.contains e.born).toList := by simp
  rw [hfl]
  simp only [Instr.next, getObj, Sem.run_bind, Sem.run, hr, hm, Result.andThen_ok, htest, Bool.false_eq_true, if_false]
  have hmem : ∀ x ∈ (es.filter fun e => !seen.contains e.born).toList, x.born < since := fun x hx => hlt x (by simp at hx ⊢; exact hx.1)
  generalize (es.filter fun e => !seen.contains e.born) = L at hmem ⊢
  have e1 : L.filter (fun x => decide (x.born < since)) = L := Array.filter_eq_self.2 (fun x hx => by simpa using hmem x (by simpa using hx))
  have e2 : L.filter (fun x => decide (x.born ≥ since)) = #[] := by
    rw [Array.filter_eq_empty_iff]
    intro x hx
    have := hmem x (by simpa using hx)
    simp
    omega
  simp only [e1, e2, Array.append_empty]
  by_cases h0 : L.size = 0
  · left
    have : L = #[] := Array.eq_empty_of_size_eq_zero h0
    subst this
    refine ⟨rfl, ?_⟩
    simp [choose, Sem.run, Question.forced]
  · right
    have hne : L.isEmpty = false := by simp [Array.isEmpty, h0]
    simp only [hne, Bool.false_eq_true, if_false, Array.empty_append, Array.size_map]
    have hch : ∃ (j : Nat) (w1 : World), j < L.size ∧ (w1.heap = w.heap ∧ w1.os = w.os ∧ w1.tape = w.tape ∧ w1.output = w.output) ∧ (choose (Question.mapNext L.size)).run P w = .ok j w1 := by
      by_cases hf : L.size ≤ 1
      · exact ⟨0, w, by omega, ⟨rfl, rfl, rfl, rfl⟩, by simp [choose, Sem.run, Question.forced, hf]⟩
      · exact ⟨_, w.drew, Nat.mod_lt _ (by omega), ⟨rfl, rfl, rfl, rfl⟩, by
          simp only [choose, Sem.run, Question.forced, decide_eq_true_eq, hf, if_false, Question.cut]
          rfl⟩
    obtain ⟨j, w1, hj, ⟨a1, a2, a3, a4⟩, hrun⟩ := hch
    refine ⟨j, L[j], w1, by simp [hj], a1, a2, a3, a4, ?_⟩
    have hset : ∀ (o' : Obj), (setObj r o').run P w1 = .ok () { w1 with heap := w1.heap.setIfInBounds r o' } := fun o' => by
      simp only [setObj, Sem.run, a1, hr]
    simp only [hrun, Array.getElem?_map, Array.getElem?_eq_getElem hj, Option.map_some, Sem.run_bind, hset, Result.andThen_ok]
    rfl

theorem nx_sound (hrel : Rel E ρ s w) {b : Bool} {x : Operand} {y : AOpd} {ev : Ev} {ty : TypeId} (hev : EvR E.σ ρ X ctx scr f.env e) (hx : X.opd ctx x y = true) :
    Eff E P ρ s w (do pure (.value (← Instr.next (e x) b ty))) f (eNx b y ev scr f s) := by
  unfold eNx
  split
  · rename_i a ha
    have hA := hev x y _ hx ha
    simp only [VR] at hA
    obtain ⟨L, hL, hex⟩ := hA
    simp only [Nat.add_zero] at hex
    have stays : ∀ {v : AV} {cv : Value}, (Instr.next (e x) b ty).run P w = .ok cv w → VR E.σ ρ v cv →
        EffR E P ρ s w (do pure (.value (← Instr.next (e x) b ty))) f (.v v f s) := fun hrun hv =>
      ⟨rfl, ρ, w, .value _, _, by simp [hrun], .inl rfl, hrel, .refl _ _ _, hv⟩
    split
    · rename_i l pos hg
      obtain ⟨L', hL', hb, hs, hd0⟩ := hrel.obj _ _ (St.get_of_h hg)
      rw [hL] at hL'
      cases hL'
      have hex' : e x = .pointer (some ⟨L.b, 0, none⟩) := by rw [hex, hd0]
      have hlt : L.b < w.heap.size := (Array.getElem?_eq_some_iff.1 hb).1
      split
      · rename_i hstr
        subst hstr
        split
        · rename_i c hc
          split
          · rename_i hc128
            refine ⟨_, List.mem_singleton.2 rfl, rfl, ρ, ?_⟩
            have hc' := hc
            rw [nth_eq] at hc'
            obtain ⟨hpos, hcv⟩ := List.getElem?_eq_some_iff.1 hc'
            have hsz : pos < (bytesOf l).size := by rw [bytesOf_size]; exact hpos
            have hbyte : ((bytesOf l)[pos]'hsz).toNat = c := by
              have h2 : (bytesOf l).data[pos]? = some (UInt8.ofNat c) := by simp [bytesOf, hc']
              obtain ⟨_, h3⟩ := Array.getElem?_eq_some_iff.1 h2
              have : (bytesOf l)[pos]'hsz = UInt8.ofNat c := h3
              rw [this]
              simp
              omega
            have hdec := decode_ascii (bytesOf l) pos hsz (by omega)
            rw [hbyte] at hdec
            obtain ⟨r1, r2⟩ := putObj_rel (ob := .stringIter (bytesOf l) (pos + 1)) (o' := .ti l (pos + 1)) hrel hg hL hlt (fun w' hw' => ⟨hw', hs, hd0⟩)
            refine ⟨_, .value (.tuple #[.bool true, .int .i64 pos, .int .i32 c]), _, ?_, .inl rfl, r1, r2, ?_⟩
            · rw [hex']
              simp only [Instr.next, getObj, setObj, Sem.run_bind, Sem.run, hb, Result.andThen_ok, hsz, if_true, hdec, goInt, Sem.run_pure]
            · simp only [VR]
              exact ⟨[.bool true, .int .i64 pos, .int .i32 c], VRs.cons (by simp only [VR]) (VRs.cons (by simp only [VR]; rfl) (VRs.one (by simp only [VR]; rfl))), rfl⟩
          · exact Eff.bad
        · rename_i hn
          refine ⟨_, List.mem_singleton.2 rfl, stays ?_ over_sound⟩
          rw [nth_eq] at hn
          have hge := List.getElem?_eq_none_iff.1 hn
          have hsz : ¬ pos < (bytesOf l).size := by rw [bytesOf_size]; omega
          rw [hex']
          simp only [Instr.next, getObj, Sem.run_bind, Sem.run, hb, Result.andThen_ok, hsz, if_false]
          rfl
      · exact Eff.bad
    · rename_i since seen last hg
      obtain ⟨L', hL', hd0, m', hb, hm'⟩ := hrel.obj _ _ (St.get_of_h hg)
      simp only at hm'
      subst hm'
      rw [hL] at hL'
      cases hL'
      split
      · exact Eff.bad
      · rename_i hstr
        simp only [Bool.not_eq_true] at hstr
        subst hstr
        refine ⟨_, List.mem_singleton.2 rfl, stays ?_ over_sound⟩
        rw [hex, hd0]
        simp only [Instr.next, getObj, Sem.run_bind, Sem.run, hb, Result.andThen_ok]
        rfl
    · rename_i m since seen last hg
      obtain ⟨L', hL', hd0, m', hb, L2, hL2, rfl⟩ := hrel.obj _ _ (St.get_of_h hg)
      rw [hL] at hL'
      cases hL'
      have hlt : L.b < w.heap.size := (Array.getElem?_eq_some_iff.1 hb).1
      split
      · exact Eff.bad
      · rename_i hstr
        simp only [Bool.not_eq_true] at hstr
        subst hstr
        split
        · rename_i es clock hgm
          obtain ⟨L3, ces, hL3, hbm, hF⟩ := map_obj hrel hgm
          rw [hL2] at hL3
          cases hL3
          split
          · rename_i hc
            simp only [Bool.and_eq_true, beq_iff_eq] at hc
            obtain ⟨⟨rfl, rfl⟩, hall⟩ := hc
            have hleft := left_sound seen hF
            have hlts := allLt_sound hF hall
            have hseen : (fun (e : MapEntry) => !seen.toArray.contains e.born) = (fun e => !seen.contains e.born) := by funext e; simp
            have key := run_nextMap (P := P) hb hbm hlts ty
            rw [hseen] at key
            have hex' : e x = .pointer (some ⟨L.b, 0, none⟩) := by rw [hex, hd0]
            rcases key with ⟨hnil, hrun⟩ | ⟨j, en, w1, hj, a1, a2, a3, a4, hrun⟩
            · rw [hnil] at hleft
              have hl0 : left seen es = [] := by
                have := hleft.length
                simp at this
                exact List.eq_nil_of_length_eq_zero this.symm
              rw [hl0]
              exact ⟨_, List.mem_singleton.2 rfl, stays (by rw [hex']; exact hrun) over_sound⟩
            · obtain ⟨x', hx', hxr⟩ := hleft.get' hj
              have hmem := nextOuts_mem a m last last seen f s (List.mem_of_getElem? hx')
              have hout : EffR E P ρ s w (do pure (.value (← Instr.next (e x) false ty))) f
                  (.v (.tu [.b true, x'.1, x'.2.1]) f (setH s a (.mi (some m) last (seen ++ [x'.2.2]) last))) := by
                have hob : (seen ++ [x'.2.2]).toArray = seen.toArray.push en.born := by rw [hxr.2.2]; simp
                obtain ⟨r1, r2⟩ := hrel.set (w' := { w1 with heap := w1.heap.setIfInBounds L.b (.mapIter (some L2.b) last (seen.toArray.push en.born) last) })
                  (o' := .mi (some m) last (seen ++ [x'.2.2]) last) hg hL (by simp [a1]) (fun b hb => by simp only [a1, Array.getElem?_setIfInBounds]; rw [if_neg (by omega)]) a2 a3 a4
                  ⟨hd0, some L2.b, by rw [hob]; simp [a1, hlt], L2, hL2, rfl⟩
                refine ⟨rfl, ρ, _, .value _, _, by rw [hex', Sem.run_bind, hrun]; rfl, .inl rfl, r1, r2, ?_⟩
                simp only [VR]
                exact ⟨[.bool true, en.key, en.val], VRs.cons (by simp only [VR]) (VRs.cons hxr.1 (VRs.one hxr.2.1)), rfl⟩
              split
              · rename_i hl0
                rw [hl0] at hx'
                simp at hx'
              · exact ⟨_, hmem, hout⟩
          · exact Eff.bad
        · exact Eff.bad
    · exact Eff.bad
  · exact Eff.bad

theorem pan_sound {x : Operand} {y : AOpd} {ev : Ev} (hev : EvR E.σ ρ X ctx scr f.env e) (hx : X.opd ctx x y = true) :
    Eff E P ρ s w (do pure (.value (← Instr.panic (e x)))) f (ePan y ev scr f s) := by
  unfold ePan
  split
  · rename_i t v hv
    have := hev x y _ hx hv
    refine ⟨_, List.mem_singleton.2 rfl, rfl, rfl, e x, ?_, this⟩
    simp only [VR] at this
    obtain ⟨v', _, hex⟩ := this
    simp [Instr.panic, hex]
  · exact Eff.bad

theorem clone_extern {fn : Func} (h1 : fn.name = "maps.clone") (h2 : fn.origin = "") : Extern.findNext fn = none ∧ Extern.find fn = some Extern.MapsClone.clone := by
  constructor
  · unfold Extern.findNext
    rw [h1, h2]
    have a : Extern.allNextRows.lookup "maps.clone" = none := by kernel_rfl
    have b : Extern.allNextRows.lookup "" = none := by kernel_rfl
    simp [a, b]
  · unfold Extern.find
    rw [h1]
    have a : Extern.allGenericRows.lookup "maps.clone" = none := by kernel_rfl
    have b : Extern.allTypedRows.lookup "maps.clone" = none := by kernel_rfl
    have c : Extern.allRows.lookup "maps.clone" = some Extern.MapsClone.clone := by kernel_rfl
    simp [a, b, c]

theorem run_mapsClone {t : TypeId} {r clock : Nat} {es : Array MapEntry} (hb : w.heap[r]? = some (.map es clock)) :
    (Extern.MapsClone.clone #[.iface t (.map (some r))]).run P w = .ok (.iface t (.map (some w.heap.size))) (w.alloc (.map es clock)) := by
  have e : Extern.MapsClone.clone #[.iface t (.map (some r))] = (getObj r >>= fun o => match o with
      | .map entries clock => (do pure (.iface t (.map (some (← newObj (.map entries clock))))) : Sem Value)
      | _ => stuck "maps.clone: a map expected") := rfl
  rw [e]
  simp [MapKept.run_getObj_map hb]

theorem clone_sound (hrel : Rel E ρ s w) {g : FuncId} {fn : Func} {x : Operand} {y : AOpd} {ev : Ev} (hev : EvR E.σ ρ X ctx scr f.env e) (hx : X.opd ctx x y = true) (hf : P.funcs[g]? = some fn)
    (hn : fn.name = "maps.clone") (ho : fn.origin = "") (hb : fn.body.isNone = true) : Eff E P ρ s w (callFunc g #[e x]) f (eClone y ev scr f s) := by
  unfold eClone
  split
  · rename_i t a hv
    split
    · rename_i es c hg
      obtain ⟨L, ces, hL, hbm, hF⟩ := map_obj hrel hg
      have hA := hev x y _ hx hv
      simp only [VR] at hA
      obtain ⟨x', ⟨L', hL', rfl⟩, hex⟩ := hA
      rw [hL] at hL'
      cases hL'
      obtain ⟨hfn, hfe⟩ := clone_extern hn ho
      obtain ⟨r1, r2⟩ := hrel.new (w' := w.alloc (.map ces c)) (L := ⟨w.heap.size, 0, 0⟩) (o := .m es c) rfl (by simp) (fun b hb => Go.RowKit.Below.heap_alloc w _ b hb) rfl rfl rfl
        ⟨ces, by show (w.heap.push _)[w.heap.size]? = _; simp, hF.imp fun a b ⟨p, q, r⟩ => ⟨VR.mono (Rho.add_le hrel.nx) _ _ p, VR.mono (Rho.add_le hrel.nx) _ _ q, r⟩⟩
      refine ⟨_, List.mem_singleton.2 rfl, rfl, _, _, .value (.iface t (.map (some w.heap.size))), _, ?_, .inl rfl, r1, r2, ?_⟩
      · rw [run_callFunc_extern hf (by rw [hn]; rfl) hb hfn hfe, hex, run_mapsClone hbm]
        rfl
      · simp only [VR]
        exact ⟨_, ⟨_, Rho.add_self, rfl⟩, rfl⟩
    · exact Eff.bad
  · exact Eff.bad
end
end Go.Ex
/- Effects: append. -/
namespace Go.Ex
section
variable {ρ : Rho} {X : Cx} {P : Program} {ctx : List (Option Nat)} {scr : List AV} {env : Tr AV} {e : Operand → Value} {E : Env} {s : St} {w : World} {f : Fr}

/-- a block goes over to a new number -/
theorem Rel.renew (h : Rel E ρ s w) {a : Bn} {o o' : AO} {L : Loc} {w' : World} (ha : s.h.get a = some o) (hL : ρ a = some L)
    (hsz : w'.heap.size = w.heap.size) (hsame : ∀ b, b ≠ L.b → w'.heap[b]? = w.heap[b]?) (h1 : w'.os = w.os) (h2 : w'.tape = w.tape) (h3 : w'.output = w.output)
    (ho : OR E (ρ.add s.nx L) o' L w') : Rel E (ρ.add s.nx L) (newH (killH s a) o') w' ∧ Ext s ρ w (newH (killH s a) o') (ρ.add s.nx L) w' := by
  have hle := Rho.add_le (L := L) h.nx
  have hlow := h.sep _ _ ha
  have hga := St.get_of_h ha
  have hnx : (killH s a).nx = s.nx := rfl
  have other : ∀ b q, (newH (killH s a) o').get b = some q → b ≠ s.nx → b ≠ a ∧ s.get b = some q := by
    intro b q hb hne
    rw [St.get_newH, hnx, if_neg hne] at hb
    exact St.get_killH hb hlow
  have hadd : ∀ b, b ≠ s.nx → (ρ.add s.nx L) b = ρ b := fun b hb => by unfold Rho.add; rw [if_neg hb]
  refine ⟨⟨?_, ?_, ?_, ?_, ?_⟩, ⟨hle, rfl, h1, h2, h3, by omega, ?_, ?_, fun a ha => Rho.add_old ha, by simp only [newH, killH, Bn.val_succ]; omega⟩⟩
  · intro b hb
    simp only [newH, hnx, Bn.val_succ] at hb
    rw [hadd b (fun e => by subst e; omega)]
    exact h.fresh b (by omega)
  · intro b q hb
    by_cases hne : b = s.nx
    · subst hne
      rw [St.get_newH, hnx, if_pos rfl] at hb
      simp only [Option.some.injEq] at hb
      subst hb
      exact ⟨L, Rho.add_self, ho⟩
    · obtain ⟨hba, hbg⟩ := other b q hb hne
      obtain ⟨M, hM, hO⟩ := h.obj b q hbg
      exact ⟨M, hle _ _ hM, hO.mono hle (hsame _ (h.live_ne hbg hga hM hL hba))⟩
  · intro b b' q q' M M' hb hb' hM hM' e
    by_cases e1 : b = s.nx <;> by_cases e2 : b' = s.nx
    · rw [e1, e2]
    · subst e1
      rw [Rho.add_self] at hM
      cases hM
      obtain ⟨hba, hbg⟩ := other b' q' hb' e2
      rw [hadd b' e2] at hM'
      exact absurd e.symm (h.live_ne hbg hga hM' hL hba)
    · subst e2
      rw [Rho.add_self] at hM'
      cases hM'
      obtain ⟨hba, hbg⟩ := other b q hb e1
      rw [hadd b e1] at hM
      exact absurd e (h.live_ne hbg hga hM hL hba)
    · rw [hadd b e1] at hM
      rw [hadd b' e2] at hM'
      exact h.inj b b' q q' M M' (other b q hb e1).2 (other b' q' hb' e2).2 hM hM' e
  · intro b hg hc
    obtain ⟨t, ht⟩ := h.glob b hg hc
    exact ⟨t, hle _ _ ht⟩
  · intro b q hq
    simp only [newH, killH, Tr.get_set] at hq
    split at hq
    · rename_i e; subst e
      have := h.nx_dead
      unfold St.get at this
      split at this
      · cases this
      · exact this
    · split at hq
      · cases hq
      · exact h.sep b q hq
  · intro b hb hn
    exact hsame b fun e => hn ⟨a, o, L, ha, hL, e.symm⟩
  · rintro b hb ⟨a', q, M, hq, hM, rfl⟩
    simp only [newH, killH, Tr.get_set] at hq
    split at hq
    · rename_i e
      subst e
      rw [Rho.add_self] at hM
      cases hM
      exact ⟨a, o, _, ha, hL, rfl⟩
    · rename_i hne
      split at hq
      · cases hq
      · rw [hadd a' hne] at hM
        exact ⟨a', q, M, hq, hM, rfl⟩

/-- what an append is given -/
structure AppIn (P : Program) (w : World) (t u el : Nat) (i : TypeInfo) (z : Value) (sz n : Nat) (cx : Value) (cnew : List Value) : Prop where
  ht : P.underlying t = some (.slice el)
  hu : ∃ d, P.underlying u = some d ∧ (∀ k, d ≠ .int k)
  hi : P.info? el = some i
  hz : i.zero = some z
  size : i.size = sz
  pos : 0 < sz
  zsize : z.cells.size = sz
  bytes : i.bytes ≤ 1048576
  len : ∀ w1, (Builtin.lenOf cx).run P w1 = .ok n w1
  cells : ∀ w1 : World, w1.heap = w.heap → (Builtin.firstCells sz n cx).run P w1 = .ok cnew.toArray w1
  count : cnew.length = n * sz

theorem run_app_fits {t u el ty sz n : Nat} {i : TypeInfo} {z cx : Value} {cnew : List Value} (H : AppIn P w t u el i z sz n cx cnew) {base : Option Addr} {k kc : Nat} (hfit : k + n ≤ kc) {w' : World}
    (hst : ∀ a, base = some a → (storeCells (a.add (k * sz)) cnew).run P w = .ok () w') (hno : base = none → w' = w) :
    (Builtin.append_ #[t, u] ty #[.slice base k kc, cx]).run P w = .ok (.slice base (k + n) kc) w' := by
  obtain ⟨d, hud, hni⟩ := H.hu
  have hz : (match d with | .int _ => true | _ => false) = false := by cases d <;> first | rfl | exact absurd rfl (hni _)
  have hlen := H.len w
  have hcells := H.cells w rfl
  cases base with
  | none =>
    have := hno rfl
    subst this
    simp [Builtin.append_, run_und H.ht, run_und hud, run_sizeOf' H.hi, H.size, hlen, hfit, hcells]
  | some a =>
    have := hst a rfl
    simp [Builtin.append_, run_und H.ht, run_und hud, run_sizeOf' H.hi, H.size, hlen, hfit, hcells, this]

theorem run_app_grow {t u el ty sz n : Nat} {i : TypeInfo} {z cx : Value} {cnew : List Value} (H : AppIn P w t u el i z sz n cx cnew) {base : Option Addr} {k kc : Nat} (hlt : kc < k + n) (hle : k + n ≤ 65536)
    {old : List Value} (hold : ∀ w1 : World, w1.heap = w.heap → (Builtin.firstCells sz k (.slice base k kc)).run P w1 = .ok old.toArray w1) (hol : old.length = k * sz) :
    ∃ (nc : Nat) (w1 : World) (rest : List Value), k + n ≤ nc ∧ w1.heap = w.heap ∧ w1.os = w.os ∧ w1.tape = w.tape ∧ w1.output = w.output ∧ (old ++ cnew ++ rest).length = nc * sz ∧
      (Builtin.append_ #[t, u] ty #[.slice base k kc, cx]).run P w = .ok (.slice (some ⟨w.heap.size, 0, none⟩) (k + n) nc) (w1.alloc (.cells (old ++ cnew ++ rest).toArray el)) := by
  obtain ⟨d, hud, hni⟩ := H.hu
  have hz : (match d with | .int _ => true | _ => false) = false := by cases d <;> first | rfl | exact absurd rfl (hni _)
  refine ⟨grownCap w (k + n) kc el, w.drew, (Builtin.zeroCells z.cells (grownCap w (k + n) kc el - (k + n))).toList, ?_, rfl, rfl, rfl, rfl, ?_, ?_⟩
  · simp [grownCap, Question.cut]
  · have hge : k + n ≤ grownCap w (k + n) kc el := by simp [grownCap, Question.cut]
    have hzc : (Builtin.zeroCells z.cells (grownCap w (k + n) kc el - (k + n))).size = (grownCap w (k + n) kc el - (k + n)) * sz := by simp [Builtin.zeroCells, H.zsize]
    simp only [List.length_append, hol, H.count, Array.length_toList, hzc, ← Nat.add_mul]
    congr 1
    omega
  · have hlen := H.len w
    have hn : ¬ (k + n ≤ kc) := by omega
    have h63 : ¬ (9223372036854775807 < ((k : Int) + (n : Int))) := by omega
    have h48 : ¬ (281474976710656 < Builtin.nextslicecap (k + n) kc * i.bytes) := by
      have h1 := nextslicecap_le hlt
      have h2 := Nat.mul_le_mul (show Builtin.nextslicecap (k + n) kc ≤ 131072 by omega) H.bytes
      omega
    have hf := H.cells w.drew rfl
    have hfo := hold w.drew rfl
    simp [Builtin.append_, run_und H.ht, run_und hud, run_sizeOf' H.hi, run_typeInfo' H.hi, run_zeroValue' H.hi H.hz, H.size, hlen, hn, h63, h48, Question.forced, hf, hfo, newRow, grownCap]
    congr 2
    apply Array.ext'
    simp

theorem RowR.pre {σ : Sig} {ρ : Rho} {l : List AV} {c rest : List Value} (h : VRs σ ρ l c) : RowR σ ρ l (c ++ rest).toArray 0 := by
  intro i x hx
  obtain ⟨y, hy, hv⟩ := h.nth hx
  refine ⟨y, ?_, hv⟩
  simp only [Nat.zero_add, List.getElem?_toArray]
  rw [List.getElem?_append_left (List.getElem?_eq_some_iff.1 hy).1]
  exact hy

theorem app_core (hrel : Rel E ρ s w) {t u el ty sz n : Nat} {i : TypeInfo} {z cv cx : Value} {cnew : List Value} {v : AV} {new : List AV} (H : AppIn P w t u el i z sz n cx cnew)
    (hv : VR E.σ ρ v cv) (hnew : VRs E.σ ρ new cnew) : Eff E P ρ s w (do pure (.value (← Builtin.append_ #[t, u] ty #[cv, cx]))) f (appA sz v n new f s) := by
  have hsz := H.pos
  -- a block of its own
  have grows : ∀ {ρ0 : Rho} {s0 : St} (hr0 : Rel E ρ0 s0 w) (he0 : Ext s ρ w s0 ρ0 w) {base : Option Addr} {k kc : Nat} {old : List AV} {cold : List Value}, cv = .slice base k kc → kc < k + n → k + n ≤ 65536 →
      (∀ w1 : World, w1.heap = w.heap → (Builtin.firstCells sz k (.slice base k kc)).run P w1 = .ok cold.toArray w1) → VRs E.σ ρ0 old cold → cold.length = k * sz → VRs E.σ ρ0 new cnew →
      EffR E P ρ s w (do pure (.value (← Builtin.append_ #[t, u] ty #[cv, cx]))) f (.v (.sl s0.nx 0 (k + n) (k + n) false sz) f (newH s0 (.c (old ++ new)))) := by
    intro ρ0 s0 hr0 he0 base k kc old cold hcv hlt hle hold hvo hol hvn
    subst hcv
    obtain ⟨nc, w1, rest, hge, a1, a2, a3, a4, hlen, hrun⟩ := run_app_grow (ty := ty) H hlt hle hold hol
    obtain ⟨r1, r2⟩ := hr0.new (w' := w1.alloc (.cells (cold ++ cnew ++ rest).toArray el)) (L := ⟨w.heap.size, 0, nc * sz⟩) (o := .c (old ++ new)) rfl (by simp [a1])
      (fun b hb => by rw [Go.RowKit.Below.heap_alloc w1 _ b (by rw [a1]; exact hb), a1]) a2 a3 a4
      ⟨(cold ++ cnew ++ rest).toArray, el, by show (w1.heap.push _)[w.heap.size]? = _; simp [a1], by simpa using hlen,
        RowR.pre ((hvo.append hvn).mono (Rho.add_le hr0.nx))⟩
    refine ⟨rfl, _, _, .value _, _, by rw [Sem.run_bind, hrun]; rfl, .inl rfl, r1, he0.trans r2, ?_⟩
    simp only [VR]
    refine ⟨_, nc, Rho.add_self, rfl, Nat.le_refl _, hge, fun h => (by cases h), by simp⟩
  unfold appA
  split
  · simp only [VR] at hv
    subst hv
    split
    · refine ⟨_, List.mem_singleton.2 rfl, rfl, ρ, w, .value (.slice none 0 0), .slice none 0 0, ?_, .inl rfl, hrel, .refl _ _ _, by simp only [VR]⟩
      rw [Sem.run_bind, run_app_fits (ty := ty) H (base := none) (k := 0) (kc := 0) (w' := w) (by omega) (fun a h => by cases h) (fun _ => rfl)]
      rfl
    · rename_i hne
      have hpos : 0 < n := Nat.pos_of_ne_zero hne
      split
      · rename_i hle
        have := grows hrel (.refl _ _ _) (base := none) (k := 0) (kc := 0) (old := []) (cold := []) rfl (by omega) (by omega) (fun w1 _ => by simp [Builtin.firstCells]) VRs.nil (by simp) hnew
        simp only [Nat.zero_add, List.nil_append] at this
        exact ⟨_, List.mem_singleton.2 rfl, this⟩
      · exact Eff.bad
  · rename_i a o k c ex zz
    split
    · rename_i hc
      simp only [Bool.and_eq_true, beq_iff_eq, decide_eq_true_eq] at hc
      obtain ⟨rfl, hle⟩ := hc
      have hv' := hv
      simp only [VR] at hv
      obtain ⟨L, kc, hL, rfl, hkc, hckc, hex, hroom⟩ := hv
      split
      · rename_i hfit
        split
        · refine ⟨_, List.mem_singleton.2 rfl, rfl, ρ, w, .value _, _, ?_, .inl rfl, hrel, .refl _ _ _, hv'⟩
          have hnil : cnew = [] := by have := H.count; simp at this; exact this
          rw [Sem.run_bind, run_app_fits (ty := ty) H (w' := w) (by omega) (fun a _ => by rw [hnil]; simp [storeCells]) (fun _ => rfl)]
          rfl
        · split
          · rename_i hones
            split
            · rename_i l hg
              split
              · rename_i l' hp
                refine ⟨_, List.mem_singleton.2 rfl, rfl, ρ, ?_⟩
                obtain ⟨L', w', hL', hrun, r1, r2, _⟩ := write_sound (P := P) hrel hg hnew hones hp
                rw [hL] at hL'
                cases hL'
                refine ⟨w', .value (.slice (some ⟨L.b, L.d + o, none⟩) (k + n) kc), .slice (some ⟨L.b, L.d + o, none⟩) (k + n) kc, ?_, .inl rfl, r1, r2, ?_⟩
                · rw [Sem.run_bind, run_app_fits (ty := ty) H (w' := w') (by omega) (fun a ha => by
                    simp only [Option.some.injEq] at ha
                    subst ha
                    rw [addr_add, Nat.add_assoc]
                    exact hrun) (fun h => by cases h)]
                  rfl
                · simp only [VR]
                  exact ⟨L, kc, hL, rfl, hfit, hckc, hex, hroom⟩
              · exact Eff.bad
            · exact Eff.bad
          · exact Eff.bad
      · rename_i hfit
        have reads : ∀ {l old : List AV}, rowOf s a = some l → cut l o (k * zz) = some old → ∃ cold, VRs E.σ ρ old cold ∧ cold.length = k * zz ∧
            ∀ w1 : World, w1.heap = w.heap → (Builtin.firstCells zz k (.slice (some ⟨L.b, L.d + o, none⟩) k kc)).run P w1 = .ok cold.toArray w1 := by
          intro l old hl hcut
          obtain ⟨L', cs, el', fr, hL', hb, hrow⟩ := rowOf_sound hrel hl
          rw [hL] at hL'
          cases hL'
          obtain ⟨c', h1, h2, h3⟩ := hrow.cut hcut
          refine ⟨c', h1, h2, fun w1 hw1 => ?_⟩
          simp only [Builtin.firstCells]
          rw [← h2]
          exact run_cells (by rw [hw1]; exact hb) h3
        split
        · rename_i hx
          have hkeq := hex hx
          subst hkeq
          split
          · rename_i l hl
            split
            · rename_i old hcut
              obtain ⟨cold, h1, h2, h3⟩ := reads hl hcut
              exact ⟨_, List.mem_singleton.2 rfl, grows hrel (.refl _ _ _) rfl (by omega) hle h3 h1 h2 hnew⟩
            · exact Eff.bad
          · exact Eff.bad
        · split
          · rename_i ho
            simp only [Bool.and_eq_true, beq_iff_eq] at ho
            obtain ⟨rfl, hones⟩ := ho
            split
            · rename_i l hg
              split
              · rename_i old hcut
                have hl : rowOf s a = some l := by unfold rowOf; rw [St.get_of_h hg]
                obtain ⟨cold, h1, h2, h3⟩ := reads hl hcut
                refine ⟨_, List.mem_singleton.2 rfl, ?_⟩
                by_cases hin : k + n ≤ kc
                · -- there is room
                  obtain ⟨L', hL', cs, el', hb, ht, hrow⟩ := hrel.obj _ _ (St.get_of_h hg)
                  rw [hL] at hL'
                  cases hL'
                  have hmul : (k + n) * zz ≤ kc * zz := Nat.mul_le_mul_right _ hin
                  rw [Nat.add_mul] at hmul
                  have hcnt := H.count
                  have hrun := run_storeCells_at (P := P) L.b (L.d + k * zz) el' cnew 0 cs w hb (by omega) (ones_sound hnew hones)
                  simp only [Nat.add_zero] at hrun
                  have hb' := setRow_heap w L.b cs (over cs.toList (L.d + k * zz) cnew).toArray el' (0, 0) hb
                  have hsz' : (over cs.toList (L.d + k * zz) cnew).toArray.size = L.t := by
                    rw [List.size_toArray, over_length _ _ _ (by simp; omega)]; simpa using ht
                  have hlo : old.length = k * zz := by rw [← h1.length, h2]
                  have hrow' : RowR E.σ (ρ.add s.nx L) (old ++ new) (over cs.toList (L.d + k * zz) cnew).toArray L.d := by
                    intro j x hx
                    rw [nth_eq] at hx
                    have hlt : (cs.toList.take (L.d + k * zz)).length = L.d + k * zz := by simp; omega
                    simp only [List.getElem?_toArray]
                    unfold over
                    by_cases hj : j < k * zz
                    · rw [List.getElem?_append_left (by omega)] at hx
                      have hx' : nth old j = some x := by rw [nth_eq]; exact hx
                      have := nth_cut hcut hx'
                      rw [Nat.zero_add] at this
                      obtain ⟨y, hy, hyv⟩ := hrow j x this
                      refine ⟨y, ?_, VR.mono (Rho.add_le hrel.nx) _ _ hyv⟩
                      rw [List.append_assoc, List.getElem?_append_left (by omega), List.getElem?_take, if_pos (by omega)]
                      simpa using hy
                    · rw [List.getElem?_append_right (by omega)] at hx
                      have hx' : nth new (j - old.length) = some x := by rw [nth_eq]; exact hx
                      obtain ⟨y, hy, hyv⟩ := hnew.nth hx'
                      refine ⟨y, ?_, VR.mono (Rho.add_le hrel.nx) _ _ hyv⟩
                      have hy1 := (List.getElem?_eq_some_iff.1 hy).1
                      rw [List.append_assoc, List.getElem?_append_right (by omega), hlt, List.getElem?_append_left (by omega), show L.d + j - (L.d + k * zz) = j - old.length by omega]
                      exact hy
                  obtain ⟨r1, r2⟩ := hrel.renew (w' := w.setRow L.b (over cs.toList (L.d + k * zz) cnew).toArray) (o' := .c (old ++ new)) hg hL (setRow_size _ _ _) (fun b hb => setRow_other _ _ _ hb) rfl rfl rfl
                    ⟨_, el', hb', hsz', hrow'⟩
                  refine ⟨rfl, _, _, .value (.slice (some ⟨L.b, L.d + 0, none⟩) (k + n) kc), .slice (some ⟨L.b, L.d + 0, none⟩) (k + n) kc, ?_, .inl rfl, r1, r2, ?_⟩
                  · rw [Sem.run_bind, run_app_fits (ty := ty) H (w' := w.setRow L.b (over cs.toList (L.d + k * zz) cnew).toArray) hin (fun a ha => by
                      simp only [Option.some.injEq] at ha
                      subst ha
                      rw [addr_add, Nat.add_zero]
                      exact hrun) (fun h => by cases h)]
                    rfl
                  · simp only [VR]
                    exact ⟨L, kc, Rho.add_self, rfl, Nat.le_refl _, hin, fun h => (by cases h), hroom⟩
                · obtain ⟨k1, k2⟩ := hrel.kill hg
                  exact grows k1 k2 rfl (by omega) hle h3 h1 h2 hnew
              · exact Eff.bad
            · exact Eff.bad
          · exact Eff.bad
    · exact Eff.bad
  · exact Eff.bad
end
end Go.Ex
/- Effects: the appends of the text. -/
namespace Go.Ex
section
variable {ρ : Rho} {X : Cx} {P : Program} {ctx : List (Option Nat)} {scr : List AV} {env : Tr AV} {e : Operand → Value} {E : Env} {s : St} {w : World} {f : Fr}

theorem src_sound (hrel : Rel E ρ s w) {sz n : Nat} {y : AV} {cy : Value} {new : List AV} (hv : VR E.σ ρ y cy) (hs : srcCells s sz y = some new) (hn : lenA y = some n) :
    ∃ cnew, VRs E.σ ρ new cnew ∧ cnew.length = n * sz ∧ (∀ w1, (Builtin.lenOf cy).run P w1 = .ok n w1) ∧
      ∀ w1 : World, w1.heap = w.heap → (Builtin.firstCells sz n cy).run P w1 = .ok cnew.toArray w1 := by
  unfold srcCells at hs
  split at hs
  · simp only [Option.some.injEq] at hs
    simp only [lenA, Option.some.injEq] at hn
    simp only [VR] at hv
    subst hs; subst hn; subst hv
    exact ⟨[], VRs.nil, by simp, fun w1 => by simp [Builtin.lenOf], fun w1 _ => by simp [Builtin.firstCells]⟩
  · simp only [Option.some.injEq] at hs
    simp only [lenA, Option.some.injEq] at hn
    simp only [VR] at hv
    subst hs; subst hn
    obtain ⟨a, k, rfl⟩ := hv
    exact ⟨[], VRs.nil, by simp, fun w1 => by simp [Builtin.lenOf], fun w1 _ => by simp [Builtin.firstCells, loadCells, loadCellsFrom]⟩
  · rename_i a o m c ex z
    split at hs
    · rename_i hz
      simp only [beq_iff_eq] at hz
      subst hz
      split at hs
      · rename_i l hl
        simp only [lenA, Option.some.injEq] at hn
        simp only [VR] at hv
        subst hn
        obtain ⟨L, kc, hL, rfl, _⟩ := hv
        obtain ⟨L', cs, el', fr, hL', hb, hrow⟩ := rowOf_sound hrel hl
        rw [hL] at hL'
        cases hL'
        obtain ⟨c', h1, h2, h3⟩ := hrow.cut hs
        refine ⟨c', h1, h2, fun w1 => by simp [Builtin.lenOf], fun w1 hw1 => ?_⟩
        simp only [Builtin.firstCells]
        rw [← h2]
        exact run_cells (by rw [hw1]; exact hb) h3
      · cases hs
    · cases hs
  · cases hs

theorem zeroLen_spec (hty : TyOk P X.ty) {t : Nat} {re : Row} (h : X.ty t = some re) (hz : re.zeroLen = true) :
    ∃ i z, P.info? t = some i ∧ i.zero = some z ∧ z.cells.size = re.size ∧ i.size = re.size ∧ i.bytes = re.bytes := by
  obtain ⟨i, _, hi, _, _, hsz, hby, ⟨z, hiz, hc⟩, _⟩ := row_spec (hty t re h)
  unfold Row.zeroLen at hz
  split at hz
  · rename_i l hl
    have := ((constOk_sound (fun _ => none) (fun _ => none) _ _ hc).cells hl).length
    simp only [Nat.beq_eq] at hz
    exact ⟨i, z, hi, hiz, by simp at this; omega, hsz, hby⟩
  · cases hz

theorem app_sound (hty : TyOk P X.ty) (hrel : Rel E ρ s w) {t u ty sz : Nat} {x y : Operand} {x' y' : AOpd} {ev : Ev} (hev : EvR E.σ ρ X ctx scr f.env e)
    (ht : (match X.ty t with
          | none => false
          | some r => match r.td with
            | .sli e => X.sizeIs e sz && (match X.ty e with | some re => Nat.ble re.bytes 1048576 && Nat.blt 0 re.bytes && Nat.blt 0 re.size && re.zeroLen | none => false)
            | _ => false) = true) (hu : (X.tdIs u fun d => match d with | .sli _ => true | _ => false) = true) (hx : X.opd ctx x x' = true) (hy : X.opd ctx y y' = true) :
    Eff E P ρ s w (do pure (.value (← Builtin.append_ #[t, u] ty #[e x, e y]))) f (eApp sz x' y' ev scr f s) := by
  obtain ⟨_, el, _, _, hd, hf⟩ := sli_sound (f := fun e => X.sizeIs e sz && (match X.ty e with | some re => Nat.ble re.bytes 1048576 && Nat.blt 0 re.bytes && Nat.blt 0 re.size && re.zeroLen | none => false)) hty ht
  simp only [Bool.and_eq_true] at hf
  obtain ⟨h1, h2⟩ := hf
  obtain ⟨re, hre, hse, i, hi, his⟩ := sizeIs_spec hty h1
  rw [hre] at h2
  simp only [Bool.and_eq_true, Nat.ble_eq, Nat.blt_eq] at h2
  obtain ⟨⟨⟨a1, a2⟩, a3⟩, a4⟩ := h2
  obtain ⟨i', z, hi', hiz, hzs, hsz, hby⟩ := zeroLen_spec hty hre a4
  rw [hi] at hi'
  cases hi'
  obtain ⟨_, du, _, hdu, htdu, hfu⟩ := tdIs_spec hty hu
  unfold eApp
  split
  · rename_i v hv
    split
    · rename_i yv hyv
      split
      · rename_i new hs
        split
        · rename_i n hn
          obtain ⟨cnew, b1, b2, b3, b4⟩ := src_sound (P := P) hrel (hev y y' yv hy hyv) hs hn
          refine app_core hrel (i := i) (z := z) (cnew := cnew) ⟨hd, ⟨du, hdu, fun k hk => ?_⟩, hi, hiz, by omega, by omega, by omega, by omega, b3, b4, b2⟩ (hev x x' v hx hv) b1
          subst hk
          rw [← htdu] at hfu
          simp [tdOf] at hfu
        · exact Eff.bad
      · exact Eff.bad
    · exact Eff.bad
  · exact Eff.bad

theorem bytes_sound {σ : Sig} {ρ : Rho} : ∀ {l : List Nat}, small l = true → VRs σ ρ (byteCells l) (l.map fun (c : Nat) => Value.int .u8 c)
  | [], _ => VRs.nil
  | c :: l, h => by
    simp only [small, Bool.and_eq_true] at h
    exact VRs.cons (by simp only [VR]; rfl) (bytes_sound h.2)

theorem appT_sound (hty : TyOk P X.ty) (hrel : Rel E ρ s w) {t u ty : Nat} {x y : Operand} {x' y' : AOpd} {ev : Ev} (hev : EvR E.σ ρ X ctx scr f.env e)
    (ht : (match X.ty t with
          | none => false
          | some r => match r.td with
            | .sli e => X.sizeIs e 1 && (match X.ty e with | some re => Nat.ble re.bytes 1048576 && Nat.blt 0 re.bytes && re.zeroLen | none => false)
            | _ => false) = true) (hu : (X.tdIs u fun d => decide (d = .str)) = true) (hx : X.opd ctx x x' = true) (hy : X.opd ctx y y' = true) :
    Eff E P ρ s w (do pure (.value (← Builtin.append_ #[t, u] ty #[e x, e y]))) f (eAppT x' y' ev scr f s) := by
  obtain ⟨_, el, _, _, hd, hf⟩ := sli_sound (f := fun e => X.sizeIs e 1 && (match X.ty e with | some re => Nat.ble re.bytes 1048576 && Nat.blt 0 re.bytes && re.zeroLen | none => false)) hty ht
  simp only [Bool.and_eq_true] at hf
  obtain ⟨h1, h2⟩ := hf
  obtain ⟨re, hre, hse, i, hi, his⟩ := sizeIs_spec hty h1
  rw [hre] at h2
  simp only [Bool.and_eq_true, Nat.ble_eq, Nat.blt_eq] at h2
  obtain ⟨⟨a1, a2⟩, a4⟩ := h2
  obtain ⟨i', z, hi', hiz, hzs, hsz, hby⟩ := zeroLen_spec hty hre a4
  rw [hi] at hi'
  cases hi'
  have hdu := str_sound hty hu
  unfold eAppT
  split
  · rename_i v hv
    split
    · rename_i l hl
      have hL := hev y y' _ hy hl
      simp only [VR] at hL
      obtain ⟨hey, hs⟩ := hL
      refine app_core hrel (i := i) (z := z) (cnew := l.map fun (c : Nat) => Value.int .u8 c) ⟨hd, ⟨_, hdu, fun k hk => by cases hk⟩, hi, hiz, by omega, by omega, by omega, by omega,
        fun w1 => by simp [Builtin.lenOf, hey, bytesOf_size], fun w1 _ => ?_, by simp⟩ (hev x x' v hx hv) (bytes_sound hs)
      rw [hey]
      simp only [Builtin.firstCells, bytesOf_extract, List.take_length, List.drop_zero, Sem.run_pure]
      congr 1
      apply Array.toList_inj.1
      simp only [bytesOf, Array.toList_map, List.map_map]
      apply List.map_congr_left
      intro c hc
      have := small_mem hs c hc
      simp
      omega
    · exact Eff.bad
  · exact Eff.bad
end
end Go.Ex
