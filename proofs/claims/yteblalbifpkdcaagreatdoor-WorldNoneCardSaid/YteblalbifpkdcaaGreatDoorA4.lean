/- How an abstract state stands to the model's world. -/
import Derived.Test.YteblalbifpkdcaaGreatDoorA3
import Derived.Below
import Derived.Laws.Cells
import Derived.Laws.BytesString
import Derived.MapKept
namespace Go.Ex

theorem Bn.val_succ : ∀ b : Bn, b.succ.val = b.val + 1
  | .e => rfl
  | .o b => by simp [Bn.succ, Bn.val]
  | .i b => by simp [Bn.succ, Bn.val, Bn.val_succ b]; omega

theorem Tr.get_lf {α : Type} (a : Bn) : (Tr.lf : Tr α).get a = none := by cases a <;> rfl

theorem Tr.get_set {α : Type} (x : Option α) : ∀ (a b : Bn) (t : Tr α), (t.set x a).get b = if b = a then x else t.get b
  | .e, b, t => by
    cases t <;> cases b <;> simp [Tr.set, Tr.get]
  | .o a, b, t => by
    cases t <;> cases b <;> simp [Tr.set, Tr.get, Tr.get_set x a]
  | .i a, b, t => by
    cases t <;> cases b <;> simp [Tr.set, Tr.get, Tr.get_set x a]

def jc : AJ → Code
  | .ex id => .exit id
  | .gt l => .goto l
  | .rt => .ret

def LsR : LS → LoopState → Prop
  | .ready, s => s = .ready
  | .busy, s => s = .busy
  | .done, s => s = .done

def EnvR (σ : Sig) (ρ : Rho) (K : Nat → Bool) (env : Tr AV) (tmps : Array Value) : Prop :=
  ∀ b v, b.can = true → env.get b = some v → K b.val = true ∧ VR σ ρ v (tmps.getD b.val undef)

/-- What all goes by: the program, the types' rows, the variables of the package level, the opaque values. -/
structure Env where
  P : Program
  ty : Ty
  gl : Nat → Bool
  σ : Sig

def LoopR (E : Env) (ρ : Rho) (st : LS) (pend : Option AJ) (env : Tr AV) (params : List Bn) (asg body : AC) (df : Bn) (lp : Loop) : Prop :=
  ∃ K N, EnvR E.σ ρ K env lp.tmps ∧ N ≤ lp.tmps.size ∧ Cx.params ⟨E.ty, E.gl, K, N⟩ lp.params.toList params = true ∧
    Cx.code ⟨E.ty, E.gl, K, N⟩ E.P lp.assign asg = true ∧ Cx.code ⟨E.ty, E.gl, K, N⟩ E.P lp.body body = true ∧
    LsR st lp.state ∧ lp.pending = pend.map jc ∧ (∃ D, ρ df = some D ∧ lp.defers = D.b) ∧ ∃ fn, E.P.funcs[lp.fn]? = some fn

def EntR (σ : Sig) (ρ : Rho) (x : AV × AV × Nat) (m : MapEntry) : Prop := VR σ ρ x.1 m.key ∧ VR σ ρ x.2.1 m.val ∧ x.2.2 = m.born

def RowR (σ : Sig) (ρ : Rho) (l : List AV) (cs : Array Value) (d : Nat) : Prop := ∀ i x, nth l i = some x → ∃ y, cs[d + i]? = some y ∧ VR σ ρ x y

def OR (E : Env) (ρ : Rho) : AO → Loc → World → Prop
  | .c l, L, w => ∃ cs e, w.heap[L.b]? = some (.cells cs e (0, 0)) ∧ cs.size = L.t ∧ RowR E.σ ρ l cs L.d
  | .ro l, L, w => ∃ cs e fr, w.heap[L.b]? = some (.cells cs e fr) ∧ RowR E.σ ρ l cs L.d
  | .m es clock, L, w => ∃ ces : Array MapEntry, w.heap[L.b]? = some (.map ces clock) ∧ F2 (EntR E.σ ρ) es ces.toList
  | .ti l pos, L, w => w.heap[L.b]? = some (.stringIter (bytesOf l) pos) ∧ small l = true ∧ L.d = 0
  | .mi m since seen last, L, w => L.d = 0 ∧ ∃ m', w.heap[L.b]? = some (.mapIter m' since seen.toArray last) ∧
      (match m with
       | none => m' = none
       | some a => ∃ L', ρ a = some L' ∧ m' = some L'.b)
  | .lp st pend env params asg body df, L, w => ∃ lp, w.heap[L.b]? = some (.loop lp) ∧ LoopR E ρ st pend env params asg body df lp
  | .df, L, w => w.heap[L.b]? = some (.deferred (some []))

theorem EnvR.mono {σ : Sig} {ρ ρ' : Rho} {K : Nat → Bool} {env : Tr AV} {tmps : Array Value} (h : EnvR σ ρ K env tmps) (hr : ρ.le ρ') : EnvR σ ρ' K env tmps :=
  fun b v hb hv => ⟨(h b v hb hv).1, VR.mono hr _ _ (h b v hb hv).2⟩

theorem F2.imp {α β : Type} {R S : α → β → Prop} (h : ∀ a b, R a b → S a b) : ∀ {l : List α} {l' : List β}, F2 R l l' → F2 S l l'
  | _, _, .nil => .nil
  | _, _, .cons h1 h2 => .cons (h _ _ h1) (F2.imp h h2)

theorem OR.mono {E : Env} {ρ ρ' : Rho} {o : AO} {L : Loc} {w w' : World} (h : OR E ρ o L w) (hr : ρ.le ρ') (hw : w'.heap[L.b]? = w.heap[L.b]?) : OR E ρ' o L w' := by
  cases o <;> simp only [OR] at h ⊢ <;> rw [hw]
  case c =>
    obtain ⟨cs, e, h1, h2, h3⟩ := h
    exact ⟨cs, e, h1, h2, fun i x hx => let ⟨y, a, b⟩ := h3 i x hx; ⟨y, a, VR.mono hr _ _ b⟩⟩
  case ro =>
    obtain ⟨cs, e, fr, h1, h3⟩ := h
    exact ⟨cs, e, fr, h1, fun i x hx => let ⟨y, a, b⟩ := h3 i x hx; ⟨y, a, VR.mono hr _ _ b⟩⟩
  case m =>
    obtain ⟨ces, h1, h2⟩ := h
    exact ⟨ces, h1, h2.imp fun a b ⟨p, q, r⟩ => ⟨VR.mono hr _ _ p, VR.mono hr _ _ q, r⟩⟩
  case ti => exact h
  case mi m _ _ _ =>
    obtain ⟨h0, m', h1, h2⟩ := h
    refine ⟨h0, m', h1, ?_⟩
    cases m with
    | none => exact h2
    | some a => obtain ⟨L', p, q⟩ := h2; exact ⟨L', hr _ _ p, q⟩
  case lp =>
    obtain ⟨lp, h1, K, N, a1, a2, a3, a4, a5, a6, a7, ⟨D, a8, a9⟩, a10⟩ := h
    exact ⟨lp, h1, K, N, a1.mono hr, a2, a3, a4, a5, a6, a7, ⟨D, hr _ _ a8, a9⟩, a10⟩
  case df => exact h

theorem OR.lt {E : Env} {ρ : Rho} {o : AO} {L : Loc} {w : World} (h : OR E ρ o L w) : L.b < w.heap.size := by
  have : ∃ x, w.heap[L.b]? = some x := by
    cases o <;> simp only [OR] at h
    case c => obtain ⟨_, _, h, _⟩ := h; exact ⟨_, h⟩
    case ro => obtain ⟨_, _, _, h, _⟩ := h; exact ⟨_, h⟩
    case m => obtain ⟨_, h, _⟩ := h; exact ⟨_, h⟩
    case ti => exact ⟨_, h.1⟩
    case mi => obtain ⟨_, _, h, _⟩ := h; exact ⟨_, h⟩
    case lp => obtain ⟨_, h, _⟩ := h; exact ⟨_, h⟩
    case df => exact ⟨_, h⟩
  obtain ⟨x, hx⟩ := this
  exact (Array.getElem?_eq_some_iff.1 hx).1

structure Rel (E : Env) (ρ : Rho) (s : St) (w : World) : Prop where
  fresh : ∀ a, s.nx.val ≤ a.val → ρ a = none
  obj : ∀ a o, s.get a = some o → ∃ L, ρ a = some L ∧ OR E ρ o L w
  inj : ∀ a a' o o' L L', s.get a = some o → s.get a' = some o' → ρ a = some L → ρ a' = some L' → L.b = L'.b → a = a'
  glob : ∀ b : Bn, E.gl b.val = true → b.can = true → ∃ t, ρ b = some ⟨b.val, 0, t⟩
  sep : ∀ a o, s.h.get a = some o → lows s.lo a = none

/-- a block that may be written -/
def Wr (s : St) (ρ : Rho) (b : Nat) : Prop := ∃ a o L, s.h.get a = some o ∧ ρ a = some L ∧ L.b = b

/-- What a piece of a run keeps. -/
structure Ext (s : St) (ρ : Rho) (w : World) (s' : St) (ρ' : Rho) (w' : World) : Prop where
  le : ρ.le ρ'
  lo : s'.lo = s.lo
  os : w'.os = w.os
  tape : w'.tape = w.tape
  output : w'.output = w.output
  size : w.heap.size ≤ w'.heap.size
  same : ∀ b, b < w.heap.size → ¬ Wr s ρ b → w'.heap[b]? = w.heap[b]?
  wr : ∀ b, b < w.heap.size → Wr s' ρ' b → Wr s ρ b
  old : ∀ a : Bn, a.val < s.nx.val → ρ' a = ρ a
  nx : s.nx.val ≤ s'.nx.val

theorem Ext.refl (s : St) (ρ : Rho) (w : World) : Ext s ρ w s ρ w := ⟨.refl _, rfl, rfl, rfl, rfl, Nat.le_refl _, fun _ _ _ => rfl, fun _ _ h => h, fun _ _ => rfl, Nat.le_refl _⟩

theorem Ext.trans {s s' s'' : St} {ρ ρ' ρ'' : Rho} {w w' w'' : World} (h : Ext s ρ w s' ρ' w') (k : Ext s' ρ' w' s'' ρ'' w'') : Ext s ρ w s'' ρ'' w'' where
  le := h.le.trans k.le
  lo := k.lo.trans h.lo
  os := k.os.trans h.os
  tape := k.tape.trans h.tape
  output := k.output.trans h.output
  size := Nat.le_trans h.size k.size
  same b hb hn := (k.same b (Nat.lt_of_lt_of_le hb h.size) fun hw => hn (h.wr b hb hw)).trans (h.same b hb hn)
  wr b hb hw := h.wr b hb (k.wr b (Nat.lt_of_lt_of_le hb h.size) hw)
  old a ha := (k.old a (Nat.lt_of_lt_of_le ha h.nx)).trans (h.old a ha)
  nx := Nat.le_trans h.nx k.nx

theorem St.get_of_h {s : St} {a : Bn} {o : AO} (h : s.h.get a = some o) : s.get a = some o := by simp [St.get, h]
theorem St.get_setH (s : St) (a : Bn) (o : AO) (b : Bn) : (setH s a o).get b = if b = a then some o else s.get b := by
  simp only [St.get, setH, Tr.get_set]
  by_cases hb : b = a <;> simp [hb]
theorem St.get_newH (s : St) (o : AO) (b : Bn) : (newH s o).get b = if b = s.nx then some o else s.get b := by
  simp only [St.get, newH, Tr.get_set]
  by_cases hb : b = s.nx <;> simp [hb]
theorem St.get_killH {s : St} {a b : Bn} {o : AO} (h : (killH s a).get b = some o) (hl : lows s.lo a = none) : b ≠ a ∧ s.get b = some o := by
  simp only [St.get, killH, Tr.get_set] at h
  by_cases hb : b = a
  · subst hb
    simp [hl] at h
  · refine ⟨hb, ?_⟩
    rw [if_neg hb] at h
    exact h

section
variable {E : Env} {ρ : Rho} {s : St} {w w' : World}

theorem Rel.live_ne (h : Rel E ρ s w) {a a' : Bn} {o o' : AO} {L L' : Loc} (ha : s.get a = some o) (ha' : s.get a' = some o') (hL : ρ a = some L) (hL' : ρ a' = some L')
    (hne : a ≠ a') : L.b ≠ L'.b := fun e => hne (h.inj a a' o o' L L' ha ha' hL hL' e)

/-- a block is written -/
theorem Rel.set (h : Rel E ρ s w) {a : Bn} {o o' : AO} {L : Loc} (ha : s.h.get a = some o) (hL : ρ a = some L)
    (hsz : w'.heap.size = w.heap.size) (hsame : ∀ b, b ≠ L.b → w'.heap[b]? = w.heap[b]?) (h1 : w'.os = w.os) (h2 : w'.tape = w.tape) (h3 : w'.output = w.output)
    (ho : OR E ρ o' L w') : Rel E ρ (setH s a o') w' ∧ Ext s ρ w (setH s a o') ρ w' := by
  have hga := St.get_of_h ha
  refine ⟨⟨h.fresh, ?_, ?_, h.glob, ?_⟩, ⟨.refl _, rfl, h1, h2, h3, by omega, ?_, ?_, fun _ _ => rfl, Nat.le_refl _⟩⟩
  · intro b q hb
    rw [St.get_setH] at hb
    split at hb
    · rename_i e; subst e; simp only [Option.some.injEq] at hb; subst hb; exact ⟨L, hL, ho⟩
    · rename_i hne
      obtain ⟨L', hL', hO⟩ := h.obj b q hb
      exact ⟨L', hL', hO.mono (.refl _) (hsame _ (h.live_ne hb hga hL' hL hne))⟩
  · intro b b' q q' M M' hb hb' hM hM' e
    have hlive : ∀ b q, (setH s a o').get b = some q → ∃ q', s.get b = some q' := by
      intro b q hb
      rw [St.get_setH] at hb
      split at hb
      · rename_i e; subst e; exact ⟨o, hga⟩
      · exact ⟨q, hb⟩
    obtain ⟨p, hp⟩ := hlive b q hb
    obtain ⟨p', hp'⟩ := hlive b' q' hb'
    exact h.inj b b' p p' M M' hp hp' hM hM' e
  · intro b q hq
    simp only [setH, Tr.get_set] at hq
    split at hq
    · rename_i e; subst e; exact h.sep _ _ ha
    · exact h.sep b q hq
  · intro b hb hn
    exact hsame b fun e => hn ⟨a, o, L, ha, hL, e.symm⟩
  · rintro b hb ⟨a', q, M, hq, hM, rfl⟩
    simp only [setH, Tr.get_set] at hq
    split at hq
    · rename_i e
      subst e
      exact ⟨a', o, M, ha, hM, rfl⟩
    · exact ⟨a', q, M, hq, hM, rfl⟩

/-- a renaming with one block more -/
def Rho.add (ρ : Rho) (a : Bn) (L : Loc) : Rho := fun b => if b = a then some L else ρ b
theorem Rho.add_le {a : Bn} {L : Loc} (h : ρ a = none) : ρ.le (ρ.add a L) := by
  intro b M hb
  unfold Rho.add
  split
  · rename_i e; subst e; rw [h] at hb; cases hb
  · exact hb
theorem Rho.add_old {a b : Bn} {L : Loc} (h : a.val < b.val) : (ρ.add b L) a = ρ a := by
  unfold Rho.add
  split
  · rename_i e; subst e; omega
  · rfl
theorem Rho.add_self {a : Bn} {L : Loc} : (ρ.add a L) a = some L := by simp [Rho.add]

theorem Rel.nx (h : Rel E ρ s w) : ρ s.nx = none := h.fresh _ (Nat.le_refl _)
theorem Rel.nx_dead (h : Rel E ρ s w) : s.get s.nx = none := by
  cases hg : s.get s.nx with
  | none => rfl
  | some o =>
    obtain ⟨L, hL, _⟩ := h.obj _ _ hg
    rw [h.nx] at hL
    cases hL

/-- a new block -/
theorem Rel.new (h : Rel E ρ s w) {o : AO} {L : Loc} (hb : L.b = w.heap.size) (hsz : w'.heap.size = w.heap.size + 1)
    (hsame : ∀ b, b < w.heap.size → w'.heap[b]? = w.heap[b]?) (h1 : w'.os = w.os) (h2 : w'.tape = w.tape) (h3 : w'.output = w.output)
    (ho : OR E (ρ.add s.nx L) o L w') : Rel E (ρ.add s.nx L) (newH s o) w' ∧ Ext s ρ w (newH s o) (ρ.add s.nx L) w' := by
  have hle := Rho.add_le (L := L) h.nx
  have other : ∀ b q, (newH s o).get b = some q → b ≠ s.nx → s.get b = some q := by
    intro b q hb hne
    rw [St.get_newH, if_neg hne] at hb
    exact hb
  refine ⟨⟨?_, ?_, ?_, ?_, ?_⟩, ⟨hle, rfl, h1, h2, h3, by omega, fun b hb _ => hsame b hb, ?_, fun a ha => Rho.add_old ha, by simp only [newH, Bn.val_succ]; omega⟩⟩
  · intro a ha
    simp only [newH, Bn.val_succ] at ha
    unfold Rho.add
    split
    · rename_i e; subst e; omega
    · exact h.fresh a (by omega)
  · intro b q hb
    by_cases hne : b = s.nx
    · subst hne
      rw [St.get_newH, if_pos rfl] at hb
      simp only [Option.some.injEq] at hb
      subst hb
      exact ⟨L, Rho.add_self, ho⟩
    · obtain ⟨M, hM, hO⟩ := h.obj b q (other b q hb hne)
      exact ⟨M, hle _ _ hM, hO.mono hle (hsame _ hO.lt)⟩
  · intro b b' q q' M M' hb hb' hM hM' e
    have low : ∀ b q M, (newH s o).get b = some q → b ≠ s.nx → (ρ.add s.nx L) b = some M → ρ b = some M ∧ M.b < w.heap.size := by
      intro b q M hb hne hM
      unfold Rho.add at hM
      rw [if_neg hne] at hM
      obtain ⟨N, hN, hO⟩ := h.obj b q (other b q hb hne)
      rw [hM] at hN
      cases hN
      exact ⟨hM, hO.lt⟩
    by_cases e1 : b = s.nx <;> by_cases e2 : b' = s.nx
    · rw [e1, e2]
    · subst e1
      rw [Rho.add_self] at hM
      cases hM
      have := (low b' q' M' hb' e2 hM').2
      omega
    · subst e2
      rw [Rho.add_self] at hM'
      cases hM'
      have := (low b q M hb e1 hM).2
      omega
    · exact h.inj b b' q q' M M' (other b q hb e1) (other b' q' hb' e2) (low b q M hb e1 hM).1 (low b' q' M' hb' e2 hM').1 e
  · intro b hg hc
    obtain ⟨t, ht⟩ := h.glob b hg hc
    exact ⟨t, hle _ _ ht⟩
  · intro b q hq
    simp only [newH, Tr.get_set] at hq
    split at hq
    · rename_i e; subst e
      have := h.nx_dead
      unfold St.get at this
      split at this
      · cases this
      · exact this
    · exact h.sep b q hq
  · rintro b hb ⟨a', q, M, hq, hM, rfl⟩
    simp only [newH, Tr.get_set] at hq
    split at hq
    · rename_i e
      subst e
      rw [Rho.add_self] at hM
      cases hM
      omega
    · rename_i hne
      unfold Rho.add at hM
      rw [if_neg hne] at hM
      exact ⟨a', q, M, hq, hM, rfl⟩

/-- a block is forgotten -/
theorem Rel.kill (h : Rel E ρ s w) {a : Bn} {o : AO} (ha : s.h.get a = some o) : Rel E ρ (killH s a) w ∧ Ext s ρ w (killH s a) ρ w := by
  have hl := h.sep _ _ ha
  refine ⟨⟨h.fresh, ?_, ?_, h.glob, ?_⟩, ⟨.refl _, rfl, rfl, rfl, rfl, Nat.le_refl _, fun _ _ _ => rfl, ?_, fun _ _ => rfl, Nat.le_refl _⟩⟩
  · intro b q hb
    exact h.obj b q (St.get_killH hb hl).2
  · intro b b' q q' M M' hb hb' hM hM' e
    exact h.inj b b' q q' M M' (St.get_killH hb hl).2 (St.get_killH hb' hl).2 hM hM' e
  · intro b q hq
    simp only [killH, Tr.get_set] at hq
    split at hq
    · cases hq
    · exact h.sep b q hq
  · rintro b hb ⟨a', q, M, hq, hM, rfl⟩
    simp only [killH, Tr.get_set] at hq
    split at hq
    · cases hq
    · exact ⟨a', q, M, hq, hM, rfl⟩

end
end Go.Ex
/- The operations that read memory do what they say. -/
namespace Go.Ex

section
variable {σ : Sig} {ρ : Rho} {P : Program}

theorem row_list {cs : Array Value} : ∀ (c : List AV) (p : Nat), (∀ j x, nth c j = some x → ∃ y, cs[p + j]? = some y ∧ VR σ ρ x y) →
    ∃ c', VRs σ ρ c c' ∧ ∀ j v, c'[j]? = some v → cs[p + j]? = some v
  | [], p, _ => ⟨[], VRs.nil, fun j v h => by simp at h⟩
  | x :: c, p, h => by
    obtain ⟨y, hy, hv⟩ := h 0 x rfl
    obtain ⟨c', h1, h2⟩ := row_list (cs := cs) c (p + 1) (fun j z hz => by
      have := h (j + 1) z hz
      rwa [show p + (j + 1) = p + 1 + j by omega] at this)
    refine ⟨y :: c', VRs.cons hv h1, fun j v hj => ?_⟩
    cases j with
    | zero => simp only [List.getElem?_cons_zero, Option.some.injEq] at hj; subst hj; exact hy
    | succ j =>
      have := h2 j v (by simpa using hj)
      rwa [show p + (j + 1) = p + 1 + j by omega]

theorem nth_cut {α : Type} {l c : List α} {o n j : Nat} {x : α} (h : cut l o n = some c) (hj : nth c j = some x) : nth l (o + j) = some x := by
  obtain ⟨_, rfl⟩ := cut_eq h
  rw [nth_eq] at hj ⊢
  rw [List.getElem?_take] at hj
  split at hj
  · rwa [List.getElem?_drop] at hj
  · cases hj

theorem cut_length {α : Type} {l c : List α} {o n : Nat} (h : cut l o n = some c) : c.length = n := by
  obtain ⟨h1, rfl⟩ := cut_eq h
  simp; omega

theorem RowR.cut {l c : List AV} {cs : Array Value} {d o n : Nat} (h : RowR σ ρ l cs d) (hc : Ex.cut l o n = some c) :
    ∃ c', VRs σ ρ c c' ∧ c'.length = n ∧ ∀ j v, c'[j]? = some v → cs[d + o + j]? = some v := by
  obtain ⟨c', h1, h2⟩ := row_list (σ := σ) (ρ := ρ) (cs := cs) c (d + o) (fun j x hj => by
    have := h (o + j) x (nth_cut hc hj)
    rwa [show d + (o + j) = d + o + j by omega] at this)
  exact ⟨c', h1, by rw [h1.length, cut_length hc], h2⟩

theorem run_cells {w : World} {b o : Nat} {cs : Array Value} {e : TypeId} {fr : Nat × Nat} (hb : w.heap[b]? = some (.cells cs e fr)) {c : List Value}
    (hc : ∀ j v, c[j]? = some v → cs[o + j]? = some v) : (loadCells ⟨b, o, none⟩ c.length).run P w = .ok c.toArray w :=
  run_loadCells_list w _ c fun j v hj => by
    rw [addr_add]
    simp [World.cell?, hb, hc j v hj]

variable {E : Env} {s : St} {w : World}

theorem rowOf_sound (h : Rel E ρ s w) {a : Bn} {l : List AV} (hr : rowOf s a = some l) :
    ∃ L cs e fr, ρ a = some L ∧ w.heap[L.b]? = some (.cells cs e fr) ∧ RowR E.σ ρ l cs L.d := by
  unfold rowOf at hr
  split at hr
  · rename_i l' hg
    simp only [Option.some.injEq] at hr; subst hr
    obtain ⟨L, hL, cs, e, h1, _, h3⟩ := h.obj _ _ hg
    exact ⟨L, cs, e, _, hL, h1, h3⟩
  · rename_i l' hg
    simp only [Option.some.injEq] at hr; subst hr
    obtain ⟨L, hL, cs, e, fr, h1, h3⟩ := h.obj _ _ hg
    exact ⟨L, cs, e, fr, hL, h1, h3⟩
  · cases hr

/-- a variable is read -/
theorem ld_sound {X : Cx} (hty : TyOk P X.ty) (h : Rel E ρ s w) {a : Bn} {l : List AV} (hr : rowOf s a = some l) {t o : Nat} {sz : Sz} {v : AV} (hs : X.szOk t sz = true)
    (hv : ofCells sz l o = some v) : ∃ L cv, ρ a = some L ∧ VR E.σ ρ v cv ∧ (loadVar t ⟨L.b, L.d + o, none⟩).run P w = .ok cv w := by
  obtain ⟨L, cs, e, fr, hL, hb, hrow⟩ := rowOf_sound h hr
  obtain ⟨r, hrt, hz⟩ := szOk_spec hs
  obtain ⟨i, _, hi, _, _, hsz, _⟩ := row_spec (hty t r hrt)
  refine ⟨L, ?_⟩
  rcases hz with ⟨rfl, ha⟩ | ⟨n, rfl, ha, rfl⟩
  · simp only [ofCells] at hv
    obtain ⟨y, hy, hyv⟩ := hrow o v hv
    refine ⟨y, hL, hyv, ?_⟩
    unfold loadVar
    simp only [Sem.run_bind, run_isAgg (hty t r hrt), Result.andThen_ok, ha, Bool.false_eq_true, if_false]
    simp [World.cell?, hb, hy]
  · simp only [ofCells, Option.map_eq_some_iff] at hv
    obtain ⟨c, hc, rfl⟩ := hv
    obtain ⟨c', h1, h2, h3⟩ := hrow.cut hc
    refine ⟨.agg c'.toArray, hL, by simp only [VR]; exact ⟨c', h1, rfl⟩, ?_⟩
    unfold loadVar
    have := run_cells (P := P) hb h3
    rw [h2] at this
    simp only [Sem.run_bind, run_isAgg (hty t r hrt), Result.andThen_ok, ha, if_true, run_sizeOf' hi, Sem.run_pure, hsz, this]
end
end Go.Ex
/- Keys of maps. -/
namespace Go.Ex

theorem forIn_unit {P : Program} {w : World} {α : Type} {f : α → PUnit → Sem (ForInStep PUnit)} : ∀ (l : List α), (∀ x ∈ l, (f x ⟨⟩).run P w = .ok (.yield ⟨⟩) w) →
    (forIn l PUnit.unit f : Sem PUnit).run P w = .ok ⟨⟩ w
  | [], _ => by simp
  | x :: l, h => by
    simp only [List.forIn_cons, Sem.run_bind, h x (by simp), Result.andThen_ok]
    exact forIn_unit l fun y hy => h y (by simp [hy])

section
variable {P : Program} {ty : Ty} (hty : TyOk P ty)
include hty

theorem checkKey_leaves (em : Bool) : ∀ (d t : Nat) (fs : List Lf) (r : Row), leavesOf ty d t = some fs → ty t = some r →
    ∀ (D : Nat) (xs : List Value) (w : World), d ≤ D → LfsR fs xs → (Instr.checkKey em D t (mkV r.agg xs)).run P w = .ok () w := by
  intro d
  induction d with
  | zero => intro t fs r h; simp [leavesOf] at h
  | succ d ih =>
    intro t fs r h hr D xs w hD hx
    obtain ⟨D, rfl⟩ : ∃ E, D = E + 1 := ⟨D - 1, by omega⟩
    obtain ⟨i, de, hi, hd, htd, hsz, _, _, hst⟩ := row_spec (hty t r hr)
    simp only [leavesOf, hr] at h
    split at h
    · rename_i k hk
      rw [hk] at htd
      have hde := td_int htd
      subst hde
      simp only [Instr.checkKey, Sem.run_bind, run_und hd, Result.andThen_ok]
      simp
    · rename_i hk
      rw [hk] at htd
      have hde := td_bool htd
      subst hde
      simp only [Instr.checkKey, Sem.run_bind, run_und hd, Result.andThen_ok]
      simp
    · rename_i hk
      rw [hk] at htd
      have hde := td_str htd
      subst hde
      simp only [Instr.checkKey, Sem.run_bind, run_und hd, Result.andThen_ok]
      simp
    · rename_i fl hk
      have ha : r.agg = true := by simp [Row.agg, hk]
      rw [hk] at htd
      obtain ⟨fields, rfl, hfl⟩ := td_st htd
      simp only [Instr.checkKey, Sem.run_bind, run_und hd, Result.andThen_ok, mkV, ha, if_true]
      have key : ∀ (gl : List Field) (at_ : Nat) (L : List Lf), fieldsF (leavesOf ty d) (gl.map fun f => (f.offset, f.type, f.name == "_")) at_ r.size = some L →
          LfsR L (xs.drop at_) → at_ ≤ xs.length → ∀ f ∈ gl, ∃ l1 rg, leavesOf ty d f.type = some l1 ∧ ty f.type = some rg ∧ f.offset + rg.size ≤ xs.length ∧
            LfsR l1 ((xs.drop f.offset).take rg.size) := by
        intro gl
        induction gl with
        | nil => intro _ _ _ _ _ f hf; cases hf
        | cons g gl ihg =>
          intro at_ L hL hx hax f hf
          simp only [List.map_cons, fieldsF] at hL
          split at hL
          · rename_i hcond
            simp only [Bool.and_eq_true, Nat.beq_eq] at hcond
            obtain ⟨hoff, _⟩ := hcond
            split at hL
            · cases hL
            · rename_i l1 h1
              split at hL
              · cases hL
              · rename_i l2 h2
                simp only [Option.some.injEq] at hL
                subst hL
                obtain ⟨rg, hrg⟩ : ∃ rg, ty g.type = some rg := by
                  cases hrg : ty g.type with
                  | some rg => exact ⟨rg, rfl⟩
                  | none => cases d <;> simp [leavesOf, hrg] at h1
                have hlen := leaves_len d g.type l1 rg h1 hrg
                obtain ⟨hx1, hx2⟩ := LfsR.split hx
                have hxl := LfsR.length hx
                simp only [List.length_drop, List.length_append] at hxl
                rw [hlen] at hx1 hx2
                rw [List.drop_drop] at hx2
                rcases List.mem_cons.1 hf with rfl | hf
                · exact ⟨l1, rg, h1, hrg, by omega, by rw [hoff]; exact hx1⟩
                · rw [hlen] at h2
                  exact ihg (at_ + rg.size) l2 h2 hx2 (by omega) f hf
          · cases hL
      have each := key fields.toList 0 fs (by rw [hfl]; exact h) (by simpa using hx) (by omega)
      rw [← Array.forIn_toList]
      rw [forIn_unit fields.toList (fun f hf => ?_)]
      · simp
      · obtain ⟨l1, rg, h1, h2, h3, h4⟩ := each f hf
        have hp := run_part hty h2 h3 (equalIn_leaves hty d _ _ _ h1 h2).1 w
        split
        · simp [hp, ih f.type l1 rg h1 h2 D _ w (by omega) h4]
        · simp
    · rename_i n e hk
      have ha : r.agg = true := by simp [Row.agg, hk]
      rw [hk] at htd
      have hde := td_arr htd
      subst hde
      split at h
      · cases h
      · rename_i re hre
        split at h
        · rename_i hs
          split at h
          · cases h
          · rename_i l1 h1
            split at h
            · rename_i hl1
              simp only [Option.some.injEq] at h
              subst h
              simp at hs hl1
              obtain ⟨ie, dde, hie, hdde, _, hsze, _⟩ := row_spec (hty e re hre)
              simp only [Instr.checkKey, Sem.run_bind, run_und hd, Result.andThen_ok, mkV, ha, if_true]
              simp only [Std.Legacy.Range.forIn_eq_forIn_range', Std.Legacy.Range.size, Nat.sub_zero, Nat.add_one_sub_one, Nat.div_one]
              have key : ∀ (m j : Nat), LfsR (rep l1 m) (xs.drop (j * re.size)) → j * re.size ≤ xs.length → ∀ x ∈ List.range' j m,
                  x * re.size + re.size ≤ xs.length ∧ LfsR l1 ((xs.drop (x * re.size)).take re.size) := by
                intro m
                induction m with
                | zero => intro j _ _ x hx; simp at hx
                | succ m ihm =>
                  intro j hx hax x hxm
                  simp only [rep] at hx
                  obtain ⟨hx1, hx2⟩ := LfsR.split hx
                  have hxl := LfsR.length hx
                  simp only [List.length_drop, List.length_append] at hxl
                  rw [hl1] at hx1 hx2
                  rw [List.drop_drop] at hx2
                  have hj : j * re.size + re.size = (j + 1) * re.size := by rw [Nat.succ_mul]
                  rw [hj] at hx2
                  rw [List.range'_succ] at hxm
                  rcases List.mem_cons.1 hxm with rfl | hxm
                  · exact ⟨by omega, hx1⟩
                  · exact ihm (j + 1) hx2 (by omega) x hxm
              have each := key n 0 (by simpa using hx) (by omega)
              rw [forIn_unit (List.range' 0 n) (fun x hxm => ?_)]
              · simp
              · obtain ⟨h3, h4⟩ := each x hxm
                have hp := run_part hty hre h3 (equalIn_leaves hty d _ _ _ h1 hre).1 w
                simp only [Sem.run_bind, run_sizeOf' hie, Result.andThen_ok, hsze, hp]
                simp [ih e l1 re h1 hre D _ w (by omega) h4]
            · cases h
        · cases h
    · cases h
end
end Go.Ex
/- Maps: where a key lies. -/
namespace Go.Ex

theorem lfsBeq_eq : ∀ {a b : List Lf}, lfsBeq a b = true → a = b
  | [], b, h => by cases b <;> simp_all [lfsBeq]
  | p :: a, b, h => by
    cases b with
    | nil => simp [lfsBeq] at h
    | cons q b =>
      simp only [lfsBeq, Bool.and_eq_true] at h
      rw [lfsBeq_eq h.2]
      congr 1
      cases p <;> cases q <;> simp_all [Lf.beq]

theorem isKey_some {α : Type} {c : EC} {k : AV} {x y : α} (h : isKey c k x = some y) : y = x ∧ ∃ b, keyEq c k k = some b := by
  unfold isKey at h
  split at h
  · rename_i b hb
    simp only [Option.some.injEq] at h
    exact ⟨h.symm, b, hb⟩
  · cases h

theorem isKey_of {α β : Type} {c : EC} {k : AV} {x y : α} (h : isKey c k x = some y) (z : β) : isKey c k z = some z := by
  unfold isKey at h ⊢
  split at h
  · rfl
  · cases h

/-- the place of the first entry with a key -/
def keyPos (c : EC) (k : AV) : List (AV × AV × Nat) → Option (Option Nat)
  | [] => isKey c k none
  | (k', _, _) :: l => match keyEq c k k' with
    | none => none
    | some true => some (some 0)
    | some false => match keyPos c k l with
      | none => none
      | some r => some (r.map (· + 1))

theorem keyFind_pos {c : EC} {k : AV} : ∀ {l : List (AV × AV × Nat)} {r : Option AV}, keyFind c k l = some r →
    ∃ p, keyPos c k l = some p ∧ (match p with
      | none => r = none
      | some j => ∃ x, l[j]? = some x ∧ r = some x.2.1)
  | [], r, h => ⟨none, isKey_of h _, (isKey_some h).1⟩
  | (k', v, b) :: l, r, h => by
    simp only [keyFind] at h
    simp only [keyPos]
    cases hq : keyEq c k k' with
    | none => simp [hq] at h
    | some e =>
      simp only [hq] at h ⊢
      cases e with
      | true =>
        simp only [Option.some.injEq] at h
        exact ⟨some 0, rfl, _, rfl, h.symm⟩
      | false =>
        obtain ⟨p, h1, h2⟩ := keyFind_pos h
        simp only [h1]
        refine ⟨p.map (· + 1), rfl, ?_⟩
        cases p with
        | none => exact h2
        | some j => obtain ⟨x, hx, hr⟩ := h2; exact ⟨x, by simpa using hx, hr⟩

theorem keyPut_pos {c : EC} {k v : AV} {clock : Nat} : ∀ {l l' : List (AV × AV × Nat)} {n : Nat}, keyPut c k v clock l = some (l', n) →
    ∃ p, keyPos c k l = some p ∧ (match p with
      | none => l' = l ++ [(k, v, clock)] ∧ n = clock + 1
      | some j => ∃ x, l[j]? = some x ∧ keyEq c k x.1 = some true ∧ l' = l.set j (k, v, x.2.2) ∧ n = clock)
  | [], l', n, h => by
    simp only [keyPut] at h
    have := (isKey_some h).1
    simp only [Prod.mk.injEq] at this
    exact ⟨none, isKey_of h _, this⟩
  | (k', v', b) :: l, l', n, h => by
    simp only [keyPut] at h
    simp only [keyPos]
    cases hq : keyEq c k k' with
    | none => simp [hq] at h
    | some e =>
      simp only [hq] at h ⊢
      cases e with
      | true =>
        simp only [Option.some.injEq, Prod.mk.injEq] at h
        exact ⟨some 0, rfl, _, rfl, hq, h.1.symm, h.2.symm⟩
      | false =>
        simp only at h
        split at h
        · cases h
        · rename_i r m hr
          simp only [Option.some.injEq, Prod.mk.injEq] at h
          obtain ⟨rfl, rfl⟩ := h
          obtain ⟨p, h1, h2⟩ := keyPut_pos hr
          simp only [h1]
          refine ⟨p.map (· + 1), rfl, ?_⟩
          cases p with
          | none => exact ⟨by simp [h2.1], h2.2⟩
          | some j => obtain ⟨x, hx, he, hr, hn⟩ := h2; exact ⟨x, by simpa using hx, he, by simp [hr], hn⟩

theorem keyDel_pos {c : EC} {k : AV} : ∀ {l l' : List (AV × AV × Nat)}, keyDel c k l = some l' →
    ∃ p, keyPos c k l = some p ∧ (match p with
      | none => l' = l
      | some j => l' = l.eraseIdx j ∧ j < l.length)
  | [], l', h => ⟨none, isKey_of h _, (isKey_some h).1⟩
  | (k', v, b) :: l, l', h => by
    simp only [keyDel] at h
    simp only [keyPos]
    cases hq : keyEq c k k' with
    | none => simp [hq] at h
    | some e =>
      simp only [hq] at h ⊢
      cases e with
      | true =>
        simp only [Option.some.injEq] at h
        exact ⟨some 0, rfl, by simp [h]⟩
      | false =>
        simp only at h
        split at h
        · cases h
        · rename_i r hr
          simp only [Option.some.injEq] at h
          subst h
          obtain ⟨p, h1, h2⟩ := keyDel_pos hr
          simp only [h1]
          refine ⟨p.map (· + 1), rfl, ?_⟩
          cases p with
          | none => simp at h2; simp [h2]
          | some j => simp at h2; simp [h2.1, h2.2]

theorem bytes_beq' (a b : ByteArray) : (a == b) = (a.toList == b.toList) := by
  rw [Bool.eq_iff_iff, MapKept.bytes_beq, beq_iff_eq]
  constructor
  · intro h; rw [h]
  · intro h
    rw [ByteArray.toList_eq, ByteArray.toList_eq] at h
    cases a; cases b
    simp only [ByteArray.mk.injEq]
    exact Array.toList_inj.1 h

/-- the leaves of one type's value -/
theorem lf_ok {f : Lf} {u v : Value} (hu : LfR f u) (hv : LfR f v) (n : Nat) : lfEq u v = true → Instr.sameBits n v u = true := by
  intro h
  cases f <;> simp only [LfR] at hu hv <;> obtain ⟨a, rfl⟩ := hu <;> obtain ⟨b, rfl⟩ := hv <;> simp only [lfEq] at h
  · cases n <;> simp [Instr.sameBits] <;> simp at h <;> exact h.symm
  · cases n <;> simp [Instr.sameBits] <;> simp at h <;> exact h.symm
  · rw [← bytes_beq'] at h
    have := (MapKept.bytes_beq a b).1 h
    subst this
    cases n <;> simp only [Instr.sameBits] <;> exact h

theorem lfs_zip (n : Nat) : ∀ {fs : List Lf} {u v : List Value}, LfsR fs u → LfsR fs v → lfsEq u v = true →
    u.length = v.length ∧ ((v.zip u).all fun (x, y) => Instr.sameBits n x y) = true
  | [], u, v, hu, hv, _ => by simp only [LfsR] at hu hv; subst hu; subst hv; simp
  | f :: fs, u, v, hu, hv, h => by
    simp only [LfsR] at hu hv
    obtain ⟨x, r, rfl, h1, h2⟩ := hu
    obtain ⟨y, q, rfl, h3, h4⟩ := hv
    simp only [lfsEq, Bool.and_eq_true] at h
    obtain ⟨a, b⟩ := lfs_zip n h2 h4 h.2
    exact ⟨by simp [a], by simp only [List.zip_cons_cons, List.all_cons, Bool.and_eq_true]; exact ⟨lf_ok h1 h3 n h.1, b⟩⟩

theorem lfs_same {fs : List Lf} {u v : List Value} (hu : LfsR fs u) (hv : LfsR fs v) (h : lfsEq u v = true) (a : Bool) (h1 : a = false → fs.length = 1) (n : Nat) :
    Instr.sameBits (n + 1) (mkV a v) (mkV a u) = true := by
  cases a with
  | true =>
    obtain ⟨h2, h3⟩ := lfs_zip n hu hv h
    simp only [mkV, if_true, Instr.sameBits, Bool.and_eq_true]
    exact ⟨by simp [h2], by simpa using h3⟩
  | false =>
    obtain ⟨f, rfl⟩ := List.length_eq_one_iff.1 (h1 rfl)
    simp only [LfsR] at hu hv
    obtain ⟨x, _, rfl, h2, rfl⟩ := hu
    obtain ⟨y, _, rfl, h4, rfl⟩ := hv
    simp only [lfsEq, Bool.and_true] at h
    simpa [mkV] using lf_ok h2 h4 (n + 1) h

section
variable {P : Program} {X : Cx} {σ : Sig} {ρ : Rho}

/-- what the keys of a map are -/
structure Keyed (P : Program) (kt : Nat) (fs : List Lf) (r : Row) : Prop where
  equal : ∀ (xs ys : List Value) (w : World), LfsR fs xs → LfsR fs ys → (Op.equal kt (mkV r.agg xs) (mkV r.agg ys)).run P w = .ok (lfsEq xs ys) w
  check : ∀ (em : Bool) (xs : List Value) (w : World), LfsR fs xs → (Instr.checkKey em 10000 kt (mkV r.agg xs)).run P w = .ok () w
  one : r.agg = false → fs.length = 1
  many : r.agg = true → fs.length ≠ 1
  und : ∃ d, P.underlying kt = some d ∧ tdOf d = r.td
  lit : r.agg = false → (r.td = .bool ∧ fs = [.b]) ∨ (r.td = .str ∧ fs = [.s]) ∨ ∃ k, r.td = .int k ∧ fs = [.i k]

theorem keys_spec (hty : TyOk P X.ty) {kt : Nat} {c : EC} (h : X.keys kt c = true) : ∃ fs r, c = .ag fs ∧ Keyed P kt fs r := by
  unfold Cx.keys at h
  split at h
  · rename_i l
    simp only [Bool.and_eq_true] at h
    obtain ⟨h1, h2⟩ := h
    unfold Cx.leaves at h1
    split at h1
    · cases h1
    · rename_i l' hl
      have := lfsBeq_eq h1
      subst this
      split at h2
      · rename_i r hr
        obtain ⟨ha, hrun⟩ := equalIn_leaves hty 8 kt _ r hl hr
        have hlen := leaves_len 8 kt _ r hl hr
        obtain ⟨_, d, _, hd, htd, _⟩ := row_spec (hty kt r hr)
        refine ⟨l, r, rfl, ⟨fun xs ys w hx hy => hrun 10000 xs ys w (by omega) hx hy, fun em xs w hx => checkKey_leaves hty em 8 kt _ r hl hr 10000 xs w (by omega) hx,
          fun h0 => by rw [hlen, ha h0], fun h0 => ?_, ⟨d, hd, htd⟩, fun h0 => ?_⟩⟩
        · intro e; simp [h0, e] at h2
        · simp only [leavesOf, hr] at hl
          split at hl
          · rename_i k hk
            split at hl
            · simp only [Option.some.injEq] at hl; exact .inr (.inr ⟨k, hk, hl.symm⟩)
            · cases hl
          · rename_i hk
            split at hl
            · simp only [Option.some.injEq] at hl; exact .inl ⟨hk, hl.symm⟩
            · cases hl
          · rename_i hk
            split at hl
            · simp only [Option.some.injEq] at hl; exact .inr (.inl ⟨hk, hl.symm⟩)
            · cases hl
          · rename_i hk; simp [Row.agg, hk] at h0
          · rename_i hk; simp [Row.agg, hk] at h0
          · cases hl
      · cases h2
  · cases h

theorem keyEq_sound {kt : Nat} {fs : List Lf} {r : Row} (hk : Keyed P kt fs r) {x y : AV} {b : Bool} {u v : Value} (h : keyEq (.ag fs) x y = some b)
    (hx : VR σ ρ x u) (hy : VR σ ρ y v) : ∃ xs ys, u = mkV r.agg xs ∧ v = mkV r.agg ys ∧ LfsR fs xs ∧ LfsR fs ys ∧ lfsEq xs ys = b := by
  unfold keyEq at h
  split at h
  · rename_i f hf
    simp only [EC.ag.injEq] at hf
    subst hf
    have ha : r.agg = false := by
      cases hq : r.agg with
      | false => rfl
      | true => exact absurd rfl (hk.many hq)
    obtain ⟨h1, h2, h3⟩ := leafEq_sound h hx hy
    refine ⟨[u], [v], by simp [mkV, ha], by simp [mkV, ha], by simp only [LfsR]; exact ⟨_, _, rfl, h1, rfl⟩, by simp only [LfsR]; exact ⟨_, _, rfl, h2, rfl⟩, by simp [lfsEq, h3]⟩
  · rename_i fs' hne hf
    simp only [EC.ag.injEq] at hf
    subst hf
    have ha : r.agg = true := by
      cases hq : r.agg with
      | true => rfl
      | false =>
        obtain ⟨f, hf⟩ := List.length_eq_one_iff.1 (hk.one hq)
        exact absurd hf (hne f)
    split at h
    · split at h
      · simp only [VR] at hx hy
        obtain ⟨u', hu, rfl⟩ := hx
        obtain ⟨v', hv, rfl⟩ := hy
        obtain ⟨h1, h2, h3⟩ := cellsEq_sound h hu hv
        exact ⟨u', v', by simp [mkV, ha], by simp [mkV, ha], h1, h2, h3⟩
      · cases h
    · cases h
  · cases h

theorem sameNow_sound {kt : Nat} {fs : List Lf} {r : Row} (hk : Keyed P kt fs r) {d : TypeDesc} (hd : tdOf d = r.td) {xs ys : List Value} (hx : LfsR fs xs) (hy : LfsR fs ys) :
    Instr.sameNow d (mkV r.agg xs) (mkV r.agg ys) = if r.agg then none else some (lfsEq xs ys) := by
  cases ha : r.agg with
  | true =>
    simp only [if_true]
    unfold Row.agg at ha
    rw [← hd] at ha
    cases d <;> simp [tdOf] at ha <;> simp [Instr.sameNow]
  | false =>
    obtain ⟨f, rfl⟩ := List.length_eq_one_iff.1 (hk.one ha)
    simp only [LfsR] at hx hy
    obtain ⟨x, _, rfl, h1, rfl⟩ := hx
    obtain ⟨y, _, rfl, h2, rfl⟩ := hy
    simp only [mkV, lfsEq, Bool.and_true]
    rcases hk.lit ha with ⟨h, hf⟩ | ⟨h, hf⟩ | ⟨k, h, hf⟩ <;> simp only [List.cons.injEq, and_true] at hf <;> subst hf <;> simp only [LfR] at h1 h2 <;>
      obtain ⟨a, rfl⟩ := h1 <;> obtain ⟨b, rfl⟩ := h2 <;> rw [h] at hd
    · have := td_bool hd
      subst this
      simp [Instr.sameNow, lfEq]
    · have := td_str hd
      subst this
      simp only [Instr.sameNow, lfEq, bytes_beq']
      simp
    · have := td_int hd
      subst this
      simp [Instr.sameNow, lfEq]

theorem F2.get {α β : Type} {R : α → β → Prop} : ∀ {l : List α} {l' : List β}, F2 R l l' → ∀ {j : Nat} {x : α}, l[j]? = some x → ∃ y, l'[j]? = some y ∧ R x y
  | _, _, .nil, j, x, h => by simp at h
  | _, _, .cons h1 h2, 0, x, h => by simp only [List.getElem?_cons_zero, Option.some.injEq] at h; subst h; exact ⟨_, rfl, h1⟩
  | _, _, .cons h1 h2, j + 1, x, h => by
    obtain ⟨y, hy, hr⟩ := F2.get h2 (by simpa using h)
    exact ⟨y, by simpa using hy, hr⟩

theorem F2.length {α β : Type} {R : α → β → Prop} : ∀ {l : List α} {l' : List β}, F2 R l l' → l'.length = l.length
  | _, _, .nil => rfl
  | _, _, .cons _ h => by simp [F2.length h]

theorem F2.append {α β : Type} {R : α → β → Prop} : ∀ {l q : List α} {l' q' : List β}, F2 R l l' → F2 R q q' → F2 R (l ++ q) (l' ++ q')
  | _, _, _, _, .nil, h => h
  | _, _, _, _, .cons h1 h2, h => .cons h1 (F2.append h2 h)

theorem F2.set {α β : Type} {R : α → β → Prop} {x : α} {g : β → β} : ∀ {l : List α} {l' : List β} {j : Nat}, F2 R l l' → (∀ y, l'[j]? = some y → R x (g y)) →
    F2 R (l.set j x) (l'.modify j g)
  | _, _, _, .nil, _ => by simpa using F2.nil
  | _, _, 0, .cons h1 h2, h => by simpa using F2.cons (h _ rfl) h2
  | _, _, j + 1, .cons h1 h2, h => by simpa using F2.cons h1 (F2.set h2 fun y hy => h y (by simpa using hy))

theorem F2.erase {α β : Type} {R : α → β → Prop} : ∀ {l : List α} {l' : List β} {j : Nat}, F2 R l l' → F2 R (l.eraseIdx j) (l'.eraseIdx j)
  | _, _, _, .nil => by simpa using F2.nil
  | _, _, 0, .cons h1 h2 => by simpa using h2
  | _, _, j + 1, .cons h1 h2 => by simpa using F2.cons h1 (F2.erase h2)

theorem findAsking_sound {kt : Nat} {fs : List Lf} {r : Row} (hk : Keyed P kt fs r) {k : AV} {ck : Value} (hv : VR σ ρ k ck) (w : World) :
    ∀ {l : List (AV × AV × Nat)} {l' : List MapEntry} {p : Option Nat} (i : Nat), keyPos (.ag fs) k l = some p → F2 (EntR σ ρ) l l' →
    (Instr.findAsking kt ck l' i).run P w = .ok (p.bind fun j => (l'[j]?).map fun e => (i + j, e.val)) w
  | _, _, p, i, h, .nil => by
    have := (isKey_some h).1
    subst this
    simp [Instr.findAsking]
  | (k', v, b) :: l, e :: l', p, i, h, .cons he hl => by
    simp only [keyPos] at h
    cases hq : keyEq (.ag fs) k k' with
    | none => simp [hq] at h
    | some q =>
      obtain ⟨xs, ys, h1, h2, h3, h4, h5⟩ := keyEq_sound hk hq hv he.1
      simp only [Instr.findAsking, Sem.run_bind, h1, h2, hk.equal xs ys w h3 h4, Result.andThen_ok, h5]
      simp only [hq] at h
      cases q with
      | true =>
        simp only [Option.some.injEq] at h
        subst h
        simp
      | false =>
        simp only at h
        split at h
        · cases h
        · rename_i r' hr
          simp only [Option.some.injEq] at h
          subst h
          have := findAsking_sound hk hv w (i + 1) hr hl
          rw [h1] at this
          simp only [Bool.false_eq_true, if_false, this]
          cases r' with
          | none => rfl
          | some j => simp [show i + 1 + j = i + (j + 1) by omega]

theorem findNow_sound {kt : Nat} {fs : List Lf} {r : Row} (hk : Keyed P kt fs r) {d : TypeDesc} (hd : tdOf d = r.td) {k : AV} {ck : Value} (hv : VR σ ρ k ck) :
    ∀ {l : List (AV × AV × Nat)} {l' : List MapEntry} {p : Option Nat} (i : Nat), keyPos (.ag fs) k l = some p → F2 (EntR σ ρ) l l' →
    Instr.findNow d ck l' i = (if r.agg && !l.isEmpty then none else some (p.bind fun j => (l'[j]?).map fun e => (i + j, e.val)))
  | _, _, p, i, h, .nil => by
    have := (isKey_some h).1
    subst this
    simp [Instr.findNow]
  | (k', v, b) :: l, e :: l', p, i, h, .cons he hl => by
    simp only [keyPos] at h
    cases hq : keyEq (.ag fs) k k' with
    | none => simp [hq] at h
    | some q =>
      obtain ⟨xs, ys, h1, h2, h3, h4, h5⟩ := keyEq_sound hk hq hv he.1
      simp only [Instr.findNow, h2]
      rw [h1, sameNow_sound hk hd h3 h4, h5]
      cases ha : r.agg with
      | true => simp
      | false =>
        simp only [hq] at h
        cases q with
        | true =>
          simp only [Option.some.injEq] at h
          subst h
          simp
        | false =>
          simp only at h
          split at h
          · cases h
          · rename_i r' hr
            simp only [Option.some.injEq] at h
            subst h
            have := findNow_sound hk hd hv (i + 1) hr hl
            rw [h1, ha] at this
            simp only [Bool.false_eq_true, if_false, this]
            cases r' with
            | none => rfl
            | some j => simp [show i + 1 + j = i + (j + 1) by omega]

theorem findKey_sound {kt : Nat} {fs : List Lf} {r : Row} (hk : Keyed P kt fs r) {k : AV} {ck : Value} (hv : VR σ ρ k ck) (w : World)
    {l : List (AV × AV × Nat)} {l' : List MapEntry} {p : Option Nat} (h : keyPos (.ag fs) k l = some p) (hl : F2 (EntR σ ρ) l l') :
    (Instr.findKey kt ck l').run P w = .ok (p.bind fun j => (l'[j]?).map fun e => (j, e.val)) w := by
  obtain ⟨d, hd, htd⟩ := hk.und
  unfold Instr.findKey
  simp only [Sem.run_bind, run_und hd, Result.andThen_ok]
  rw [findNow_sound hk htd hv 0 h hl]
  split
  · rename_i r' hr
    split at hr
    · cases hr
    · simp only [Option.some.injEq] at hr
      subst hr
      simp
  · rw [findAsking_sound hk hv w 0 h hl]
    simp

theorem key_ok {fs : List Lf} {kt : Nat} {r : Row} (hk : Keyed P kt fs r) {k : AV} {ck : Value} (hv : VR σ ρ k ck) {l : List (AV × AV × Nat)} {l' : List MapEntry} {p : Option Nat}
    (h : keyPos (.ag fs) k l = some p) (hl : F2 (EntR σ ρ) l l') (em : Bool) (w : World) : (Instr.checkKey em 10000 kt ck).run P w = .ok () w := by
  cases hl with
  | nil =>
    obtain ⟨_, b, hb⟩ := isKey_some h
    obtain ⟨xs, _, h1, _, h3, _⟩ := keyEq_sound hk hb hv hv
    rw [h1]
    exact hk.check em xs w h3
  | @cons a _ _ _ he hl =>
    obtain ⟨k', v, b⟩ := a
    simp only [keyPos] at h
    cases hq : keyEq (.ag fs) k k' with
    | none => simp [hq] at h
    | some q =>
      obtain ⟨xs, ys, h1, h2, h3, h4, h5⟩ := keyEq_sound hk hq hv he.1
      rw [h1]
      exact hk.check em xs w h3
end
end Go.Ex
/- The operations that read memory: the one theorem. -/
namespace Go.Ex
section
variable {σ : Sig} {ρ : Rho} {X : Cx} {P : Program} {ctx : List (Option Nat)} {scr : List AV} {env : Tr AV} {e : Operand → Value} {E : Env} {s : St} {w : World}

def RVal (σ : Sig) (ρ : Rho) (P : Program) (v : AV) (s : Sem Next) (w : World) : Prop := ∃ cv, VR σ ρ v cv ∧ s.run P w = .ok (.value cv) w

theorem RVal.of {v : AV} {s : Sem Value} (h : ∃ cv, VR σ ρ v cv ∧ s.run P w = .ok cv w) : RVal σ ρ P v (do pure (.value (← s))) w := by
  obtain ⟨cv, h1, h2⟩ := h
  exact ⟨cv, h1, by simp [h2]⟩

theorem mapRow_spec (hty : TyOk P X.ty) {t : Nat} {f : Nat → Nat → Bool} (h : (match X.ty t with
      | none => false
      | some r => match r.td with
        | .map k e => f k e
        | _ => false) = true) : ∃ k e, P.underlying t = some (.map k e) ∧ f k e = true := by
  split at h
  · cases h
  · rename_i r hr
    obtain ⟨_, d, _, hd, htd, _⟩ := row_spec (hty t r hr)
    split at h
    · rename_i k e hk
      rw [hk] at htd
      have := td_map htd
      subst this
      exact ⟨k, e, hd, h⟩
    · cases h

theorem map_obj (h : Rel E ρ s w) {a : Bn} {es : List (AV × AV × Nat)} {clock : Nat} (hg : s.get a = some (.m es clock)) :
    ∃ L ces, ρ a = some L ∧ w.heap[L.b]? = some (.map ces clock) ∧ F2 (EntR E.σ ρ) es ces.toList := by
  obtain ⟨L, hL, ces, h1, h2⟩ := h.obj _ _ hg
  exact ⟨L, ces, hL, h1, h2⟩

theorem lk_sound (hty : TyOk P X.ty) (hev : EvR E.σ ρ X ctx scr env e) (hrel : Rel E ρ s w) {t : Nat} {m k : Operand} {m' k' : AOpd} {ok : Bool} {c : EC} {z v : AV}
    (ht : (match X.ty t with
      | none => false
      | some r => match r.td with
        | .map kt e => X.zeroIs e z && X.keys kt c
        | _ => false) = true) (hm : X.opd ctx m m' = true) (hk : X.opd ctx k k' = true) (h : gLk c z ok m' k' s scr env = some v) :
    ∃ cv, VR E.σ ρ v cv ∧ (Instr.lookup t (e m) (e k) ok).run P w = .ok cv w := by
  obtain ⟨kt, et, hd, hf⟩ := mapRow_spec hty ht
  simp only [Bool.and_eq_true] at hf
  obtain ⟨_, iz, zv, _, hiz, hizz, hzv⟩ := zeroIs_spec (σ := E.σ) (ρ := ρ) hty hf.1
  obtain ⟨fs, r, rfl, hkd⟩ := keys_spec hty hf.2
  have hzr : (zeroValue et).run P w = .ok zv w := run_zeroValue' hiz hizz
  unfold gLk at h
  split at h
  · cases h
  · rename_i kv hkv
    have hK := hev k k' kv hk hkv
    -- what comes of a found value, or none
    have fin : ∀ (ces : Array MapEntry) (es : List (AV × AV × Nat)) (p : Option Nat) (R : Option AV), keyPos (.ag fs) kv es = some p → F2 (EntR E.σ ρ) es ces.toList →
        (match p with
          | none => R = none
          | some j => ∃ x, es[j]? = some x ∧ R = some x.2.1) →
        v = (match R with
          | none => if ok then .tu [z, .b false] else z
          | some y => if ok then .tu [y, .b true] else y) →
        ∃ cv, VR E.σ ρ v cv ∧ ((do
          Instr.checkKey ces.isEmpty 10000 kt (e k)
          let (v, b) ← match ← Instr.findKey kt (e k) ces.toList with
            | some (_, v) => pure (v, true)
            | none => pure (← zeroValue et, false)
          pure (if ok then Value.tuple #[v, .bool b] else v) : Sem Value)).run P w = .ok cv w := by
      intro ces es p R hp hF hR hv
      have h1 := key_ok hkd hK hp hF ces.isEmpty w
      have h2 := findKey_sound hkd hK w hp hF
      cases p with
      | none =>
        simp only at hR
        subst hR
        simp only at hv
        refine ⟨if ok then .tuple #[zv, .bool false] else zv, ?_, ?_⟩
        · cases ok with
          | true => subst hv; simp only [if_true, VR]; exact ⟨[zv, .bool false], VRs.cons hzv (VRs.one (by simp only [VR])), rfl⟩
          | false => subst hv; simpa using hzv
        · simp only [Sem.run_bind, h1, h2, Result.andThen_ok, Option.bind_none, hzr, Sem.run_pure]
      | some j =>
        obtain ⟨x, hx, rfl⟩ := hR
        obtain ⟨y, hy, hxy⟩ := hF.get hx
        simp only at hv
        refine ⟨if ok then .tuple #[y.val, .bool true] else y.val, ?_, ?_⟩
        · cases ok with
          | true => subst hv; simp only [if_true, VR]; exact ⟨[y.val, .bool true], VRs.cons hxy.2.1 (VRs.one (by simp only [VR])), rfl⟩
          | false => subst hv; simpa using hxy.2.1
        · simp only [Sem.run_bind, h1, h2, Result.andThen_ok, Option.bind_some, hy, Option.map_some, Sem.run_pure]
    split at h
    · rename_i hm0
      have := hev m m' _ hm hm0
      simp only [VR] at this
      obtain ⟨cv, h1, h2⟩ := fin #[] [] none none (isKey_of h _) F2.nil rfl (isKey_some h).1
      refine ⟨cv, h1, ?_⟩
      rw [← h2]
      simp only [Instr.lookup, this, Sem.run_bind, run_und hd, Result.andThen_ok, Sem.run_pure]
      rfl
    · rename_i a ha
      have := hev m m' _ hm ha
      simp only [VR] at this
      obtain ⟨L, hL, hex⟩ := this
      split at h
      · rename_i es clock hg
        obtain ⟨L', ces, hL', hb, hF⟩ := map_obj hrel hg
        rw [hL] at hL'
        cases hL'
        have key : ∀ R, keyFind (.ag fs) kv es = some R → v = (match R with
          | none => if ok then .tu [z, .b false] else z
          | some y => if ok then .tu [y, .b true] else y) → ∃ cv, VR E.σ ρ v cv ∧ (Instr.lookup t (e m) (e k) ok).run P w = .ok cv w := by
          intro R hR hv
          obtain ⟨p, hp, hpr⟩ := keyFind_pos hR
          obtain ⟨cv, h1, h2⟩ := fin ces es p R hp hF hpr hv
          refine ⟨cv, h1, ?_⟩
          rw [← h2]
          simp only [Instr.lookup, hex, Sem.run_bind, run_und hd, Result.andThen_ok, MapKept.run_getObj_map hb, Sem.run_pure]
          rfl
        split at h
        · cases h
        · rename_i hR
          simp only [Option.some.injEq] at h
          exact key _ hR h.symm
        · rename_i y hR
          simp only [Option.some.injEq] at h
          exact key _ hR h.symm
      · cases h
    · cases h

theorem toBytes_sound {σ : Sig} {ρ : Rho} : ∀ {l : List AV} {bs : List Nat} {l' : List Value}, toBytes l = some bs → VRs σ ρ l l' → small bs = true ∧ l' = (bs.map Int.ofNat).map (Value.int .u8)
  | [], bs, l', h, hl => by
    simp only [toBytes, Option.some.injEq] at h
    simp only [VRs] at hl
    subst h; subst hl
    exact ⟨rfl, rfl⟩
  | x :: l, bs, l', h, hl => by
    simp only [VRs] at hl
    obtain ⟨y, q, rfl, hy, hq⟩ := hl
    unfold toBytes at h
    split at h
    · rename_i heq
      cases heq
    · rename_i n l2 heq
      simp only [List.cons.injEq] at heq
      obtain ⟨rfl, rfl⟩ := heq
      split at h
      · rename_i hn
        split at h
        · cases h
        · rename_i r hr
          simp only [Option.some.injEq] at h
          subst h
          obtain ⟨h1, h2⟩ := toBytes_sound hr hq
          simp only [VR] at hy
          exact ⟨by simp only [small, Bool.and_eq_true, Nat.blt_eq]; exact ⟨hn, h1⟩, by rw [hy, h2]; rfl⟩
      · cases h
    · cases h

theorem foldl_bytes : ∀ (bs : List Nat) (s : ByteArray), (bs.map Int.ofNat).foldl (fun r n => r.push (UInt8.ofNat n.toNat)) s = ⟨s.data ++ (bs.map UInt8.ofNat).toArray⟩
  | [], s => by cases s; simp
  | b :: bs, s => by
    simp only [List.map_cons, List.foldl_cons, foldl_bytes bs]
    cases s
    simp only [ByteArray.push, ByteArray.mk.injEq]
    apply Array.toList_inj.1
    simp

theorem lastOf_eq : ∀ (l : List Nat), lastOf l = l.getLast?
  | [] => rfl
  | [x] => rfl
  | x :: y :: l => by simp [lastOf, lastOf_eq (y :: l), List.getLast?_cons_cons]

theorem entFind_sound {σ : Sig} {ρ : Rho} {st : Nat} : ∀ {es : List (AV × AV × Nat)} {ces : List MapEntry} {v : AV}, entFind st es = some v → F2 (EntR σ ρ) es ces →
    ∃ en cv, ces.find? (·.born == st) = some en ∧ VR σ ρ v cv ∧ cv = .tuple #[en.key, en.val]
  | _, _, _, h, .nil => by simp [entFind] at h
  | (k, v, b) :: l, en :: ces, u, h, .cons he hl => by
    simp only [entFind] at h
    have hb := he.2.2
    simp only at hb
    by_cases hq : b == st
    · rw [if_pos hq] at h
      simp only [Option.some.injEq] at h
      subst h
      refine ⟨en, _, by simp [List.find?, ← hb, hq], ?_, rfl⟩
      simp only [VR]
      exact ⟨[en.key, en.val], VRs.cons he.1 (VRs.one he.2.1), rfl⟩
    · rw [if_neg hq] at h
      obtain ⟨en', cv, h1, h2⟩ := entFind_sound h hl
      refine ⟨en', cv, ?_, h2⟩
      simp only [Bool.not_eq_true] at hq
      simp [List.find?, ← hb, hq, h1]

theorem rk_sound (hty : TyOk P X.ty) (hev : EvR E.σ ρ X ctx scr env e) (hrel : Rel E ρ s w) {o : Oper} {k : RK} {v : AV} (hk : X.rk ctx o.op k = true) (h : readOp k s scr env = some v) :
    RVal E.σ ρ P v (execOp e o) w := by
  obtain ⟨dst, op, type, pos, after, guard⟩ := o
  simp only at hk
  unfold Cx.rk at hk
  split at hk
  · rename_i t x sz y
    simp only [Bool.and_eq_true] at hk
    obtain ⟨h1, h2⟩ := hk
    refine RVal.of (s := Instr.loadAt t (e x)) ?_
    simp only [readOp, gLd] at h
    split at h
    · rename_i a o hx
      split at h
      · rename_i l hl
        have := hev x y _ h2 hx
        simp only [VR] at this
        obtain ⟨L, hL, hex⟩ := this
        obtain ⟨L', cv, hL', hv, hrun⟩ := ld_sound hty hrel hl h1 h
        rw [hL] at hL'
        cases hL'
        exact ⟨cv, hv, by simp [Instr.loadAt, Instr.sureAddr, hex, hrun]⟩
      · cases h
    · cases h
  · rename_i t m k ok c z ok' m' k'
    simp only [Bool.and_eq_true, decide_eq_true_eq] at hk
    obtain ⟨⟨⟨h1, rfl⟩, h3⟩, h4⟩ := hk
    exact RVal.of (s := Instr.lookup t (e m) (e k) ok) (lk_sound hty hev hrel h1 h3 h4 h)
  · rename_i a t x y
    simp only [Bool.and_eq_true] at hk
    obtain ⟨⟨h1, h2⟩, h3⟩ := hk
    obtain ⟨_, el, _, _, hd, hf⟩ := sli_sound (f := fun e => X.tdIs e fun d => decide (d = .int .u8)) hty h1
    obtain ⟨_, de, _, hde, htd, hde2⟩ := tdIs_spec hty hf
    simp only [decide_eq_true_eq] at hde2
    rw [hde2] at htd
    have := td_int htd
    subst this
    refine RVal.of (s := convert a t (e x)) ?_
    simp only [readOp, gCvBS] at h
    split at h
    · rename_i hx
      simp only [Option.some.injEq] at h
      subst h
      have := hev x y _ h3 hx
      simp only [VR] at this
      refine ⟨.string .empty, by simp only [VR]; exact ⟨rfl, rfl⟩, ?_⟩
      rw [this, run_convert_bytes_string w a t el none 0 0 hd hde (str_sound hty h2)]
      simp [Conv.bytesToString]
    · rename_i a' o n c' ex z' hx
      split at h
      · rename_i hz
        split at h
        · rename_i l hl
          split at h
          · rename_i c hc
            split at h
            · rename_i bs hbs
              simp only [Option.some.injEq] at h
              subst h
              have := hev x y _ h3 hx
              simp only [VR] at this
              obtain ⟨L, kk, hL, hex, _⟩ := this
              obtain ⟨L', cs, el', fr, hL', hb, hrow⟩ := rowOf_sound hrel hl
              rw [hL] at hL'
              cases hL'
              obtain ⟨c', hc1, hc2, hc3⟩ := hrow.cut hc
              obtain ⟨hs, rfl⟩ := toBytes_sound hbs hc1
              have hrun := run_cells (P := P) hb hc3
              rw [hc2] at hrun
              refine ⟨.string (bytesOf bs), by simp only [VR]; exact ⟨trivial, hs⟩, ?_⟩
              rw [hex, run_convert_bytes_string w a t el _ _ _ hd hde (str_sound hty h2), run_bytesToString w _ _ _ _ hrun, foldl_bytes]
              congr 2
              simp [bytesOf, ByteArray.empty, ByteArray.emptyWithCapacity]
              rfl
            · cases h
          · cases h
        · cases h
      · cases h
    · cases h
  · rename_i x y
    refine RVal.of (s := Instr.entry (e x)) ?_
    simp only [readOp, gEn] at h
    split at h
    · rename_i a hx
      have := hev x y _ hk hx
      simp only [VR] at this
      obtain ⟨L, hL, hex⟩ := this
      split at h
      · rename_i m since seen last hg
        obtain ⟨L', hL', hd0, m', hb, L2, hL2, rfl⟩ := hrel.obj _ _ hg
        rw [hL] at hL'
        cases hL'
        split at h
        · rename_i es clock hgm
          obtain ⟨L3, ces, hL3, hbm, hF⟩ := map_obj hrel hgm
          rw [hL2] at hL3
          cases hL3
          split at h
          · rename_i hcl
            split at h
            · rename_i st hst
              obtain ⟨en, cv, h1, h2, rfl⟩ := entFind_sound h hF
              refine ⟨_, h2, ?_⟩
              have hcl' : (clock != last) = false := by simpa using hcl
              have hback : seen.toArray.back? = some st := by rw [lastOf_eq] at hst; simpa using hst
              have hfind : ces.find? (·.born == st) = some en := by rw [← Array.find?_toList]; exact h1
              rw [hex]
              simp only [Instr.entry, getObj, hd0, Nat.add_zero, Sem.run_bind, Sem.run, hb, hbm, hback, Result.andThen_ok, hcl', Bool.false_eq_true, if_false, hfind]
              rfl
            · cases h
          · cases h
        · cases h
      · cases h
    · cases h
  · rename_i args argTypes y
    split at hk
    · rename_i x t ha ht
      simp only [Bool.and_eq_true] at hk
      obtain ⟨h1, h2⟩ := hk
      obtain ⟨_, d, _, hd, htd, hf⟩ := tdIs_spec hty h2
      have ha' : args = #[x] := by cases args; simp_all
      have ht' : argTypes = #[t] := by cases argTypes; simp_all
      subst ha'; subst ht'
      have run1 : (execOp e { dst := dst, op := .call { callee := .builtin .len, args := #[x], argTypes := #[t] }, type := type, pos := pos, after := after, guard := guard } : Sem Next) =
          (do pure (.value (← Builtin.len_ #[t] type #[e x]))) := by
        simp only [execOp, resolve, invoke, pure_bind, List.map_toArray, List.map_cons, List.map_nil]
        rfl
      rw [run1]
      refine RVal.of ?_
      split at hf
      · rename_i k el hkk
        rw [hkk] at htd
        have := td_map htd
        subst this
        simp only [readOp, gLenM] at h
        split at h
        · rename_i hx
          simp only [Option.some.injEq] at h
          subst h
          have := hev x y _ h1 hx
          simp only [VR] at this
          exact ⟨_, by simp only [VR]; rfl, by simp [Builtin.len_, run_und hd, this, goInt]⟩
        · rename_i a hx
          have := hev x y _ h1 hx
          simp only [VR] at this
          obtain ⟨L, hL, hex⟩ := this
          split at h
          · rename_i es clock hg
            simp only [Option.some.injEq] at h
            subst h
            obtain ⟨L', ces, hL', hb, hF⟩ := map_obj hrel hg
            rw [hL] at hL'
            cases hL'
            have hlen := hF.length
            refine ⟨_, by simp only [VR]; rfl, ?_⟩
            have hrun := run_und (w := w) hd
            simp [Builtin.len_, hrun, hex, MapKept.run_getObj_map hb, goInt, ← hlen]
          · cases h
        · cases h
      · cases hf
    · cases hk
  · cases hk
end
end Go.Ex
