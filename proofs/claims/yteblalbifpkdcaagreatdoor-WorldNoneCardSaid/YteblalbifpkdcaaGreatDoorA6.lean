/- The machine's steps at an operation. -/
import Derived.Test.YteblalbifpkdcaaGreatDoorA5
import Derived.AtR
import Derived.RangeFuncIn
namespace Go.Ex

/-- the frame below, its panic recovered -/
def markF (c : Frame) : Frame :=
  match c.mode with
  | .panicking [e] => { c with mode := .panicking [{ e with recovered := true }] }
  | _ => c

def marked (rc : Bool) (cs : List Frame) : List Frame :=
  if rc then (match cs with
    | c :: r => markF c :: r
    | [] => []) else cs

section
variable {P : Program} {b : Frame} {a : Act} {k : List Item} {cs : List Frame} {w w' : World} {ops : Array Oper} {i : Nat} {rest : List Nat} {o : Oper}

theorem fin_atR (ho : ops[i]? = some o) (v : Value) : (b.atR a (.inRegion ops (i :: rest) :: k)).finish v = b.atR (a.put o.dst v) (.inRegion ops rest :: k) := by
  rw [Frame.finish_atR, ho]; rfl

theorem st_value (ho : ops[i]? = some o) (hw : Region.wanted o (yielded ops a.tmps) = true) {v : Value} (hr : (o.semAt b.roundOf a.eval).run P w = .ok (.value v) w') :
    step P (lone (b.atR a (.inRegion ops (i :: rest) :: k)) cs w) = .next (lone (b.atR (a.put o.dst v) (.inRegion ops rest :: k)) cs w') :=
  step_lone_go (by rw [stepGR_op ho hw, ← fin_atR ho]; simp [stepG.apply, hr])

theorem st_skip (ho : ops[i]? = some o) (hw : Region.wanted o (yielded ops a.tmps) = true) (hr : (o.semAt b.roundOf a.eval).run P w = .ok .skip w') :
    step P (lone (b.atR a (.inRegion ops (i :: rest) :: k)) cs w) = .next (lone (b.atR (a.put o.dst undef) (.inRegion ops rest :: k)) cs w') :=
  step_lone_go (by rw [stepGR_op ho hw, ← fin_atR ho]; simp [stepG.apply, hr])

theorem st_unwanted (ho : ops[i]? = some o) (hw : Region.wanted o (yielded ops a.tmps) = false) :
    step P (lone (b.atR a (.inRegion ops (i :: rest) :: k)) cs w) = .next (lone (b.atR (a.put o.dst undef) (.inRegion ops rest :: k)) cs w) := by
  have := stepR_op_skip (P := P) (b := b) (a := a) (k := k) (cs := cs) (w := w) (ops := ops) (i := i) (rest := rest) (by simp [ho, hw])
  rw [ho] at this
  exact this

theorem st_panic (ho : ops[i]? = some o) (hw : Region.wanted o (yielded ops a.tmps) = true) {v : Value} (hr : (o.semAt b.roundOf a.eval).run P w = .halt (.panic v) w') :
    step P (lone (b.atR a (.inRegion ops (i :: rest) :: k)) cs w) = .next (lone { b.atR a (.inRegion ops (i :: rest) :: k) with mode := .panicking [{ v, recovered := false }] } cs w') :=
  step_lone_go (by rw [stepGR_op ho hw, ← Frame.raise_atR]; simp [stepG.apply, hr])

theorem st_defer (ho : ops[i]? = some o) (hw : Region.wanted o (yielded ops a.tmps) = true) {d : Deferred} (hr : (o.semAt b.roundOf a.eval).run P w = .ok (.defer d) w') :
    step P (lone (b.atR a (.inRegion ops (i :: rest) :: k)) cs w) = .next (lone (b.atR ({ a with defers := d :: a.defers }.put o.dst undef) (.inRegion ops rest :: k)) cs w') := by
  have : ({ b.atR a (.inRegion ops (i :: rest) :: k) with defers := d :: a.defers } : Frame).finish undef =
      b.atR ({ a with defers := d :: a.defers }.put o.dst undef) (.inRegion ops rest :: k) := by
    have := Frame.finish_atR b { a with defers := d :: a.defers } ops i rest k undef
    rw [ho] at this; exact this
  refine step_lone_go ?_
  rw [stepGR_op ho hw]
  simp only [stepG.apply, Sem.runT_eq, hr, GStep.bare_after]
  exact congrArg (fun fr => GStep.go { frame := fr, callers := cs, status := .running, dying := none } w') this

theorem st_enter (ho : ops[i]? = some o) (hw : Region.wanted o (yielded ops a.tmps) = true) {g : FuncId} {args : Array Value} (hr : (o.semAt b.roundOf a.eval).run P w = .ok (.enter g args) w') :
    step P (lone (b.atR a (.inRegion ops (i :: rest) :: k)) cs w) = .next (lone (Frame.enter P g args .normal) (b.atR a (.inRegion ops (i :: rest) :: k) :: cs) w') :=
  step_lone_go (by rw [stepGR_op ho hw]; simp [stepG.apply, hr, Frame.atR])

theorem st_round (ho : ops[i]? = some o) (hw : Region.wanted o (yielded ops a.tmps) = true) {l : Nat} {g : FuncId} {tmps : Array Value} {asg body : Code}
    (hr : (o.semAt b.roundOf a.eval).run P w = .ok (.round l g tmps asg body) w') :
    step P (lone (b.atR a (.inRegion ops (i :: rest) :: k)) cs w) = .next (lone (Frame.round l g tmps asg body .normal) (b.atR a (.inRegion ops (i :: rest) :: k) :: cs) w') :=
  step_lone_go (by rw [stepGR_op ho hw]; simp [stepG.apply, hr, Frame.atR])

theorem st_recover_some (hb : b.roundOf = none) (ho : ops[i]? = some o) (hw : Region.wanted o (yielded ops a.tmps) = true) (hr : (o.semAt b.roundOf a.eval).run P w = .ok .recover w') {v : Value} {cs' : List Frame}
    (ht : tryRecover (b.atR a (.inRegion ops (i :: rest) :: k)) cs = some (v, cs')) :
    step P (lone (b.atR a (.inRegion ops (i :: rest) :: k)) cs w) = .next (lone (b.atR (a.put o.dst v) (.inRegion ops rest :: k)) cs' w') := by
  have hro : (b.atR a (.inRegion ops (i :: rest) :: k)).roundOf = none := hb
  refine step_lone_go ?_
  rw [stepGR_op ho hw, ← fin_atR ho]
  simp only [stepG.apply, Sem.runT_eq, hr, GStep.bare_after, hro, ht]
  rfl

theorem st_recover_none (hb : b.roundOf = none) (ho : ops[i]? = some o) (hw : Region.wanted o (yielded ops a.tmps) = true) (hr : (o.semAt b.roundOf a.eval).run P w = .ok .recover w')
    (ht : tryRecover (b.atR a (.inRegion ops (i :: rest) :: k)) cs = none) :
    step P (lone (b.atR a (.inRegion ops (i :: rest) :: k)) cs w) = .next (lone (b.atR (a.put o.dst .nilIface) (.inRegion ops rest :: k)) cs w') := by
  have hro : (b.atR a (.inRegion ops (i :: rest) :: k)).roundOf = none := hb
  refine step_lone_go ?_
  rw [stepGR_op ho hw, ← fin_atR ho]
  simp only [stepG.apply, Sem.runT_eq, hr, GStep.bare_after, hro, ht]
  rfl

theorem st_scope {c : Code} : step P (lone (b.atR a (.code (.scope c) :: k)) cs w) = .next (lone (b.atR a (.code c :: .inScope c :: k)) cs w) :=
  step_lone_go (by simp [stepG, stepG.exec, Frame.atR])

theorem st_inScope {c : Code} : step P (lone (b.atR a (.inScope c :: k)) cs w) = .next (lone (b.atR a k) cs w) :=
  step_lone_go (by simp [stepG, stepG.exec, Frame.atR])
end
end Go.Ex
/- How an abstract frame stands to the machine's; where a piece of code lands. -/
namespace Go.Ex

def ScrR (σ : Sig) (ρ : Rho) (ctx : List (Option Nat)) (scr : List AV) (tmps : Array Value) : Prop :=
  ∀ t n v, idx ctx t = some n → nth scr n = some v → VR σ ρ v (tmps.getD t undef)

theorem ScrR.nil {σ : Sig} {ρ : Rho} {tmps : Array Value} {ctx : List (Option Nat)} : ScrR σ ρ ctx [] tmps := by
  intro t n v _ h
  cases n <;> simp [nth] at h

theorem ScrR.mono {σ : Sig} {ρ ρ' : Rho} {ctx : List (Option Nat)} {scr : List AV} {tmps : Array Value} (h : ScrR σ ρ ctx scr tmps) (hr : ρ.le ρ') : ScrR σ ρ' ctx scr tmps :=
  fun t n v h1 h2 => VR.mono hr _ _ (h t n v h1 h2)

theorem can_zero : ∀ {b : Bn}, b.can = true → b.val = 0 → b = .e
  | .e, _, _ => rfl
  | .i b, _, h => by simp only [Bn.val] at h; omega
  | .o b, hb, h => by
    simp only [Bn.can, Bool.and_eq_true, Bool.not_eq_true'] at hb
    simp only [Bn.val] at h
    have := can_zero hb.2 (by omega)
    subst this
    simp [Bn.isE] at hb

theorem can_inj : ∀ {a b : Bn}, a.can = true → b.can = true → a.val = b.val → a = b
  | .e, b, _, hb, h => (can_zero hb h.symm).symm
  | .o a, .e, ha, _, h => can_zero ha h
  | .i a, .e, _, _, h => by simp only [Bn.val] at h; omega
  | .o a, .o b, ha, hb, h => by
    simp only [Bn.can, Bool.and_eq_true] at ha hb
    simp only [Bn.val] at h
    rw [can_inj ha.2 hb.2 (by omega)]
  | .i a, .i b, ha, hb, h => by
    simp only [Bn.can] at ha hb
    simp only [Bn.val] at h
    rw [can_inj ha hb (by omega)]
  | .o a, .i b, _, _, h => by simp only [Bn.val] at h; omega
  | .i a, .o b, _, _, h => by simp only [Bn.val] at h; omega

def DfR (σ : Sig) (ρ : Rho) : AD → Deferred → Prop
  | .call g args, d => ∃ (capt dargs : Array Value), d = { target := .fn (.func g.val) capt, args := dargs } ∧ VRs σ ρ args (dargs ++ capt).toList
  | .coll a, d => ∃ L, ρ a = some L ∧ d = { target := .collected L.b, args := #[] }

theorem DfR.mono {σ : Sig} {ρ ρ' : Rho} (hr : ρ.le ρ') {x : AD} {d : Deferred} (h : DfR σ ρ x d) : DfR σ ρ' x d := by
  cases x with
  | call g args => obtain ⟨c, a, h1, h2⟩ := h; exact ⟨c, a, h1, VRs.mono hr _ _ h2⟩
  | coll a => obtain ⟨L, h1, h2⟩ := h; exact ⟨L, hr _ _ h1, h2⟩

/-- a chain of one panic -/
abbrev pmode (v : Value) : FrameMode := .panicking [{ v, recovered := false }]

structure FrR (E : Env) (X : Cx) (ρ : Rho) (f : Fr) (a : Act) (b : Frame) (cs0 : List Frame) : Prop where
  env : EnvR E.σ ρ X.K f.env a.tmps
  size : X.N ≤ a.tmps.size
  df : F2 (DfR E.σ ρ) f.df a.defers
  ro : match f.ro with
    | none => b.roundOf = none
    | some (l, _) => ∃ L, ρ l = some L ∧ b.roundOf = some L.b
  pn : ∀ v, f.pn = some v → b.kind = .deferred ∧ f.rc = false ∧ ∃ c rest v', cs0 = c :: rest ∧ c.mode = pmode v' ∧ VR E.σ ρ v v'
  np : f.pn = none → f.ro = none → ∀ fr : Frame, fr.kind = b.kind → tryRecover fr (marked f.rc cs0) = none
  fn : ∃ fn, E.P.funcs[b.fn]? = some fn

theorem FrR.mono {E : Env} {X : Cx} {ρ ρ' : Rho} {f : Fr} {a : Act} {b : Frame} {cs0 : List Frame} (h : FrR E X ρ f a b cs0) (hr : ρ.le ρ') : FrR E X ρ' f a b cs0 where
  env := h.env.mono hr
  size := h.size
  df := h.df.imp fun _ _ => DfR.mono hr
  ro := by
    have := h.ro
    split at this
    · exact this
    · obtain ⟨L, h1, h2⟩ := this
      exact ⟨L, hr _ _ h1, h2⟩
  pn v hv := by
    obtain ⟨h1, h2, c, rest, v', h3, h4, h5⟩ := h.pn v hv
    exact ⟨h1, h2, c, rest, v', h3, h4, VR.mono hr _ _ h5⟩
  np := h.np
  fn := h.fn

/-- a frame without its temporaries -/
def bare (f : Fr) : Fr := { f with env := .lf }

theorem FrR.bare {E : Env} {X : Cx} {ρ : Rho} {f : Fr} {a : Act} {b : Frame} {cs0 : List Frame} (h : FrR E X ρ f a b cs0) : FrR E X ρ (bare f) a b cs0 :=
  { env := fun b v _ hg => by simp only [Ex.bare, Tr.get_lf] at hg; cases hg
    size := h.size, df := h.df, ro := h.ro, pn := h.pn, np := h.np, fn := h.fn }

theorem FrR.full {E : Env} {X : Cx} {ρ : Rho} {f : Fr} {a : Act} {b : Frame} {cs0 : List Frame} (h : FrR E X ρ (Ex.bare f) a b cs0) (he : EnvR E.σ ρ X.K f.env a.tmps) : FrR E X ρ f a b cs0 :=
  { env := he, size := h.size, df := h.df, ro := h.ro, pn := h.pn, np := h.np, fn := h.fn }

theorem FrR.ro_none {E : Env} {X : Cx} {ρ : Rho} {f : Fr} {a : Act} {b : Frame} {cs0 : List Frame} (h : FrR E X ρ (Ex.bare f) a b cs0) (hro : f.ro = none) : b.roundOf = none := by
  have := h.ro
  simp only [Ex.bare] at this
  rw [hro] at this
  exact this

/-- the check's types and globals are those that all goes by -/
structure XOk (E : Env) (X : Cx) : Prop where
  ty : X.ty = E.ty
  gl : X.gl = E.gl
  ok : TyOk E.P E.ty

theorem XOk.tyok {E : Env} {X : Cx} (h : XOk E X) : TyOk E.P X.ty := by rw [h.ty]; exact h.ok

section
variable {E : Env} {X : Cx} {ρ : Rho} {s : St} {w : World} {f : Fr} {a : Act} {b : Frame} {cs0 : List Frame} {ctx : List (Option Nat)} {scr : List AV}

theorem evR_of' {env : Tr AV} (hx : XOk E X) (hrel : Rel E ρ s w) (he : ∀ b v, b.can = true → env.get b = some v → idx ctx b.val = none → VR E.σ ρ v (a.tmps.getD b.val undef))
    (hs : ScrR E.σ ρ ctx scr a.tmps) : EvR E.σ ρ X ctx scr env a.eval := by
  intro x y v hk ho
  unfold Cx.opd at hk
  split at hk
  · rename_i t n
    unfold isNat at hk
    split at hk
    · rename_i m n' hm
      simp only [Nat.beq_eq] at hk
      subst hk
      exact hs t _ v hm ho
    · cases hk
  · rename_i t bb
    simp only [Bool.and_eq_true, Nat.beq_eq] at hk
    obtain ⟨⟨h1, rfl⟩, h3⟩ := hk
    refine he bb v h1 ho ?_
    cases hi : idx ctx bb.val with
    | none => rfl
    | some n => rw [hi] at h3; simp [isNone'] at h3
  · simp only [opd, Option.some.injEq] at ho
    subst ho
    exact constOk_sound _ _ _ _ hk
  · rename_i g bb
    simp only [Bool.and_eq_true, Nat.beq_eq] at hk
    obtain ⟨⟨rfl, h2⟩, h3⟩ := hk
    simp only [opd, Option.some.injEq] at ho
    subst ho
    rw [hx.gl] at h3
    obtain ⟨t, ht⟩ := hrel.glob bb h3 h2
    simp only [VR]
    exact ⟨_, ht, rfl⟩
  · rename_i g bb
    simp only [Nat.beq_eq] at hk
    subst hk
    simp only [opd, Option.some.injEq] at ho
    subst ho
    simp only [VR]
    exact ⟨[], [], VRs.nil, VRs.nil, rfl⟩
  · cases hk

theorem evR_of {env : Tr AV} (hx : XOk E X) (hrel : Rel E ρ s w) (he : EnvR E.σ ρ X.K env a.tmps) (hs : ScrR E.σ ρ ctx scr a.tmps) : EvR E.σ ρ X ctx scr env a.eval :=
  evR_of' hx hrel (fun b v h1 h2 _ => (he b v h1 h2).2) hs

theorem want_sound {env : Tr AV} {ops : Array Oper} {o : Oper} {g : Option (AOpd × Bool)} {r : Bool} (hev : EvR E.σ ρ X ctx scr env a.eval) (hg : X.guard ctx ops o.guard g = true)
    (h : want g scr env = some r) : Region.wanted o (yielded ops a.tmps) = r := by
  unfold Cx.guard at hg
  unfold Region.wanted
  split at hg
  · rename_i h1
    rw [h1]
    simp only [want, Option.some.injEq] at h
    exact h
  · rename_i j bb x b' h1
    rw [h1]
    simp only [Bool.and_eq_true, decide_eq_true_eq] at hg
    obtain ⟨hg, rfl⟩ := hg
    split at hg
    · rename_i t ht
      have hd : (ops[j]?).bind (·.dst) = some t := by
        unfold dstOf at ht
        split at ht
        · rename_i o' ho'; rw [ho']; exact ht
        · cases ht
      simp only [want] at h
      split at h
      · rename_i y hy
        simp only [Option.some.injEq] at h
        have hv := hev (.tmp t) x _ hg hy
        simp only [VR, Act.eval] at hv
        have hlt : a.tmps[t]? = some (.bool y) := by
          rw [Array.getD_eq_getD_getElem?] at hv
          cases hq : a.tmps[t]? with
          | none => rw [hq] at hv; simp [undef] at hv
          | some q => rw [hq] at hv; simpa using hv
        simp only [yielded, hd, Option.bind_some, hlt]
        rw [← h]
        cases y <;> cases bb <;> rfl
      · rename_i l hy
        simp only [Option.some.injEq] at h
        have hv := hev (.tmp t) x _ hg hy
        simp only [VR, Act.eval] at hv
        obtain ⟨l', _, hv⟩ := hv
        rw [Array.getD_eq_getD_getElem?] at hv
        simp only [yielded, hd, Option.bind_some]
        cases hq : a.tmps[t]? with
        | none => rw [← h]; rfl
        | some q =>
          rw [hq] at hv
          simp only [Option.getD_some] at hv
          subst hv
          rw [← h]
          rfl
      · cases h
    · cases hg
  · cases hg

-- what is kept of a value
theorem put_size {d : Option Tmp} {v : Value} : (a.put d v).tmps.size = a.tmps.size := by
  unfold Act.put; split <;> simp
theorem put_defers {d : Option Tmp} {v : Value} : (a.put d v).defers = a.defers := by
  unfold Act.put; split <;> rfl
theorem put_other {d : Option Tmp} {v : Value} {t : Nat} (h : d ≠ some t) : (a.put d v).tmps.getD t undef = a.tmps.getD t undef := by
  unfold Act.put
  split
  · rename_i u
    have : u ≠ t := fun e => h (by rw [e])
    simp only [Array.getD_eq_getD_getElem?, Array.getElem?_setIfInBounds]
    rw [if_neg this]
  · rfl
theorem put_same {v : Value} {t : Nat} (h : t < a.tmps.size) : (a.put (some t) v).tmps.getD t undef = v := by
  simp [Act.put, h]

theorem ScrR.push {d : Option Nat} {v : AV} {cv : Value} (h : ScrR E.σ ρ ctx scr a.tmps) (hv : VR E.σ ρ v cv) (hd : ∀ t, d = some t → t < a.tmps.size) :
    ScrR E.σ ρ (d :: ctx) (v :: scr) (a.put d cv).tmps := by
  intro t n u hi hn
  unfold idx at hi
  split at hi
  · rename_i h0; cases h0
  · rename_i u' l heq
    simp only [List.cons.injEq] at heq
    obtain ⟨rfl, rfl⟩ := heq
    split at hi
    · rename_i e
      simp only [Nat.beq_eq] at e
      subst e
      simp only [Option.some.injEq] at hi
      subst hi
      simp only [nth, Option.some.injEq] at hn
      subst hn
      rw [put_same (hd _ rfl)]
      exact hv
    · rename_i e
      simp only [Nat.beq_eq] at e
      simp only [Option.map_eq_some_iff] at hi
      obtain ⟨m, hm, rfl⟩ := hi
      simp only [nth] at hn
      rw [put_other (by intro e'; cases e'; exact e rfl)]
      exact h t m u hm hn
  · rename_i l heq
    simp only [List.cons.injEq] at heq
    obtain ⟨rfl, rfl⟩ := heq
    simp only [Option.map_eq_some_iff] at hi
    obtain ⟨m, hm, rfl⟩ := hi
    simp only [nth] at hn
    exact h t m u hm hn

theorem EnvR.keep {d : Option Nat} {d' : Option Bn} {v : AV} {cv : Value} (h : EnvR E.σ ρ X.K f.env a.tmps) (hv : VR E.σ ρ v cv) (hd : X.dst d d' = true) (hN : X.N ≤ a.tmps.size) :
    EnvR E.σ ρ X.K (keep f d' v).env (a.put d cv).tmps := by
  unfold Cx.dst at hd
  split at hd
  · exact h
  · rename_i t
    simp only [Bool.and_eq_true, Nat.blt_eq, Bool.not_eq_true'] at hd
    intro b u hc hg
    obtain ⟨h1, h2⟩ := h b u hc hg
    refine ⟨h1, ?_⟩
    rw [put_other (by intro e; cases e; rw [hd.2] at h1; cases h1)]
    exact h2
  · rename_i t bb
    simp only [Bool.and_eq_true, Nat.blt_eq, Nat.beq_eq] at hd
    obtain ⟨⟨⟨hlt, hK⟩, rfl⟩, hcan⟩ := hd
    intro b u hc hg
    simp only [Ex.keep, Tr.get_set] at hg
    split at hg
    · rename_i e
      subst e
      simp only [Option.some.injEq] at hg
      subst hg
      exact ⟨hK, by rw [put_same (by omega)]; exact hv⟩
    · rename_i hne
      obtain ⟨h1, h2⟩ := h b u hc hg
      exact ⟨h1, by rw [put_other (fun e => hne (can_inj hc hcan (Option.some.inj e).symm))]; exact h2⟩
  · cases hd

theorem dst_lt {d : Option Nat} {d' : Option Bn} (hd : X.dst d d' = true) (hN : X.N ≤ a.tmps.size) : ∀ t, d = some t → t < a.tmps.size := by
  rintro t rfl
  unfold Cx.dst at hd
  split at hd <;> simp_all
  all_goals omega

theorem keep_rest (f : Fr) (d : Option Bn) (v : AV) : (keep f d v).df = f.df ∧ (keep f d v).pn = f.pn ∧ (keep f d v).rc = f.rc ∧ (keep f d v).ro = f.ro := by
  unfold keep; split <;> exact ⟨rfl, rfl, rfl, rfl⟩

theorem FrR.put {d : Option Nat} {d' : Option Bn} {v : AV} {cv : Value} (h : FrR E X ρ f a b cs0) (hv : VR E.σ ρ v cv) (hd : X.dst d d' = true) :
    FrR E X ρ (keep f d' v) (a.put d cv) b cs0 := by
  obtain ⟨k1, k2, k3, k4⟩ := keep_rest f d' v
  exact { env := h.env.keep hv hd h.size
          size := by rw [put_size]; exact h.size
          df := by rw [k1, put_defers]; exact h.df
          ro := by rw [k4]; exact h.ro
          pn := by rw [k2, k3]; exact h.pn
          np := by rw [k2, k3, k4]; exact h.np
          fn := h.fn }

-- where a piece of code lands
def Keeps (j : AJ) (k₁ k : List Item) : Prop :=
  match j with
  | .ex id => exitTo id k₁ = exitTo id k
  | .gt l => gotoIn l k₁ = gotoIn l k
  | .rt => True

theorem Keeps.refl (j : AJ) (k : List Item) : Keeps j k k := by cases j <;> simp [Keeps]
theorem Keeps.trans {j : AJ} {a b c : List Item} (h : Keeps j a b) (h' : Keeps j b c) : Keeps j a c := by
  cases j <;> simp only [Keeps] at *
  · rw [h, h']
  · rw [h, h']
theorem Keeps.plain {j : AJ} {x : Item} {k : List Item} (h : x.plain = true) : Keeps j (x :: k) k := by
  cases j <;> simp only [Keeps]
  · exact exitTo_plain h _ _
  · exact gotoIn_plain h _ _

def Ld (E : Env) (X : Cx) (ρ : Rho) (s : St) (w : World) (m : Machine) (b : Frame) (k : List Item) (cs0 : List Frame) : Out → Prop
  | .x _ => True
  | .n f' s' => ∃ ρ' w' a', Rel E ρ' s' w' ∧ Ext s ρ w s' ρ' w' ∧ FrR E X ρ' f' a' b cs0 ∧ Steps E.P m (lone (b.atR a' k) (marked f'.rc cs0) w')
  | .j j f' s' => ∃ ρ' w' a' k₁, Rel E ρ' s' w' ∧ Ext s ρ w s' ρ' w' ∧ FrR E X ρ' f' a' b cs0 ∧ Keeps j k₁ k ∧ Steps E.P m (lone (b.atR a' (.code (jc j) :: k₁)) (marked f'.rc cs0) w')
  | .p v f' s' => ∃ ρ' w' a' todo v', Rel E ρ' s' w' ∧ Ext s ρ w s' ρ' w' ∧ FrR E X ρ' f' a' b cs0 ∧ VR E.σ ρ' v v' ∧
      Steps E.P m (lone { b.atR a' todo with mode := pmode v' } (marked f'.rc cs0) w')

def Lands (E : Env) (X : Cx) (ρ : Rho) (s : St) (w : World) (m : Machine) (b : Frame) (k : List Item) (cs0 : List Frame) (outs : List Out) : Prop := ∃ o ∈ outs, Ld E X ρ s w m b k cs0 o

theorem Ld.pre {ρ' : Rho} {s' : St} {w' : World} {m m' : Machine} {k : List Item} {o : Out} (he : Ext s ρ w s' ρ' w') (hs : Steps E.P m m') (h : Ld E X ρ' s' w' m' b k cs0 o) : Ld E X ρ s w m b k cs0 o := by
  cases o with
  | x _ => trivial
  | n f' s2 => obtain ⟨ρ2, w2, a2, h1, h2, h3, h4⟩ := h; exact ⟨ρ2, w2, a2, h1, he.trans h2, h3, hs.trans h4⟩
  | j j f' s2 => obtain ⟨ρ2, w2, a2, k1, h1, h2, h3, h4, h5⟩ := h; exact ⟨ρ2, w2, a2, k1, h1, he.trans h2, h3, h4, hs.trans h5⟩
  | p v f' s2 => obtain ⟨ρ2, w2, a2, td, v', h1, h2, h3, h4, h5⟩ := h; exact ⟨ρ2, w2, a2, td, v', h1, he.trans h2, h3, h4, hs.trans h5⟩

theorem Lands.pre {ρ' : Rho} {s' : St} {w' : World} {m m' : Machine} {k : List Item} {outs : List Out} (he : Ext s ρ w s' ρ' w') (hs : Steps E.P m m') (h : Lands E X ρ' s' w' m' b k cs0 outs) :
    Lands E X ρ s w m b k cs0 outs := let ⟨o, ho, hl⟩ := h; ⟨o, ho, hl.pre he hs⟩

theorem Lands.bad {m : Machine} {k : List Item} {y : String} : Lands E X ρ s w m b k cs0 [.x y] := ⟨.x y, List.mem_singleton.2 rfl, trivial⟩

theorem mem_bindO {K : Out → List Out} : ∀ {outs : List Out} {o o' : Out}, o ∈ outs → o' ∈ K o → o' ∈ bindO K outs
  | [x], o, o', h, h' => by simp only [List.mem_singleton] at h; subst h; exact h'
  | x :: y :: l, o, o', h, h' => by
    simp only [bindO, List.mem_append]
    rcases List.mem_cons.1 h with rfl | h
    · exact .inl h'
    · exact .inr (mem_bindO h h')

theorem mem_bindE {K : AV → Fr → St → List Out} {v : AV} {f : Fr} {s : St} {o' : Out} : ∀ {outs : List EOut}, EOut.v v f s ∈ outs → o' ∈ K v f s → o' ∈ bindE K outs
  | [x], h, h' => by
    simp only [List.mem_singleton] at h
    subst h
    exact h'
  | x :: y :: l, h, h' => by
    rcases List.mem_cons.1 h with rfl | h
    · simp only [bindE, List.mem_append]; exact .inl h'
    · have := mem_bindE h h'
      cases x <;> simp only [bindE, List.mem_append, List.mem_cons]
      · exact .inr this
      · exact .inr this
      · exact .inr this

theorem mem_bindE_p {K : AV → Fr → St → List Out} {v : AV} {f : Fr} {s : St} : ∀ {outs : List EOut}, EOut.p v f s ∈ outs → Out.p v f s ∈ bindE K outs
  | x :: l, h => by
    rcases List.mem_cons.1 h with rfl | h
    · simp [bindE]
    · have := mem_bindE_p (K := K) h
      cases x with
      | v v2 f2 s2 => cases l with
        | nil => simp at h
        | cons y l => simp only [bindE, List.mem_append]; exact .inr this
      | p v2 f2 s2 => simp only [bindE]; exact List.mem_cons_of_mem _ this
      | x m => simp only [bindE]; exact List.mem_cons_of_mem _ this

theorem mem_bindE_x {K : AV → Fr → St → List Out} {m : String} : ∀ {outs : List EOut}, EOut.x m ∈ outs → Out.x m ∈ bindE K outs
  | x :: l, h => by
    rcases List.mem_cons.1 h with rfl | h
    · simp [bindE]
    · have := mem_bindE_x (K := K) h
      cases x with
      | v v2 f2 s2 => cases l with
        | nil => simp at h
        | cons y l => simp only [bindE, List.mem_append]; exact .inr this
      | p v2 f2 s2 => simp only [bindE]; exact List.mem_cons_of_mem _ this
      | x m => simp only [bindE]; exact List.mem_cons_of_mem _ this
end
end Go.Ex
/- One operation: what the machine does is one of the outcomes. -/
namespace Go.Ex
section
variable (E : Env)

def KindOk (ρ : Rho) (pn : Option AV) (K : CallKind) (cs : List Frame) : Prop :=
  (∀ v, pn = some v → K = .deferred ∧ ∃ c rest v', cs = c :: rest ∧ c.mode = pmode v' ∧ VR E.σ ρ v v') ∧
  (pn = none → ∀ fr : Frame, fr.kind = K → tryRecover fr cs = none)

def CLd (ρ : Rho) (s : St) (w : World) (m : Machine) (g : FuncId) (K : CallKind) (cs : List Frame) : COut → Prop
  | .x _ => True
  | .r v s' rc => ∃ ρ' w' fr v', Rel E ρ' s' w' ∧ Ext s ρ w s' ρ' w' ∧ VR E.σ ρ' v v' ∧ Steps E.P m (lone fr (marked rc cs) w') ∧ fr.kind = K ∧ fr.mode = .returning ∧ fr.defers = [] ∧ fr.fn = g ∧
      ∃ fn, E.P.funcs[g]? = some fn ∧ (results fn fr.tmps).run E.P w' = .ok v' w'
  | .p v s' rc => ∃ ρ' w' fr v', Rel E ρ' s' w' ∧ Ext s ρ w s' ρ' w' ∧ VR E.σ ρ' v v' ∧ Steps E.P m (lone fr (marked rc cs) w') ∧ fr.kind = K ∧ fr.mode = pmode v' ∧ fr.defers = [] ∧ fr.fn = g ∧ ∃ fn, E.P.funcs[g]? = some fn

def YLd (ρ : Rho) (s : St) (w : World) (m : Machine) (c : Frame) (cs : List Frame) : COut → Prop
  | .x _ => True
  | .r v s' _ => ∃ ρ' w' v', Rel E ρ' s' w' ∧ Ext s ρ w s' ρ' w' ∧ VR E.σ ρ' v v' ∧ Steps E.P m (lone (c.finish v') cs w')
  | .p v s' _ => ∃ ρ' w' v', Rel E ρ' s' w' ∧ Ext s ρ w s' ρ' w' ∧ VR E.σ ρ' v v' ∧ Steps E.P m (lone (c.raise [{ v := v', recovered := false }]) cs w')

/-- the evaluators are sound -/
structure EvOk (e : Ev) : Prop where
  cd : ∀ {X : Cx} {c : Code} {c' : AC} {f : Fr} {s : St} {ρ : Rho} {w : World} {a : Act} {b : Frame} (k : List Item) {cs0 : List Frame}, XOk E X → X.code E.P c c' = true → Rel E ρ s w → FrR E X ρ f a b cs0 →
    Lands E X ρ s w (lone (b.atR a (.code c :: k)) (marked f.rc cs0) w) b k cs0 (e.cd c' f s)
  lp : ∀ {X : Cx} {c : Code} {c' : AC} {f : Fr} {s : St} {ρ : Rho} {w : World} {a : Act} {b : Frame} (k : List Item) {cs0 : List Frame}, XOk E X → X.code E.P c c' = true → Rel E ρ s w → FrR E X ρ f a b cs0 →
    Lands E X ρ s w (lone (b.atR a (.inLoop c :: k)) (marked f.rc cs0) w) b k cs0 (e.cd (.lp c') f s)
  sg : ∀ {X : Cx} {c d : Code} {c' d' : AC} {f : Fr} {s : St} {ρ : Rho} {w : World} {a : Act} {b : Frame} (k : List Item) {cs0 : List Frame}, XOk E X → X.code E.P c c' = true → X.code E.P d d' = true → Rel E ρ s w → FrR E X ρ f a b cs0 →
    Lands E X ρ s w (lone (b.atR a (.code d :: .inScope c :: k)) (marked f.rc cs0) w) b k cs0 (e.cd (.sg c' d') f s)
  cl : ∀ {g : Bn} {args : List AV} {cargs : Array Value} {pn : Option AV} {s : St} {ρ : Rho} {w : World} {K : CallKind} {cs : List Frame}, Rel E ρ s w → VRs E.σ ρ args cargs.toList → KindOk E ρ pn K cs →
    (∃ m, COut.x m ∈ e.cl g args pn s) ∨ (bodied E.P g.val = true ∧ ∃ o ∈ e.cl g args pn s, CLd E ρ s w (lone (Frame.enter E.P g.val cargs K) cs w) g.val K cs o)
  yl : ∀ {l : Bn} {L : Loc} {args : List AV} {cargs : Array Value} {s : St} {ρ : Rho} {w : World}, Rel E ρ s w → VRs E.σ ρ args cargs.toList → ρ l = some L →
    (∃ m, COut.x m ∈ e.yl l args s) ∨ ∃ g tmps asg body, (Instr.yield L.b cargs).run E.P w = .ok (.round L.b g tmps asg body) w ∧
      ∀ (c : Frame) (cs : List Frame), c.mode = .run → ∃ o ∈ e.yl l args s, YLd E ρ s w (lone (Frame.round L.b g tmps asg body .normal) (c :: cs) w) c cs o
end

section
variable {E : Env} {X : Cx} {ρ : Rho} {s : St} {w : World} {f : Fr} {a : Act} {b : Frame} {cs0 : List Frame} {ctx : List (Option Nat)} {scr : List AV} {k : List Item} {ops : Array Oper} {i : Nat} {rest : List Nat} {o : Oper}

theorem marked_run {rc : Bool} {c : Frame} {cs : List Frame} (h : c.mode = .run) : marked rc (c :: cs) = c :: cs := by
  unfold marked markF
  cases rc <;> simp [h]

theorem kind_normal {ρ : Rho} {cs : List Frame} : KindOk E ρ none .normal cs :=
  ⟨fun v h => (by cases h), fun _ fr h => (by unfold tryRecover; rw [h])⟩

/-- where one operation lands -/
def OLd (E : Env) (X : Cx) (ρ : Rho) (s : St) (w : World) (m : Machine) (f : Fr) (a : Act) (b : Frame) (ops : Array Oper) (rest : List Nat) (k : List Item) (cs0 : List Frame) (o : Oper) : EOut → Prop
  | .x _ => True
  | .v v f' s' => ∃ ρ' w' a' cv, Rel E ρ' s' w' ∧ Ext s ρ w s' ρ' w' ∧ FrR E X ρ' (bare f') a' b cs0 ∧ (f'.env = f.env ∧ a'.tmps = a.tmps) ∧ VR E.σ ρ' v cv ∧
      Steps E.P m (lone (b.atR (a'.put o.dst cv) (.inRegion ops rest :: k)) (marked f'.rc cs0) w')
  | .p v f' s' => ∃ ρ' w' a' todo v', Rel E ρ' s' w' ∧ Ext s ρ w s' ρ' w' ∧ FrR E X ρ' (bare f') a' b cs0 ∧ (f'.env = f.env ∧ a'.tmps = a.tmps) ∧ VR E.σ ρ' v v' ∧
      Steps E.P m (lone { b.atR a' todo with mode := pmode v' } (marked f'.rc cs0) w')

def OLands (E : Env) (X : Cx) (ρ : Rho) (s : St) (w : World) (m : Machine) (f : Fr) (a : Act) (b : Frame) (ops : Array Oper) (rest : List Nat) (k : List Item) (cs0 : List Frame) (o : Oper) (outs : List EOut) : Prop :=
  ∃ x ∈ outs, OLd E X ρ s w m f a b ops rest k cs0 o x

theorem OLands.bad {m : Machine} {y : String} : OLands E X ρ s w m f a b ops rest k cs0 o (eBad y) := ⟨.x y, by simp [eBad], trivial⟩

/-- an operation that runs no code -/
theorem OLands.of {outs : List EOut} (hrel : Rel E ρ s w) (hf : FrR E X ρ (bare f) a b cs0) (ho : ops[i]? = some o) (hw : Region.wanted o (yielded ops a.tmps) = true)
    (h : Eff E E.P ρ s w (o.semAt b.roundOf a.eval) f outs) : OLands E X ρ s w (lone (b.atR a (.inRegion ops (i :: rest) :: k)) (marked f.rc cs0) w) f a b ops rest k cs0 o outs := by
  obtain ⟨x, hx, h⟩ := h
  refine ⟨x, hx, ?_⟩
  cases x with
  | x _ => trivial
  | v v f' s' =>
    obtain ⟨rfl, ρ', w', nv, cv, h1, h2, h3, h4, h5⟩ := h
    refine ⟨ρ', w', a, cv, h3, h4, hf.mono h4.le, ⟨rfl, rfl⟩, h5, ?_⟩
    rcases h2 with rfl | ⟨rfl, rfl⟩
    · exact .one (st_value ho hw h1)
    · exact .one (st_skip ho hw h1)
  | p v f' s' =>
    obtain ⟨rfl, rfl, cv, h1, h2⟩ := h
    exact ⟨ρ, w, a, _, cv, hrel, .refl _ _ _, hf, ⟨rfl, rfl⟩, h2, .one (st_panic ho hw h1)⟩


/-- a call's outcomes, seen from the operation -/
theorem mem_ofC {f : Fr} : ∀ {outs : List COut} {o : COut}, o ∈ outs → (match o with
    | .r v s _ => EOut.v v f s
    | .p v s _ => EOut.p v f s
    | .x m => EOut.x m) ∈ ofC f outs
  | x :: l, o, h => by
    rcases List.mem_cons.1 h with rfl | h
    · cases o <;> simp [ofC]
    · have := mem_ofC (f := f) h
      cases x <;> simp only [ofC] <;> exact List.mem_cons_of_mem _ this

theorem step_returned {fr c : Frame} {cs : List Frame} {v : Value} (hk : fr.kind = .normal) (hm : fr.mode = .returning) (hd : fr.defers = []) {fn : Func} (hf : E.P.funcs[fr.fn]? = some fn)
    (hr : (results fn fr.tmps).run E.P w = .ok v w) : step E.P (lone fr (c :: cs) w) = .next (lone (c.finish v) cs w) :=
  step_leave_returned ⟨hm, hd, hk, fn, hf, hr⟩

theorem step_panicked {fr c : Frame} {cs : List Frame} {v : Value} (hm : fr.mode = pmode v) (hd : fr.defers = []) {fn : Func} (hf : E.P.funcs[fr.fn]? = some fn) :
    step E.P (lone fr (c :: cs) w) = .next (lone (c.raise [{ v, recovered := false }]) cs w) :=
  step_leave_panicked ⟨hm, hd, fn, hf⟩

/-- a function is entered by an operation -/
theorem OLands.call {e : Ev} (he : EvOk E e) (hrel : Rel E ρ s w) (hf : FrR E X ρ (bare f) a b cs0) (ho : ops[i]? = some o) (hw : Region.wanted o (yielded ops a.tmps) = true) {g : Bn} {args : List AV} {cargs : Array Value}
    (hargs : VRs E.σ ρ args cargs.toList) (hr : bodied E.P g.val = true → (o.semAt b.roundOf a.eval).run E.P w = .ok (.enter g.val cargs) w) :
    OLands E X ρ s w (lone (b.atR a (.inRegion ops (i :: rest) :: k)) (marked f.rc cs0) w) f a b ops rest k cs0 o (ofC f (e.cl g args none s)) := by
  rcases he.cl (cs := b.atR a (.inRegion ops (i :: rest) :: k) :: marked f.rc cs0) hrel hargs kind_normal with ⟨m, hm⟩ | ⟨hb, x, hx, hl⟩
  · exact ⟨_, mem_ofC hm, trivial⟩
  · refine ⟨_, mem_ofC hx, ?_⟩
    have hrun : (b.atR a (.inRegion ops (i :: rest) :: k)).mode = .run := rfl
    have h1 := st_enter (cs := marked f.rc cs0) (k := k) (rest := rest) ho hw (hr hb)
    cases x with
    | x _ => trivial
    | r v s' rc =>
      obtain ⟨ρ', w', fr, v', a1, a2, a3, a4, a5, a6, a7, a8, fn, a9, a10⟩ := hl
      rw [marked_run hrun] at a4
      refine ⟨ρ', w', a, v', a1, a2, hf.mono a2.le, ⟨rfl, rfl⟩, a3, .head h1 (a4.trans (.one ?_))⟩
      rw [← fin_atR ho]
      exact step_returned a5 a6 a7 (by rw [a8]; exact a9) a10
    | p v s' rc =>
      obtain ⟨ρ', w', fr, v', a1, a2, a3, a4, a5, a6, a7, a8, fn, a9⟩ := hl
      rw [marked_run hrun] at a4
      refine ⟨ρ', w', a, .inRegion ops (i :: rest) :: k, v', a1, a2, hf.mono a2.le, ⟨rfl, rfl⟩, a3, .head h1 (a4.trans (.one ?_))⟩
      rw [← Frame.raise_atR]
      exact step_panicked a6 a7 (by rw [a8]; exact a9)

/-- a round of a loop, by its yield -/
theorem OLands.yield {e : Ev} (he : EvOk E e) (hrel : Rel E ρ s w) (hf : FrR E X ρ (bare f) a b cs0) (ho : ops[i]? = some o) (hw : Region.wanted o (yielded ops a.tmps) = true) {l : Bn} {L : Loc} {args : List AV} {cargs : Array Value}
    (hargs : VRs E.σ ρ args cargs.toList) (hL : ρ l = some L) (hr : (o.semAt b.roundOf a.eval).run E.P w = (Instr.yield L.b cargs).run E.P w) :
    OLands E X ρ s w (lone (b.atR a (.inRegion ops (i :: rest) :: k)) (marked f.rc cs0) w) f a b ops rest k cs0 o (ofC f (e.yl l args s)) := by
  rcases he.yl hrel hargs hL with ⟨m, hm⟩ | ⟨g, tmps, asg, body, hy, hall⟩
  · exact ⟨_, mem_ofC hm, trivial⟩
  · obtain ⟨x, hx, hl⟩ := hall (b.atR a (.inRegion ops (i :: rest) :: k)) (marked f.rc cs0) rfl
    refine ⟨_, mem_ofC hx, ?_⟩
    have h1 := st_round (cs := marked f.rc cs0) (k := k) (rest := rest) ho hw (hr.trans hy)
    cases x with
    | x _ => trivial
    | r v s' rc =>
      obtain ⟨ρ', w', v', a1, a2, a3, a4⟩ := hl
      rw [fin_atR ho] at a4
      exact ⟨ρ', w', a, v', a1, a2, hf.mono a2.le, ⟨rfl, rfl⟩, a3, .head h1 a4⟩
    | p v s' rc =>
      obtain ⟨ρ', w', v', a1, a2, a3, a4⟩ := hl
      rw [Frame.raise_atR] at a4
      exact ⟨ρ', w', a, _, v', a1, a2, hf.mono a2.le, ⟨rfl, rfl⟩, a3, .head h1 a4⟩

theorem bodied_spec {P : Program} {g : FuncId} (h : bodied P g = true) : ∃ fn, P.funcs[g]? = some fn ∧ (fn.name == "runtime.NumGoroutine") = false ∧ ∃ c, fn.body = some c := by
  unfold bodied at h
  split at h
  · rename_i fn hf
    simp only [Bool.and_eq_true, Bool.not_eq_true', Option.isSome_iff_exists] at h
    exact ⟨fn, hf, h.2, h.1⟩
  · cases h

theorem run_callFunc {P : Program} {g : FuncId} (h : bodied P g = true) (args : Array Value) (w : World) : (callFunc g args).run P w = .ok (.enter g args) w := by
  obtain ⟨fn, hf, hn, c, hc⟩ := bodied_spec h
  unfold callFunc
  simp only [Sem.run_bind, run_program, Result.andThen_ok, hf, hn, hc]
  simp

theorem run_method' {P : Program} {t : TypeId} {i : TypeInfo} {el : TypeId} {name : String} {m : Method} {g : FuncId} {v : Value} (hi : P.info? t = some i) (hm : i.methods.find? (·.name == name) = some m)
    (hp : m.path.isEmpty = true) (hf : m.func = some (g, true)) (hu : P.underlying t = some (.pointer el)) (n : Nat) (w : World) : (method (n + 1) t v name).run P w = .ok (g, v) w := by
  have hp' : m.path.toList = [] := by simpa using hp
  unfold method
  simp only [Sem.run_bind, run_typeInfo' hi, Result.andThen_ok, hm, hp', follow, Sem.run_pure, hf, receiverAt, run_und hu, Place.get]

theorem tbl_spec {P : Program} {name : String} : ∀ {tbl : List (Nat × Bn)} {t : Nat} {g : Bn}, tblOk P name tbl = true → findT t tbl = some g →
    ∃ i m el, P.info? t = some i ∧ i.methods.find? (·.name == name) = some m ∧ m.path.isEmpty = true ∧ m.func = some (g.val, true) ∧ P.underlying t = some (.pointer el)
  | [], t, g, _, h => by simp [findT] at h
  | (u, q) :: l, t, g, h, hf => by
    simp only [tblOk, Bool.and_eq_true] at h
    simp only [findT] at hf
    split at hf
    · rename_i e
      simp only [beq_iff_eq] at e
      simp only [Option.some.injEq] at hf
      subst e; subst hf
      have h1 := h.1
      split at h1
      · rename_i i hi
        split at h1
        · rename_i m hm
          simp only [Bool.and_eq_true] at h1
          obtain ⟨⟨a1, a2⟩, a3⟩ := h1
          split at a2
          · rename_i f hff
            simp only [Nat.beq_eq] at a2
            split at a3
            · rename_i el hel
              exact ⟨i, m, el, hi, hm, a1, by rw [hff, a2], hel⟩
            · cases a3
          · cases a2
        · cases h1
      · cases h1
    · exact tbl_spec h.2 hf
end
end Go.Ex
/- Effects: the one theorem. -/
namespace Go.Ex
section
variable {E : Env} {X : Cx} {ρ : Rho} {s : St} {w : World} {f : Fr} {a : Act} {b : Frame} {cs0 : List Frame} {ctx : List (Option Nat)} {scr : List AV} {k : List Item} {ops : Array Oper} {i : Nat} {rest : List Nat} {o : Oper}

theorem list1 {α : Type} {a : Array α} {x : α} (h : a.toList = [x]) : a = #[x] := by cases a; simp_all
theorem list2 {α : Type} {a : Array α} {x y : α} (h : a.toList = [x, y]) : a = #[x, y] := by cases a; simp_all

theorem map2 {α β : Type} (g : α → β) (x y : α) : (#[x, y] : Array α).map g = #[g x, g y] := by simp

/-- a function's value is called -/
theorem OLands.callV {e : Ev} (he : EvOk E e) (hrel : Rel E ρ s w) (hf : FrR E X ρ (bare f) a b cs0) (ho : ops[i]? = some o) (hw : Region.wanted o (yielded ops a.tmps) = true) {gv : AV} {cg : Value} {args : List AV} {cargs : Array Value}
    (hg : VR E.σ ρ gv cg) (hargs : VRs E.σ ρ args cargs.toList) (hr : ∀ d, (Deferred.ofValue cg cargs) = pure d → (o.semAt b.roundOf a.eval).run E.P w = (invoke d.target d.args).run E.P w) :
    OLands E X ρ s w (lone (b.atR a (.inRegion ops (i :: rest) :: k)) (marked f.rc cs0) w) f a b ops rest k cs0 o (ofC f (callV e gv args s)) := by
  unfold Ex.callV
  split
  · rename_i fn first caps
    simp only [VR] at hg
    obtain ⟨x', y', h1, h2, rfl⟩ := hg
    refine OLands.call (cargs := (x'.toArray ++ cargs) ++ y'.toArray) he hrel hf ho hw (by simpa using (h1.append hargs).append h2) fun hb => ?_
    rw [hr _ rfl]
    simp only [invoke]
    exact run_callFunc hb _ w
  · rename_i l
    simp only [VR] at hg
    obtain ⟨L, hL, rfl⟩ := hg
    refine OLands.yield (cargs := cargs) he hrel hf ho hw hargs hL ?_
    rw [hr _ rfl]
    simp only [invoke]
    simp
  · exact ⟨.x "call of what", by simp [ofC], trivial⟩

theorem evL {as : Array Operand} {ys : List AOpd} {vs : List AV} (hev : EvR E.σ ρ X ctx scr f.env a.eval) (hk : X.opds ctx as.toList ys = true) (ho : opds scr f.env ys = some vs) :
    VRs E.σ ρ vs (as.map a.eval).toList := by
  rw [Array.toList_map]
  exact hev.list _ _ _ hk ho

theorem ek_sound {a0 : Act} {e : Ev} (hx : XOk E X) (he : EvOk E e) (hrel : Rel E ρ s w) (hf : FrR E X ρ (bare f) a b cs0) (hev : EvR E.σ ρ X ctx scr f.env a0.eval) (hsem : o.semAt b.roundOf a.eval = o.semAt b.roundOf a0.eval) (ho : ops[i]? = some o) (hw : Region.wanted o (yielded ops a.tmps) = true) {kk : EK}
    (hk : X.ek E.P ctx o.op kk = true) :
    OLands E X ρ s w (lone (b.atR a (.inRegion ops (i :: rest) :: k)) (marked f.rc cs0) w) f a b ops rest k cs0 o (effOp kk e scr f s) := by
  have hty := hx.tyok
  have sem : (∀ c, o.op ≠ .defer c) → o.semAt b.roundOf a.eval = execOp a0.eval o := fun h => hsem.trans (Oper.semAt_eq _ _ _ h)
  generalize hop : o.op = op at hk
  unfold Cx.ek at hk
  split at hk
  -- store
  · rename_i t x y sz x' y'
    simp only [Bool.and_eq_true] at hk
    obtain ⟨⟨h1, h2⟩, h3⟩ := hk
    refine OLands.of hrel hf ho hw ?_
    rw [sem (by simp [hop])]
    have : execOp a0.eval o = (do Instr.storeAt t (a0.eval x) (a0.eval y); pure .skip) := by simp only [execOp, hop]
    rw [this]
    exact st_sound' (ev := e) hty hrel hev h1 h2 h3
  -- mapUpdate
  · rename_i t m k x c m' k' x'
    simp only [Bool.and_eq_true] at hk
    obtain ⟨⟨⟨h1, h2⟩, h3⟩, h4⟩ := hk
    refine OLands.of hrel hf ho hw ?_
    rw [sem (by simp [hop])]
    have : execOp a0.eval o = (do Instr.mapUpdate t (a0.eval m) (a0.eval k) (a0.eval x); pure .skip) := by simp only [execOp, hop]
    rw [this]
    exact mu_sound (ev := e) hty hrel hev h1 h2 h3 h4
  -- insert
  · rename_i t m k x c m' k' x'
    simp only [Bool.and_eq_true] at hk
    obtain ⟨⟨⟨h1, h2⟩, h3⟩, h4⟩ := hk
    refine OLands.of hrel hf ho hw ?_
    rw [sem (by simp [hop])]
    have : execOp a0.eval o = (do Instr.mapUpdate t (a0.eval m) (a0.eval k) (a0.eval x); pure .skip) := by simp only [execOp, hop]
    rw [this]
    exact mu_sound (ev := e) hty hrel hev h1 h2 h3 h4
  -- range over a map
  · rename_i t x y
    simp only [Bool.and_eq_true] at hk
    obtain ⟨h1, h2⟩ := hk
    refine OLands.of hrel hf ho hw ?_
    rw [sem (by simp [hop])]
    have : execOp a0.eval o = (do pure (.value (← Instr.range t (a0.eval x)))) := by simp only [execOp, hop]
    rw [this]
    exact rngM_sound (ev := e) hty hrel hev h1 h2
  -- next
  · rename_i x bb b' y
    simp only [Bool.and_eq_true, decide_eq_true_eq] at hk
    obtain ⟨rfl, h2⟩ := hk
    refine OLands.of hrel hf ho hw ?_
    rw [sem (by simp [hop])]
    have : execOp a0.eval o = (do pure (.value (← Instr.next (a0.eval x) bb o.type))) := by simp only [execOp, hop]
    rw [this]
    exact nx_sound (ev := e) hrel hev h2
  -- panic
  · rename_i x y
    refine OLands.of hrel hf ho hw ?_
    rw [sem (by simp [hop])]
    have : execOp a0.eval o = (do pure (.value (← Instr.panic (a0.eval x)))) := by simp only [execOp, hop]
    rw [this]
    exact pan_sound (ev := e) hev hk
  -- defer
  · rename_i g args ts gg ys
    simp only [Bool.and_eq_true] at hk
    obtain ⟨h1, h2⟩ := hk
    simp only [effOp]
    unfold eDfr
    split
    · rename_i fn first caps hg
      split
      · rename_i vs hvs
        split
        · rename_i hro
          have hb : b.roundOf = none := hf.ro_none hro
          have hG := hev _ _ _ h1 hg
          simp only [VR] at hG
          obtain ⟨x', y', hx1, hy1, hex⟩ := hG
          have hA := evL hev h2 hvs
          have hrun : (o.semAt b.roundOf a.eval).run E.P w = .ok (.defer { target := .fn (.func fn.val) y'.toArray, args := x'.toArray ++ args.map a0.eval }) w := by
            rw [hsem, hb, Oper.semAt_none]
            simp [execOp, hop, resolve, hex, Deferred.ofValue]
          refine ⟨_, List.mem_singleton.2 rfl, ρ, w, { a with defers := { target := .fn (.func fn.val) y'.toArray, args := x'.toArray ++ args.map a0.eval } :: a.defers }, undef, hrel, .refl _ _ _, ?_, ⟨rfl, rfl⟩, undefA_sound,
            .one (st_defer ho hw hrun)⟩
          exact { env := hf.env, size := hf.size, ro := hf.ro, pn := hf.pn, np := hf.np, fn := hf.fn
                  df := .cons ⟨y'.toArray, x'.toArray ++ args.map a0.eval, rfl, by simpa using (hx1.append hA).append hy1⟩ hf.df }
        · exact OLands.bad
      · exact OLands.bad
    · exact OLands.bad
  -- a call of a function
  · rename_i g args ts gg ys
    simp only [Bool.and_eq_true, Nat.beq_eq] at hk
    obtain ⟨⟨rfl, h1⟩, h2⟩ := hk
    simp only [effOp]
    unfold eCallF
    split
    · rename_i vs hvs
      have hA := evL hev h2 hvs
      refine OLands.call (cargs := args.map a0.eval) he hrel hf ho hw hA fun hb => ?_
      rw [sem (by simp [hop])]
      simp [execOp, hop, resolve, Act.eval, Deferred.ofValue, invoke, run_callFunc hb]
    · exact OLands.bad
  -- maps.clone
  · rename_i g args ts y
    simp only [effOp]
    split at hk
    · rename_i fn hfn
      simp only [Bool.and_eq_true, beq_iff_eq] at hk
      obtain ⟨⟨⟨h1, h2⟩, h3⟩, h4⟩ := hk
      split at h4
      · rename_i x hax
        have hax' := list1 hax
        subst hax'
        refine OLands.of hrel hf ho hw ?_
        rw [sem (by simp [hop])]
        have : execOp a0.eval o = callFunc g #[a0.eval x] := by
          have e1 : a0.eval (.func g) = .func (.func g) #[] #[] := rfl
          simp only [execOp, hop, resolve, e1, Deferred.ofValue, pure_bind, invoke]
          simp
        rw [this]
        exact clone_sound (ev := e) hrel hev h4 hfn h1 h2 h3
      · cases h4
    · cases hk
  -- a call of a function's value
  · rename_i g args ts gg ys _
    simp only [Bool.and_eq_true] at hk
    obtain ⟨h1, h2⟩ := hk
    simp only [effOp]
    unfold eCallV
    split
    · rename_i gv hgv
      split
      · rename_i vs hvs
        refine OLands.callV he hrel hf ho hw (hev _ _ _ h1 hgv) (evL hev h2 hvs) fun d hd => ?_
        rw [sem (by simp [hop])]
        simp only [execOp, hop, resolve, hd, pure_bind]
      · exact OLands.bad
    · exact OLands.bad
  -- a call of a method
  · rename_i r name args ts tbl r' ys
    simp only [Bool.and_eq_true] at hk
    obtain ⟨⟨h1, h2⟩, h3⟩ := hk
    simp only [effOp]
    unfold eInv
    split
    · rename_i t v hr
      split
      · rename_i g hg
        split
        · rename_i vs hvs
          have hR := hev _ _ _ h2 hr
          simp only [VR] at hR
          obtain ⟨v', hv', hex⟩ := hR
          obtain ⟨ti, mm, el, a1, a2, a3, a4, a5⟩ := tbl_spec h1 hg
          have hA := evL hev h3 hvs
          refine OLands.call (cargs := #[v'] ++ args.map a0.eval) he hrel hf ho hw (by simpa using VRs.cons hv' (by simpa using hA)) fun hb => ?_
          rw [sem (by simp [hop])]
          have hd : Made.depth = (Made.depth - 1) + 1 := by decide
          have hm : ∀ w, (method (E.P.types.size + Made.depth) t v' name).run E.P w = .ok (g.val, v') w := fun w => by
            rw [hd, ← Nat.add_assoc]
            exact run_method' a1 a2 a3 a4 a5 _ w
          simp only [execOp, hop, resolve, pure_bind, invoke]
          have h0 : (#[a0.eval r] ++ Array.map a0.eval args)[0]? = some (.iface t v') := by rw [hex]; simp [Array.getElem?_append]
          simp only [h0, callMethod, Sem.run_bind, run_program, Result.andThen_ok, hm]
          have h4 : #[v'] ++ (#[a0.eval r] ++ Array.map a0.eval args).extract 1 (#[a0.eval r] ++ Array.map a0.eval args).size = #[v'] ++ Array.map a0.eval args := by
            congr 1
            apply Array.toList_inj.1
            simp
            rw [List.take_of_length_le (by simp)]
          rw [h4]
          exact run_callFunc hb _ w
        · exact OLands.bad
      · exact OLands.bad
    · exact OLands.bad
  -- a built-in
  · rename_i kk bi args ts
    have hb : ∀ {as : Array Value}, as = args.map a0.eval → execOp a0.eval o = builtin bi ts o.type (args.map fun | .const _ => true | _ => false) as := by
      rintro _ rfl
      simp only [execOp, hop, resolve, invoke, pure_bind]
      rfl
    split at hk
    · rename_i sz x' y'
      split at hk
      · rename_i x y t u hax hts
        simp only [Bool.and_eq_true] at hk
        obtain ⟨⟨⟨h1, h2⟩, h3⟩, h4⟩ := hk
        refine OLands.of hrel hf ho hw ?_
        rw [sem (by simp [hop]), hb rfl, list2 hax, list2 hts, map2 a0.eval]
        exact app_sound (ev := e) hty hrel hev h1 h2 h3 h4
      · cases hk
    · rename_i x' y'
      split at hk
      · rename_i x y t u hax hts
        simp only [Bool.and_eq_true] at hk
        obtain ⟨⟨⟨h1, h2⟩, h3⟩, h4⟩ := hk
        refine OLands.of hrel hf ho hw ?_
        rw [sem (by simp [hop]), hb rfl, list2 hax, list2 hts, map2 a0.eval]
        exact appT_sound (ev := e) hty hrel hev h1 h2 h3 h4
      · cases hk
    · rename_i c m' k'
      split at hk
      · rename_i m k t tl hax hts
        simp only [Bool.and_eq_true] at hk
        obtain ⟨⟨h1, h2⟩, h3⟩ := hk
        refine OLands.of hrel hf ho hw ?_
        rw [sem (by simp [hop]), hb rfl, list2 hax]
        have ht0 : ts[0]? = some t := by cases ts; simp_all
        exact del_sound (ev := e) hty hrel hev h1 h2 h3 ht0 (by simp) (by simp)
      · cases hk
    · simp only [effOp]
      unfold eRcv
      split
      · exact OLands.bad
      · rename_i hro
        have hb0 : b.roundOf = none := hf.ro_none hro
        have hrun : (o.semAt b.roundOf a.eval).run E.P w = .ok .recover w := by
          rw [sem (by simp [hop]), hb rfl]
          simp [builtin]
        split
        · rename_i v hv
          obtain ⟨hK, hrc, c, rest', v', rfl, hm, hvv⟩ := hf.pn v hv
          have ht : tryRecover (b.atR a (.inRegion ops (i :: rest) :: k)) (c :: rest') = some (v', { c with mode := .panicking [{ v := v', recovered := true }] } :: rest') := by
            have : (b.atR a (.inRegion ops (i :: rest) :: k)).kind = .deferred := hK
            unfold tryRecover
            simp only [this, hm]
          refine ⟨_, List.mem_singleton.2 rfl, ρ, w, a, v', hrel, .refl _ _ _, ?_, ⟨rfl, rfl⟩, hvv, .one ?_⟩
          · exact { env := hf.env, size := hf.size, df := hf.df, ro := hf.ro, fn := hf.fn
                    pn := fun v h => by cases h
                    np := fun _ _ fr hfr => by
                      unfold tryRecover
                      rw [hfr, hK]
                      simp [marked, markF, hm, bare] }
          · have h1 : marked f.rc (c :: rest') = c :: rest' := by rw [show f.rc = false from hrc]; rfl
            have h2 : marked true (c :: rest') = { c with mode := .panicking [{ v := v', recovered := true }] } :: rest' := by simp [marked, markF, hm]
            rw [h1]
            show step E.P _ = .next (lone _ (marked true (c :: rest')) w)
            rw [h2]
            exact st_recover_some hb0 ho hw hrun ht
        · rename_i hv
          refine ⟨_, List.mem_singleton.2 rfl, ρ, w, a, .nilIface, hrel, .refl _ _ _, hf, ⟨rfl, rfl⟩, by simp only [VR], .one ?_⟩
          exact st_recover_none hb0 ho hw hrun (hf.np hv hro _ rfl)
    · cases hk
  · cases hk
end
end Go.Ex
/- A region whose order is the text's. -/
namespace Go.Ex
section
variable {E : Env} {X : Cx} {ρ : Rho} {s : St} {w : World} {f : Fr} {a : Act} {b : Frame} {cs0 : List Frame} {ctx : List (Option Nat)} {scr : List AV} {k : List Item} {ops : Array Oper} {i : Nat} {rest : List Nat} {o : Oper}

theorem pk_no {P : Program} {kk : PK} {op : Op} (h : X.pk P ctx op kk = true) : ∀ c, op ≠ .defer c := by
  rintro c rfl
  unfold Cx.pk at h
  split at h <;> simp_all
theorem rk_no {kk : RK} {op : Op} (h : X.rk ctx op kk = true) : ∀ c, op ≠ .defer c := by
  rintro c rfl
  unfold Cx.rk at h
  split at h <;> simp_all
theorem mk_no {kk : MK} {op : Op} (h : X.mk' ctx op kk = true) : ∀ c, op ≠ .defer c := by
  rintro c rfl
  unfold Cx.mk' at h
  split at h <;> simp_all

/-- one operation of a region, wanted or not: the machine goes on behind it -/
structure Past (E : Env) (X : Cx) (ρ : Rho) (s : St) (w : World) (m : Machine) (a : Act) (b : Frame) (ops : Array Oper) (rest : List Nat) (k : List Item) (cs0 : List Frame) (o : Oper) (v : AV) (f' : Fr) (s' : St)
    (ρ' : Rho) (w' : World) (a' : Act) (cv : Value) : Prop where
  rel : Rel E ρ' s' w'
  ext : Ext s ρ w s' ρ' w'
  fr : FrR E X ρ' f' a' b cs0
  tm : a'.tmps = a.tmps
  val : VR E.σ ρ' v cv
  steps : Steps E.P m (lone (b.atR (a'.put o.dst cv) (.inRegion ops rest :: k)) (marked f'.rc cs0) w')

theorem unwanted_past (hrel : Rel E ρ s w) (hf : FrR E X ρ f a b cs0) (ho : ops[i]? = some o) (hw : Region.wanted o (yielded ops a.tmps) = false) :
    Past E X ρ s w (lone (b.atR a (.inRegion ops (i :: rest) :: k)) (marked f.rc cs0) w) a b ops rest k cs0 o undefA f s ρ w a undef :=
  ⟨hrel, .refl _ _ _, hf, rfl, undefA_sound, .one (st_unwanted ho hw)⟩

theorem p_past (hx : XOk E X) (hrel : Rel E ρ s w) (hf : FrR E X ρ f a b cs0) (hs : ScrR E.σ ρ ctx scr a.tmps) (ho : ops[i]? = some o) (hw : Region.wanted o (yielded ops a.tmps) = true) {kk : PK} {v : AV}
    (hk : X.pk E.P ctx o.op kk = true) (h : pureOp kk scr f.env = some v) :
    ∃ cv, Past E X ρ s w (lone (b.atR a (.inRegion ops (i :: rest) :: k)) (marked f.rc cs0) w) a b ops rest k cs0 o v f s ρ w a cv := by
  obtain ⟨cv, h1, h2⟩ := pk_sound hx.tyok (evR_of hx hrel hf.env hs) hk h
  exact ⟨cv, hrel, .refl _ _ _, hf, rfl, h1, .one (st_value ho hw (by rw [Oper.semAt_eq _ _ _ (pk_no hk)]; exact h2 w))⟩

theorem r_past (hx : XOk E X) (hrel : Rel E ρ s w) (hf : FrR E X ρ f a b cs0) (hs : ScrR E.σ ρ ctx scr a.tmps) (ho : ops[i]? = some o) (hw : Region.wanted o (yielded ops a.tmps) = true) {kk : RK} {v : AV}
    (hk : X.rk ctx o.op kk = true) (h : readOp kk s scr f.env = some v) :
    ∃ cv, Past E X ρ s w (lone (b.atR a (.inRegion ops (i :: rest) :: k)) (marked f.rc cs0) w) a b ops rest k cs0 o v f s ρ w a cv := by
  obtain ⟨cv, h1, h2⟩ := rk_sound hx.tyok (evR_of hx hrel hf.env hs) hrel hk h
  exact ⟨cv, hrel, .refl _ _ _, hf, rfl, h1, .one (st_value ho hw (by rw [Oper.semAt_eq _ _ _ (rk_no hk)]; exact h2))⟩

theorem m_past (hx : XOk E X) (hrel : Rel E ρ s w) (hf : FrR E X ρ f a b cs0) (hs : ScrR E.σ ρ ctx scr a.tmps) (ho : ops[i]? = some o) (hw : Region.wanted o (yielded ops a.tmps) = true) {kk : MK} {v : AV} {ob : AO}
    (hk : X.mk' ctx o.op kk = true) (h : makeOp kk s.nx scr f.env = some (v, ob)) :
    ∃ ρ' w' cv, Past E X ρ s w (lone (b.atR a (.inRegion ops (i :: rest) :: k)) (marked f.rc cs0) w) a b ops rest k cs0 o v f (newH s ob) ρ' w' a cv := by
  obtain ⟨cv, cob, L, h1, h2, h3⟩ := mk_sound (E := E) hx.tyok (evR_of hx hrel hf.env hs) (fun _ => rfl) hk h w
  obtain ⟨h4, h5⟩ := h3 (ρ.add s.nx L) (Rho.add_le hrel.nx) Rho.add_self
  obtain ⟨r1, r2⟩ := hrel.new (w' := w.alloc cob) (L := L) (o := ob) h2 (by simp) (fun b hb => Go.RowKit.Below.heap_alloc w _ b hb) rfl rfl rfl (h5 _ (by show (w.heap.push cob)[L.b]? = _; rw [h2]; simp))
  exact ⟨_, _, cv, r1, r2, hf.mono r2.le, rfl, h4, .one (st_value ho hw (by rw [Oper.semAt_eq _ _ _ (mk_no hk)]; exact h1))⟩

theorem ops_sound {e : Ev} (hx : XOk E X) (he : EvOk E e) : ∀ (os : List Oper) (l : List AP) (i : Nat) (ctx : List (Option Nat)) (scr : List AV) (f : Fr) (s : St) (ρ : Rho) (w : World) (a : Act),
    ops.toList.drop i = os → X.rg E.P ops ctx os l = true → Rel E ρ s w → FrR E X ρ f a b cs0 → ScrR E.σ ρ ctx scr a.tmps →
    Lands E X ρ s w (lone (b.atR a (.inRegion ops (List.range' i os.length) :: k)) (marked f.rc cs0) w) b k cs0 (runOps e l scr f s)
  | [], l, i, ctx, scr, f, s, ρ, w, a, _, hk, hrel, hf, hs => by
    cases l with
    | nil => exact ⟨_, List.mem_singleton.2 rfl, ρ, w, a, hrel, .refl _ _ _, hf, .one stepR_region_end⟩
    | cons x l => simp [Cx.rg] at hk
  | o :: os, l, i, ctx, scr, f, s, ρ, w, a, hd, hk, hrel, hf, hs => by
    cases l with
    | nil => simp [Cx.rg] at hk
    | cons x l =>
      simp only [Cx.rg, Cx.ap, Bool.and_eq_true] at hk
      obtain ⟨⟨⟨hak, hg⟩, hdst⟩, hrg⟩ := hk
      have hi : i < ops.toList.length := by
        rcases Nat.lt_or_ge i ops.toList.length with h | h
        · exact h
        · rw [List.drop_of_length_le h] at hd; cases hd
      rw [List.drop_eq_getElem_cons hi] at hd
      simp only [List.cons.injEq] at hd
      obtain ⟨ho1, hd'⟩ := hd
      have ho : ops[i]? = some o := by
        rw [← ho1]; simp at hi; simp [hi]
      have hev := evR_of hx hrel hf.env hs
      have go : ∀ {v : AV} {f' : Fr} {s' : St} {ρ' : Rho} {w' : World} {a' : Act} {cv : Value},
          Past E X ρ s w (lone (b.atR a (.inRegion ops (i :: List.range' (i + 1) os.length) :: k)) (marked f.rc cs0) w) a b ops (List.range' (i + 1) os.length) k cs0 o v f' s' ρ' w' a' cv →
          Lands E X ρ s w (lone (b.atR a (.inRegion ops (List.range' i (o :: os).length) :: k)) (marked f.rc cs0) w) b k cs0 (runOps e l (v :: scr) (keep f' x.d v) s') := by
        intro v f' s' ρ' w' a' cv hp
        have hs' : ScrR E.σ ρ' ctx scr a'.tmps := by rw [hp.tm]; exact hs.mono hp.ext.le
        have ih := ops_sound hx he os l (i + 1) (o.dst :: ctx) (v :: scr) (keep f' x.d v) s' ρ' w' (a'.put o.dst cv) hd' hrg hp.rel (hp.fr.put hp.val hdst) (hs'.push hp.val (dst_lt hdst hp.fr.size))
        rw [(keep_rest f' x.d v).2.2.1] at ih
        exact ih.pre hp.ext hp.steps
      unfold runOps
      split
      · exact Lands.bad
      · rename_i hw
        exact go (unwanted_past hrel hf ho (want_sound hev hg hw))
      · rename_i hw
        have hwant := want_sound hev hg hw
        unfold Cx.ak at hak
        split
        · rename_i kk hkk
          rw [hkk] at hak
          split
          · rename_i v hv
            obtain ⟨cv, hp⟩ := p_past hx hrel hf hs ho hwant hak hv
            exact go hp
          · exact Lands.bad
        · rename_i kk hkk
          rw [hkk] at hak
          split
          · rename_i v hv
            obtain ⟨cv, hp⟩ := r_past hx hrel hf hs ho hwant hak hv
            exact go hp
          · exact Lands.bad
        · rename_i kk hkk
          rw [hkk] at hak
          split
          · rename_i v ob hv
            obtain ⟨ρ', w', cv, hp⟩ := m_past hx hrel hf hs ho hwant hak hv
            exact go hp
          · exact Lands.bad
        · rename_i kk hkk
          rw [hkk] at hak
          obtain ⟨q, hq, hl⟩ := ek_sound (k := k) (rest := List.range' (i + 1) os.length) hx he hrel hf.bare (evR_of hx hrel hf.env hs) rfl ho hwant hak
          cases q with
          | x m => exact ⟨_, mem_bindE_x hq, trivial⟩
          | v v f' s' =>
            obtain ⟨ρ', w', a', cv, h1, h2, h3, ⟨h4, h4'⟩, h5, h6⟩ := hl
            obtain ⟨q', hq', hl'⟩ := go ⟨h1, h2, h3.full (by rw [h4, h4']; exact hf.env.mono h2.le), h4', h5, h6⟩
            exact ⟨q', mem_bindE hq hq', hl'⟩
          | p v f' s' =>
            obtain ⟨ρ', w', a', td, v', h1, h2, h3, ⟨h4, h4'⟩, h5, h6⟩ := hl
            exact ⟨_, mem_bindE_p hq, ρ', w', a', td, v', h1, h2, h3.full (by rw [h4, h4']; exact hf.env.mono h2.le), h5, h6⟩
end
end Go.Ex
/- Code. -/
namespace Go.Ex
section
variable {E : Env} {X : Cx} {ρ : Rho} {s : St} {w : World} {f : Fr} {a : Act} {b : Frame} {cs0 : List Frame} {k k' : List Item} {m m' : Machine}

/-- what follows an outcome -/
theorem Lands.bind {outs : List Out} {K : Out → List Out} (h : Lands E X ρ s w m b k' cs0 outs) (hK : ∀ o, Ld E X ρ s w m b k' cs0 o → Lands E X ρ s w m b k cs0 (K o)) : Lands E X ρ s w m b k cs0 (bindO K outs) := by
  obtain ⟨o, ho, hl⟩ := h
  obtain ⟨q, hq, hl'⟩ := hK o hl
  exact ⟨q, mem_bindO ho hq, hl'⟩

theorem Lands.single {o : Out} (h : Ld E X ρ s w m b k cs0 o) : Lands E X ρ s w m b k cs0 [o] := ⟨o, List.mem_singleton.2 rfl, h⟩

/-- a jump or a panic goes through what stands behind -/
theorem Ld.pass_j {j : AJ} {f' : Fr} {s' : St} (hk : ∀ k₁, Keeps j k₁ k' → Keeps j k₁ k) (h : Ld E X ρ s w m b k' cs0 (.j j f' s')) : Ld E X ρ s w m b k cs0 (.j j f' s') := by
  obtain ⟨ρ', w', a', k₁, h1, h2, h3, h4, h5⟩ := h
  exact ⟨ρ', w', a', k₁, h1, h2, h3, hk k₁ h4, h5⟩
theorem Ld.pass_p {v : AV} {f' : Fr} {s' : St} (h : Ld E X ρ s w m b k' cs0 (.p v f' s')) : Ld E X ρ s w m b k cs0 (.p v f' s') := h

theorem find_sound {P : Program} : ∀ {c : Code} {c' : AC} {l : Nat}, X.code P c c' = true → (match findLbl c' l with
    | some r' => ∃ r, findLabel c l = some r ∧ X.code P r r' = true
    | none => findLabel c l = none) := by
  intro c
  induction c with
  | seq x y ihx ihy =>
    intro c' l h
    cases c' <;> simp only [Cx.code, Bool.false_eq_true] at h
    rename_i x' y'
    simp only [Bool.and_eq_true] at h
    have h1 := ihx (l := l) h.1
    have h2 := ihy (l := l) h.2
    simp only [findLbl, findLabel]
    cases hq : findLbl x' l with
    | some r' =>
      rw [hq] at h1
      obtain ⟨r, hr, hc⟩ := h1
      exact ⟨.seq r y, by rw [hr], by simp only [Cx.code, Bool.and_eq_true]; exact ⟨hc, h.2⟩⟩
    | none =>
      rw [hq] at h1
      simp only at h1
      rw [h1]
      exact h2
  | label n =>
    intro c' l h
    cases c' <;> simp only [Cx.code, Bool.false_eq_true] at h
    simp only [Nat.beq_eq] at h
    subst h
    simp only [findLbl, findLabel]
    by_cases hn : n == l
    · simp [hn, Cx.code]
    · simp [hn]
  | region id ops d =>
    intro c' l h
    cases c' <;> cases d <;> simp only [Cx.code, Bool.false_eq_true] at h <;> simp [findLbl, findLabel]
  | _ =>
    intro c' l h
    cases c' <;> simp only [Cx.code, Bool.false_eq_true] at h <;> simp [findLbl, findLabel]

variable {e : Ev} {c d : Code} {c' d' : AC}

theorem seq_sound (he : EvOk E e) (hx : XOk E X) (hc : X.code E.P c c' = true) (hd : X.code E.P d d' = true) (hrel : Rel E ρ s w) (hf : FrR E X ρ f a b cs0) :
    Lands E X ρ s w (lone (b.atR a (.code (.seq c d) :: k)) (marked f.rc cs0) w) b k cs0 (bindO (kSq e d') (e.cd c' f s)) := by
  refine Lands.pre (.refl _ _ _) (.one stepR_seq) ?_
  refine (he.cd (.code d :: k) hx hc hrel hf).bind fun o ho => ?_
  cases o with
  | x y => exact Lands.bad
  | n f' s' =>
    obtain ⟨ρ', w', a', h1, h2, h3, h4⟩ := ho
    exact (he.cd k hx hd h1 h3).pre h2 h4
  | j j f' s' => exact .single (ho.pass_j fun k₁ h => h.trans (Keeps.plain rfl))
  | p v f' s' => exact .single ho.pass_p

theorem loop_sound (he : EvOk E e) (hx : XOk E X) (hc : X.code E.P c c' = true) (hrel : Rel E ρ s w) (hf : FrR E X ρ f a b cs0)
    (hm : Steps E.P m (lone (b.atR a (.code c :: .inLoop c :: k)) (marked f.rc cs0) w)) :
    Lands E X ρ s w m b k cs0 (bindO (kSq e (.lp c')) (e.cd c' f s)) := by
  refine Lands.pre (.refl _ _ _) hm ?_
  refine (he.cd (.inLoop c :: k) hx hc hrel hf).bind fun o ho => ?_
  cases o with
  | x y => exact Lands.bad
  | n f' s' =>
    obtain ⟨ρ', w', a', h1, h2, h3, h4⟩ := ho
    exact (he.lp k hx hc h1 h3).pre h2 h4
  | j j f' s' => exact .single (ho.pass_j fun k₁ h => h.trans (Keeps.plain rfl))
  | p v f' s' => exact .single ho.pass_p

theorem block_sound (he : EvOk E e) (hx : XOk E X) {id : Nat} (hc : X.code E.P c c' = true) (hrel : Rel E ρ s w) (hf : FrR E X ρ f a b cs0) :
    Lands E X ρ s w (lone (b.atR a (.code (.block id c) :: k)) (marked f.rc cs0) w) b k cs0 (bindO (kBl id) (e.cd c' f s)) := by
  refine Lands.pre (.refl _ _ _) (.one stepR_block) ?_
  refine (he.cd (.inBlock id :: k) hx hc hrel hf).bind fun o ho => ?_
  cases o with
  | x y => exact Lands.bad
  | n f' s' =>
    obtain ⟨ρ', w', a', h1, h2, h3, h4⟩ := ho
    exact .single ⟨ρ', w', a', h1, h2, h3, h4.trans (.one stepR_inBlock)⟩
  | j j f' s' =>
    cases j with
    | ex i =>
      simp only [kBl]
      split
      · rename_i hi
        simp only [beq_iff_eq] at hi
        subst hi
        obtain ⟨ρ', w', a', k₁, h1, h2, h3, h4, h5⟩ := ho
        have hx' : exitTo i k₁ = some k := by
          simp only [Keeps] at h4
          rw [h4]
          simp [exitTo]
        exact .single ⟨ρ', w', a', h1, h2, h3, h5.trans (.one (stepR_exit hx'))⟩
      · rename_i hi
        refine .single (ho.pass_j fun k₁ h => ?_)
        simp only [Keeps] at h ⊢
        rw [h]
        have : (id == i) = false := by
          simp only [beq_iff_eq] at hi
          simp only [beq_eq_false_iff_ne]
          exact fun e => hi e.symm
        simp [exitTo, this]
    | gt l => exact .single (ho.pass_j fun k₁ h => by simp only [Keeps] at h ⊢; rw [h]; simp [gotoIn])
    | rt => exact .single (ho.pass_j fun k₁ h => trivial)
  | p v f' s' => exact .single ho.pass_p

theorem scope_sound (he : EvOk E e) (hx : XOk E X) (hc : X.code E.P c c' = true) (hd : X.code E.P d d' = true) (hrel : Rel E ρ s w) (hf : FrR E X ρ f a b cs0)
    (hm : Steps E.P m (lone (b.atR a (.code d :: .inScope c :: k)) (marked f.rc cs0) w)) : Lands E X ρ s w m b k cs0 (bindO (kSc e c') (e.cd d' f s)) := by
  refine Lands.pre (.refl _ _ _) hm ?_
  refine (he.cd (.inScope c :: k) hx hd hrel hf).bind fun o ho => ?_
  cases o with
  | x y => exact Lands.bad
  | n f' s' =>
    obtain ⟨ρ', w', a', h1, h2, h3, h4⟩ := ho
    exact .single ⟨ρ', w', a', h1, h2, h3, h4.trans (.one st_inScope)⟩
  | j j f' s' =>
    cases j with
    | ex i => exact .single (ho.pass_j fun k₁ h => by simp only [Keeps] at h ⊢; rw [h]; simp [exitTo])
    | gt l =>
      simp only [kSc]
      have hfind := find_sound (l := l) hc
      split
      · rename_i r' hr'
        rw [hr'] at hfind
        obtain ⟨r, hr, hcr⟩ := hfind
        obtain ⟨ρ', w', a', k₁, h1, h2, h3, h4, h5⟩ := ho
        have hg : gotoIn l k₁ = some (.code r :: .inScope c :: k) := by
          simp only [Keeps] at h4
          rw [h4]
          simp [gotoIn, hr]
        exact (he.sg k hx hc hcr h1 h3).pre h2 (h5.trans (.one (stepR_goto hg)))
      · rename_i hr'
        rw [hr'] at hfind
        simp only at hfind
        exact .single (ho.pass_j fun k₁ h => by simp only [Keeps] at h ⊢; rw [h]; simp [gotoIn, hfind])
    | rt => exact .single (ho.pass_j fun k₁ h => trivial)
  | p v f' s' => exact .single ho.pass_p
end
end Go.Ex
