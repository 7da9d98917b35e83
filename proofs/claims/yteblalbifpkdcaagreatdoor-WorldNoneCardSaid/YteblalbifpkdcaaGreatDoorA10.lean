/- A long run, cut into pieces: the frame at the top, piece by piece. -/
import Derived.Test.YteblalbifpkdcaaGreatDoorA9
import Derived.OpenShut
namespace Go.Ex

inductive AI where
  | c (a : AC)
  | lp (a : AC)
  | bl (id : Nat)
  | sc (a : AC)
  deriving Inhabited

def exitA (id : Nat) : List AI → Option (List AI)
  | .bl i :: k => if i == id then some k else exitA id k
  | _ :: k => exitA id k
  | [] => none

/-- so many steps of the frame at the top: the branches that were taken, and where it stands -/
def topD (e : Ev) : Nat → List AI → Fr → St → Option (List Bool × Fr × St)
  | 0, _, f, s => some ([], f, s)
  | n + 1, items, f, s =>
    match items with
    | [] => none
    | .lp a :: k => topD e n (.c a :: .lp a :: k) f s
    | .bl _ :: k => topD e n k f s
    | .sc _ :: k => topD e n k f s
    | .c c :: k => match c with
      | .sk => topD e n k f s
      | .lb _ => topD e n k f s
      | .sq a b => topD e n (.c a :: .c b :: k) f s
      | .bl id a => topD e n (.c a :: .bl id :: k) f s
      | .lp a => topD e n (.c a :: .lp a :: k) f s
      | .sc a => topD e n (.c a :: .sc a :: k) f s
      | .ex id => match exitA id k with
        | some k' => topD e n k' f s
        | none => none
      | .cd x a b => match opd [] f.env x with
        | some (.b true) => match topD e n (.c a :: k) f s with
          | some (d, r) => some (true :: d, r)
          | none => none
        | some (.b false) => match topD e n (.c b :: k) f s with
          | some (d, r) => some (false :: d, r)
          | none => none
        | _ => none
      | .rg ops => match runOps e ops [] f s with
        | [.n f' s'] => topD e n k f' s'
        | _ => none
      | .dr ops => match runDr e ops [] [] f.env f s with
        | [.n f' s'] => topD e n k f' s'
        | _ => none
      | .rf g ps a b => match runCode e (.rf g ps a b) f s with
        | [.n f' s'] => topD e n k f' s'
        | _ => none
      | _ => none

/-- the same, without a state: the branches are given -/
def goI : Nat → List Bool → List AI → List AI
  | 0, _, items => items
  | n + 1, d, items =>
    match items with
    | [] => []
    | .lp a :: k => goI n d (.c a :: .lp a :: k)
    | .bl _ :: k => goI n d k
    | .sc _ :: k => goI n d k
    | .c c :: k => match c with
      | .sk => goI n d k
      | .lb _ => goI n d k
      | .sq a b => goI n d (.c a :: .c b :: k)
      | .bl id a => goI n d (.c a :: .bl id :: k)
      | .lp a => goI n d (.c a :: .lp a :: k)
      | .sc a => goI n d (.c a :: .sc a :: k)
      | .ex id => match exitA id k with
        | some k' => goI n d k'
        | none => []
      | .cd _ a b => match d with
        | true :: d' => goI n d' (.c a :: k)
        | false :: d' => goI n d' (.c b :: k)
        | [] => []
      | _ => goI n d k

def ItemR (X : Cx) (P : Program) : AI → Item → Prop
  | .c a, i => ∃ c, i = .code c ∧ X.code P c a = true
  | .lp a, i => ∃ c, i = .inLoop c ∧ X.code P c a = true
  | .bl id, i => i = .inBlock id
  | .sc a, i => ∃ c, i = .inScope c ∧ X.code P c a = true

theorem exitA_sound {X : Cx} {P : Program} {id : Nat} : ∀ {l : List AI} {cl : List Item} {k : List AI}, F2 (ItemR X P) l cl → exitA id l = some k → ∃ ck, exitTo id cl = some ck ∧ F2 (ItemR X P) k ck
  | [], _, k, _, h => by simp [exitA] at h
  | x :: l, _, k, hl, h => by
    cases hl with
    | @cons _ b _ l' hx hl =>
      cases x with
      | bl i =>
        simp only [ItemR] at hx
        subst hx
        simp only [exitA] at h
        simp only [exitTo]
        split at h
        · rename_i hi
          simp only [Option.some.injEq] at h
          subst h
          exact ⟨l', by rw [if_pos hi], hl⟩
        · rename_i hi
          rw [if_neg hi]
          exact exitA_sound hl h
      | c a =>
        obtain ⟨c, rfl, _⟩ := hx
        simp only [exitA] at h
        simp only [exitTo]
        exact exitA_sound hl h
      | lp a =>
        obtain ⟨c, rfl, _⟩ := hx
        simp only [exitA] at h
        simp only [exitTo]
        exact exitA_sound hl h
      | sc a =>
        obtain ⟨c, rfl, _⟩ := hx
        simp only [exitA] at h
        simp only [exitTo]
        exact exitA_sound hl h

/-- where the frame at the top stands -/
def TopAt (E : Env) (X : Cx) (s0 : St) (ρ0 : Rho) (w0 : World) (m0 : Machine) (b : Frame) (cs0 : List Frame) (items : List AI) (f : Fr) (s : St) : Prop :=
  ∃ ρ w a cl, Rel E ρ s w ∧ Ext s0 ρ0 w0 s ρ w ∧ FrR E X ρ f a b cs0 ∧ F2 (ItemR X E.P) items cl ∧ Steps E.P m0 (lone (b.atR a cl) (marked f.rc cs0) w)

section
variable {E : Env} {X : Cx} {s0 : St} {ρ0 : Rho} {w0 : World} {m0 : Machine} {b : Frame} {cs0 : List Frame} {e : Ev}

theorem top_sound (hx : XOk E X) (he : EvOk E e) : ∀ (n : Nat) (items : List AI) (f : Fr) (s : St) (d : List Bool) (f' : Fr) (s' : St), topD e n items f s = some (d, f', s') → TopAt E X s0 ρ0 w0 m0 b cs0 items f s →
    TopAt E X s0 ρ0 w0 m0 b cs0 (goI n d items) f' s'
  | 0, items, f, s, d, f', s', h, ht => by
    simp only [topD, Option.some.injEq, Prod.mk.injEq] at h
    obtain ⟨rfl, rfl, rfl⟩ := h
    exact ht
  | n + 1, items, f, s, d, f', s', h, ht => by
    obtain ⟨ρ, w, a, cl, hrel, hext, hf, hcl, hst⟩ := ht
    cases items with
    | nil => simp [topD] at h
    | cons x k =>
      cases hcl with
      | @cons _ ci _ ck hx0 hck =>
        have to : ∀ {items' : List AI} {cl' : List Item}, F2 (ItemR X E.P) items' cl' → step E.P (lone (b.atR a (ci :: ck)) (marked f.rc cs0) w) = .next (lone (b.atR a cl') (marked f.rc cs0) w) →
            TopAt E X s0 ρ0 w0 m0 b cs0 items' f s := fun h1 h2 => ⟨ρ, w, a, _, hrel, hext, hf, h1, hst.trans (.one h2)⟩
        cases x with
        | lp c' =>
          obtain ⟨c, rfl, hc⟩ := hx0
          simp only [topD] at h
          simp only [goI]
          exact top_sound hx he n _ f s d f' s' h (to (.cons ⟨c, rfl, hc⟩ (.cons ⟨c, rfl, hc⟩ hck)) stepR_inLoop)
        | bl id =>
          simp only [ItemR] at hx0
          subst hx0
          simp only [topD] at h
          simp only [goI]
          exact top_sound hx he n _ f s d f' s' h (to hck stepR_inBlock)
        | sc c' =>
          obtain ⟨c, rfl, hc⟩ := hx0
          simp only [topD] at h
          simp only [goI]
          exact top_sound hx he n _ f s d f' s' h (to hck st_inScope)
        | c c' =>
          obtain ⟨c, rfl, hc⟩ := hx0
          have land : ∀ {outs : List Out} {f1 : Fr} {s1 : St}, outs = [.n f1 s1] → Lands E X ρ s w (lone (b.atR a (.code c :: ck)) (marked f.rc cs0) w) b ck cs0 outs → TopAt E X s0 ρ0 w0 m0 b cs0 k f1 s1 := by
            rintro outs f1 s1 rfl ⟨o, ho, hl⟩
            simp only [List.mem_singleton] at ho
            subst ho
            obtain ⟨ρ', w', a', h1, h2, h3, h4⟩ := hl
            exact ⟨ρ', w', a', ck, h1, hext.trans h2, h3, hck, hst.trans h4⟩
          have hcs := code_sound (k := ck) hx he hc hrel hf
          have hc2 := hc
          unfold Cx.code at hc2
          split at hc2
          · simp only [topD] at h
            simp only [goI]
            exact top_sound hx he n _ f s d f' s' h (to hck stepR_skip)
          · simp only [topD] at h
            simp only [goI]
            exact top_sound hx he n _ f s d f' s' h (to hck stepR_label)
          · simp only [topD] at h
            simp only [goI]
            split at h
            · rename_i f1 s1 hr
              exact top_sound hx he n _ f1 s1 d f' s' h (land hr hcs)
            · cases h
          · simp only [topD] at h
            simp only [goI]
            split at h
            · rename_i f1 s1 hr
              exact top_sound hx he n _ f1 s1 d f' s' h (land hr hcs)
            · cases h
          · simp only [Bool.and_eq_true] at hc2
            simp only [topD] at h
            simp only [goI]
            exact top_sound hx he n _ f s d f' s' h (to (.cons ⟨_, rfl, hc2.1⟩ (.cons ⟨_, rfl, hc2.2⟩ hck)) stepR_seq)
          · rename_i c0 x1 y1 c1 x' y'
            simp only [Bool.and_eq_true] at hc2
            have hev := evR_of (ctx := []) (scr := []) hx hrel hf.env ScrR.nil
            simp only [topD] at h
            split at h
            · rename_i hv
              have h1 := hev _ _ _ hc2.1.1 hv
              simp only [VR] at h1
              split at h
              · rename_i d1 r1 hr1
                simp only [Option.some.injEq, Prod.mk.injEq] at h
                obtain ⟨rfl, rfl⟩ := h
                simp only [goI]
                exact top_sound hx he n _ f s d1 f' s' hr1 (to (.cons ⟨_, rfl, hc2.1.2⟩ hck) (by have := stepR_cond (P := E.P) (b := b) (k := ck) (cs := marked f.rc cs0) (w := w) (x := x1) (y := y1) h1; simpa using this))
              · cases h
            · rename_i hv
              have h1 := hev _ _ _ hc2.1.1 hv
              simp only [VR] at h1
              split at h
              · rename_i d1 r1 hr1
                simp only [Option.some.injEq, Prod.mk.injEq] at h
                obtain ⟨rfl, rfl⟩ := h
                simp only [goI]
                exact top_sound hx he n _ f s d1 f' s' hr1 (to (.cons ⟨_, rfl, hc2.2⟩ hck) (by have := stepR_cond (P := E.P) (b := b) (k := ck) (cs := marked f.rc cs0) (w := w) (x := x1) (y := y1) h1; simpa using this))
              · cases h
            · cases h
          · simp only [Bool.and_eq_true, Nat.beq_eq] at hc2
            obtain ⟨rfl, hc3⟩ := hc2
            simp only [topD] at h
            simp only [goI]
            exact top_sound hx he n _ f s d f' s' h (to (.cons ⟨_, rfl, hc3⟩ (.cons rfl hck)) stepR_block)
          · simp only [topD] at h
            simp only [goI]
            exact top_sound hx he n _ f s d f' s' h (to (.cons ⟨_, rfl, hc2⟩ (.cons ⟨_, rfl, hc2⟩ hck)) stepR_loop)
          · simp only [topD] at h
            simp only [goI]
            split at h
            · rename_i f1 s1 hr
              exact top_sound hx he n _ f1 s1 d f' s' h (land hr hcs)
            · cases h
          · simp only [Nat.beq_eq] at hc2
            subst hc2
            simp only [topD] at h
            split at h
            · rename_i k' hk'
              obtain ⟨ck', h1, h2⟩ := exitA_sound hck hk'
              simp only [goI, hk']
              exact top_sound hx he n _ f s d f' s' h (to h2 (stepR_exit h1))
            · cases h
          · simp only [topD] at h
            simp only [goI]
            exact top_sound hx he n _ f s d f' s' h (to (.cons ⟨_, rfl, hc2⟩ (.cons ⟨_, rfl, hc2⟩ hck)) st_scope)
          · simp [topD] at h
          · simp [topD] at h
          · cases hc2

/-- the function is at its end -/
theorem top_ret (hx : XOk E X) (he : EvOk E e) {fn : Func} {res : List ARes} (hfn : E.P.funcs[b.fn]? = some fn) (hk : X.res fn.results.toList res = true) (hro : b.roundOf = none) {k : List AI} {f : Fr} {s : St} {c : AC}
    (hc : c = .rt) (h : TopAt E X s0 ρ0 w0 m0 b cs0 (.c c :: k) f s) : ∃ o ∈ unw e res f.env f.rc f.df .ret s, CLd E ρ0 s0 w0 m0 b.fn b.kind cs0 o := by
  subst hc
  obtain ⟨ρ, w, a, cl, hrel, hext, hf, hcl, hst⟩ := h
  cases hcl with
  | @cons _ ci _ ck hx0 hck =>
    obtain ⟨c, rfl, hc⟩ := hx0
    have : c = .ret := by
      unfold Cx.code at hc
      split at hc <;> simp_all
    subst this
    obtain ⟨q, hq, hcl⟩ := unw_sound (cs := cs0) (rc := f.rc) he hx hk f.df .ret s ρ w { b.atR a (.code .ret :: ck) with mode := .returning } hfn hrel hf.env hf.df rfl
    exact ⟨q, hq, hcl.pre hext (hst.trans (.one (stepR_ret hro)))⟩

-- the state is made small
def envOf : List Bn → List AV → Tr AV
  | b :: bs, v :: vs => (envOf bs vs).set (some v) b
  | _, _ => .lf

def getAll (env : Tr AV) : List Bn → Option (List AV)
  | [] => some []
  | b :: l => match env.get b with
    | none => none
    | some v => match getAll env l with
      | none => none
      | some vs => some (v :: vs)

/-- is the state the small one, but for the blocks' names, and what is not reached? -/
def small? (s0 : St) (keys : List Bn) (f : Fr) (s : St) (vs : List AV) (bs : List (Bn × AO)) (nx : Bn) : Bool :=
  match f.df with
  | [] => match f.pn with
    | none => match f.ro with
      | none => !f.rc && (match getAll f.env keys with
        | some us => match canon (s0.h :: s0.lo) s0.nx (.tu us) s with
          | some (.tu us', bs', nx') => AV.beqs us' vs && bsBeq bs' bs && nx'.beq nx
          | _ => false
        | none => false)
      | some _ => false
    | some _ => false
  | _ => false

def allCan : List Bn → Bool
  | [] => true
  | b :: l => b.can && allCan l

theorem envOf_get : ∀ {keys : List Bn} {vs : List AV} {b : Bn} {v : AV}, (envOf keys vs).get b = some v → ∃ n : Nat, keys[n]? = some b ∧ vs[n]? = some v
  | [], vs, b, v, h => by simp [envOf, Tr.get_lf] at h
  | k :: ks, [], b, v, h => by simp [envOf, Tr.get_lf] at h
  | k :: ks, u :: us, b, v, h => by
    simp only [envOf, Tr.get_set] at h
    split at h
    · rename_i e
      subst e
      simp only [Option.some.injEq] at h
      subst h
      exact ⟨0, by simp, by simp⟩
    · obtain ⟨n, h1, h2⟩ := envOf_get h
      exact ⟨n + 1, by simpa using h1, by simpa using h2⟩

theorem getAll_vrs {σ : Sig} {ρ : Rho} {K : Nat → Bool} {env : Tr AV} {tmps : Array Value} (he : EnvR σ ρ K env tmps) : ∀ {keys : List Bn} {us : List AV}, allCan keys = true → getAll env keys = some us →
    VRs σ ρ us (keys.map fun b => tmps.getD b.val undef) ∧ ∀ (n : Nat) b, keys[n]? = some b → K b.val = true
  | [], us, _, h => by simp only [getAll, Option.some.injEq] at h; subst h; exact ⟨VRs.nil, by simp⟩
  | b :: l, us, hc, h => by
    simp only [allCan, Bool.and_eq_true] at hc
    simp only [getAll] at h
    split at h
    · cases h
    · rename_i v hv
      split at h
      · cases h
      · rename_i vs hvs
        simp only [Option.some.injEq] at h
        subst h
        obtain ⟨h1, h2⟩ := he b v hc.1 hv
        obtain ⟨h3, h4⟩ := getAll_vrs he hc.2 hvs
        refine ⟨VRs.cons h2 h3, fun n b' hb => ?_⟩
        cases n with
        | zero => simp only [List.getElem?_cons_zero, Option.some.injEq] at hb; subst hb; exact h1
        | succ n => exact h4 n b' (by simpa using hb)

theorem VRs.get {σ : Sig} {ρ : Rho} : ∀ {l : List AV} {l' : List Value} {n : Nat} {x : AV}, VRs σ ρ l l' → l[n]? = some x → ∃ y, l'[n]? = some y ∧ VR σ ρ x y := by
  intro l l' n x h hn
  rw [← nth_eq] at hn
  exact h.nth hn

theorem top_small {items : List AI} {f : Fr} {s : St} {keys : List Bn} {vs : List AV} {bs : List (Bn × AO)} {nx : Bn} (hrel0 : Rel E ρ0 s0 w0) (hh0 : s0.h = .lf) (hkeys : allCan keys = true) (hs : small? s0 keys f s vs bs nx = true)
    (h : TopAt E X s0 ρ0 w0 m0 b cs0 items f s) : TopAt E X s0 ρ0 w0 m0 b cs0 items ⟨envOf keys vs, [], none, false, none⟩ ⟨setBs s0.h bs, s0.lo, nx⟩ := by
  obtain ⟨ρ, w, a, cl, hrel, hext, hf, hcl, hst⟩ := h
  unfold small? at hs
  split at hs
  · rename_i hdf
    split at hs
    · rename_i hpn
      split at hs
      · rename_i hro
        simp only [Bool.and_eq_true, Bool.not_eq_true'] at hs
        obtain ⟨hrc, hs⟩ := hs
        split at hs
        · rename_i us hus
          split at hs
          · rename_i us' bs' nx' hcan
            simp only [Bool.and_eq_true] at hs
            obtain ⟨⟨h1, h2⟩, h3⟩ := hs
            have e1 := AV.beqs_eq h1
            have e2 := bsBeq_eq h2
            have e3 := Bn.beq_eq h3
            subst e1; subst e2; subst e3
            obtain ⟨ren, out, hi, hv, hb⟩ := canon_spec hcan
            obtain ⟨g1, g2⟩ := getAll_vrs hf.env hkeys hus
            have hvr : VR E.σ ρ (.tu us) (.tuple (keys.map fun b => a.tmps.getD b.val undef).toArray) := by
              simp only [VR]
              exact ⟨_, g1, rfl⟩
            have hkk : ∀ p ∈ bs', p.1.val < nx'.val := by
              rintro ⟨bb, q⟩ hp
              obtain ⟨a1, _, h1, _⟩ := renBs_mem hb hp
              exact hi.hi _ h1
            obtain ⟨ρ2, r1, r2, r3⟩ := canon_land hrel0 hrel (hext.kept hh0) hi hv hvr hb hkk hi.le
            simp only [VR] at r3
            obtain ⟨l', r4, r5⟩ := r3
            have r6 : l' = keys.map fun b => a.tmps.getD b.val undef := by
              have := congrArg (fun v => match v with | .tuple x => x.toList | _ => []) r5
              simpa using this.symm
            subst r6
            refine ⟨ρ2, w, a, cl, r1, r2, ?_, hcl, ?_⟩
            · have hro' := hf.ro
              rw [hro] at hro'
              exact { env := fun bb v hc hg => by
                        obtain ⟨n, k1, k2⟩ := envOf_get hg
                        obtain ⟨y, k3, k4⟩ := r4.get k2
                        rw [List.getElem?_map, k1] at k3
                        simp only [Option.map_some, Option.some.injEq] at k3
                        subst k3
                        exact ⟨g2 n bb k1, k4⟩
                      size := hf.size
                      df := by have := hf.df; rw [hdf] at this; cases hq : a.defers with
                        | nil => exact .nil
                        | cons d ds => rw [hq] at this; cases this
                      ro := hro'
                      pn := fun v hv => by cases hv
                      np := fun _ _ fr hfr => by have := hf.np hpn hro fr hfr; rw [hrc] at this; exact this
                      fn := hf.fn }
            · rw [hrc] at hst
              exact hst
          · cases hs
        · cases hs
      · cases hs
    · cases hs
  · cases hs
end
end Go.Ex
/- Tables; the world at the beginning; calls whose answer is known. -/
namespace Go.Ex

-- tables by numbers
def Tr.getN {α : Type} : Tr α → Nat → Option α
  | .lf, _ => none
  | .nd l v r, n => if Nat.beq n 0 then v else if Nat.beq (n % 2) 0 then l.getN (n / 2) else r.getN (n / 2)

def Tr.allN {α : Type} (p : Nat → α → Bool) : Tr α → Nat → Nat → Bool
  | .lf, _, _ => true
  | .nd l v r, m, a => (match v with | some x => p a x | none => true) && l.allN p (2 * m) a && r.allN p (2 * m) (a + m)

theorem Tr.allN_spec {α : Type} {p : Nat → α → Bool} : ∀ {t : Tr α} {m a n : Nat} {x : α}, t.allN p m a = true → t.getN n = some x → p (a + m * n) x = true
  | .lf, m, a, n, x, _, h => by simp [Tr.getN] at h
  | .nd l v r, m, a, n, x, ha, h => by
    simp only [Tr.allN, Bool.and_eq_true] at ha
    obtain ⟨⟨h1, h2⟩, h3⟩ := ha
    simp only [Tr.getN] at h
    split at h
    · rename_i h0
      simp only [Nat.beq_eq] at h0
      subst h0
      subst h
      simpa using h1
    · split at h
      · rename_i _ hm
        simp only [Nat.beq_eq] at hm
        have := Tr.allN_spec h2 h
        rw [show a + 2 * m * (n / 2) = a + m * n by rw [show 2 * m * (n / 2) = m * (2 * (n / 2)) by rw [Nat.mul_comm 2 m, Nat.mul_assoc], show 2 * (n / 2) = n by omega]] at this
        exact this
      · rename_i _ hm
        simp only [Nat.beq_eq] at hm
        have := Tr.allN_spec h3 h
        rw [show a + m + 2 * m * (n / 2) = a + m * n by rw [show 2 * m * (n / 2) = m * (2 * (n / 2)) by rw [Nat.mul_comm 2 m, Nat.mul_assoc], Nat.add_assoc, show m + m * (2 * (n / 2)) = m * (2 * (n / 2) + 1) by rw [Nat.mul_add]; omega, show 2 * (n / 2) + 1 = n by omega]] at this
        exact this

theorem tyOk_of {P : Program} {t : Tr Row} (h : t.allN (rowOk P) 1 0 = true) : TyOk P t.getN := fun n r hr => by
  have := Tr.allN_spec h hr
  simpa using this

def AllT {α : Type} (Q : Bn → α → Prop) : Tr α → (Bn → Bn) → Prop
  | .lf, _ => True
  | .nd l v r, k => (match v with | some x => Q (k .e) x | none => True) ∧ AllT Q l (fun b => k (.o b)) ∧ AllT Q r (fun b => k (.i b))

theorem AllT.get {α : Type} {Q : Bn → α → Prop} : ∀ {t : Tr α} {k : Bn → Bn} {b : Bn} {x : α}, AllT Q t k → t.get b = some x → Q (k b) x
  | .lf, k, b, x, _, h => by simp [Tr.get_lf] at h
  | .nd l v r, k, .e, x, ha, h => by
    simp only [Tr.get] at h
    subst h
    exact ha.1
  | .nd l v r, k, .o b, x, ha, h => by
    simp only [Tr.get] at h
    exact AllT.get (k := fun b => k (.o b)) ha.2.1 h
  | .nd l v r, k, .i b, x, ha, h => by
    simp only [Tr.get] at h
    exact AllT.get (k := fun b => k (.i b)) ha.2.2 h

-- the package level's variables: rows of numbers
abbrev Gl := List (Bn × List Int)
def rowA (l : List Int) : List AV := l.map (AV.i .i64)
def gTree : Gl → Tr AO
  | [] => .lf
  | (b, l) :: r => (gTree r).set (some (.ro (rowA l))) b
def baseS (G : Gl) (nx : Bn) : St := ⟨.lf, [gTree G], nx⟩
def glOf (G : Gl) (n : Nat) : Bool := G.any fun p => Nat.beq p.1.val n
def gok (G : Gl) (s : St) : Bool := G.all fun p => match s.get p.1 with
  | some (.ro l) => AV.beqs l (rowA p.2)
  | _ => false
def gcan (G : Gl) (nx : Bn) : Bool := G.all fun p => p.1.can && Nat.blt p.1.val nx.val

def GlobsIn (G : Gl) (w : World) : Prop := ∀ p ∈ G, ∃ cs e fr, w.heap[p.1.val]? = some (.cells cs e fr) ∧ ∀ (i : Nat) n, p.2[i]? = some n → cs[i]? = some (.int .i64 n)

theorem gTree_get : ∀ {G : Gl} {a : Bn} {o : AO}, (gTree G).get a = some o → ∃ l, (a, l) ∈ G ∧ o = .ro (rowA l)
  | [], a, o, h => by simp [gTree, Tr.get_lf] at h
  | (b, l) :: r, a, o, h => by
    simp only [gTree, Tr.get_set] at h
    split at h
    · rename_i e
      subst e
      simp only [Option.some.injEq] at h
      exact ⟨l, List.mem_cons_self .., h.symm⟩
    · obtain ⟨l', h1, h2⟩ := gTree_get h
      exact ⟨l', List.mem_cons_of_mem _ h1, h2⟩

def baseR (G : Gl) : Rho := fun a => if G.any (fun p => p.1.beq a) then some ⟨a.val, 0, 0⟩ else none

theorem Bn.beq_refl : ∀ b : Bn, b.beq b = true
  | .e => rfl
  | .o b => by simp [Bn.beq, Bn.beq_refl b]
  | .i b => by simp [Bn.beq, Bn.beq_refl b]

theorem baseS_get {G : Gl} {nx a : Bn} {o : AO} (h : (baseS G nx).get a = some o) : ∃ l, (a, l) ∈ G ∧ o = .ro (rowA l) := by
  have hl : (baseS G nx).get a = lows [gTree G] a := by simp only [baseS, St.get, Tr.get_lf]
  rw [hl] at h
  simp only [lows] at h
  split at h
  · rename_i o' ho
    simp only [Option.some.injEq] at h
    subst h
    exact gTree_get ho
  · cases h

theorem rel_base {E : Env} {G : Gl} {nx : Bn} (hgl : E.gl = glOf G) (hc : gcan G nx = true) {w : World} (hw : GlobsIn G w) : Rel E (baseR G) (baseS G nx) w where
  fresh := fun a ha => by
    unfold baseR
    split
    · rename_i h
      simp only [List.any_eq_true] at h
      obtain ⟨p, hp, he⟩ := h
      have := Bn.beq_eq he
      subst this
      have hcp : (p.1.can && Nat.blt p.1.val nx.val) = true := (List.all_eq_true.1 hc) p hp
      simp only [Bool.and_eq_true, Nat.blt_eq] at hcp
      simp only [baseS] at ha
      omega
    · rfl
  obj := fun a o h => by
    obtain ⟨l, h1, rfl⟩ := baseS_get h
    obtain ⟨cs, e, fr, h2, h3⟩ := hw _ h1
    refine ⟨⟨a.val, 0, 0⟩, ?_, ?_⟩
    · unfold baseR
      rw [if_pos]
      simp only [List.any_eq_true]
      exact ⟨_, h1, Bn.beq_refl a⟩
    · simp only [OR]
      refine ⟨cs, e, fr, h2, fun i x hx => ?_⟩
      rw [nth_eq, rowA, List.getElem?_map, Option.map_eq_some_iff] at hx
      obtain ⟨n, hn, rfl⟩ := hx
      exact ⟨_, by simpa using h3 i n hn, by simp only [VR]⟩
  inj := fun a a' o o' L L' h h' hL hL' e => by
    obtain ⟨l, h1, _⟩ := baseS_get h
    obtain ⟨l', h1', _⟩ := baseS_get h'
    unfold baseR at hL hL'
    split at hL <;> split at hL' <;> simp only [Option.some.injEq, reduceCtorEq] at hL hL'
    subst hL; subst hL'
    have c1 : (a.can && Nat.blt a.val nx.val) = true := (List.all_eq_true.1 hc) _ h1
    have c2 : (a'.can && Nat.blt a'.val nx.val) = true := (List.all_eq_true.1 hc) _ h1'
    simp only [Bool.and_eq_true] at c1 c2
    exact can_inj c1.1 c2.1 e
  glob := fun b hg hcan => by
    rw [hgl] at hg
    unfold glOf at hg
    simp only [List.any_eq_true, Nat.beq_eq] at hg
    obtain ⟨p, hp, he⟩ := hg
    have c1 : (p.1.can && Nat.blt p.1.val nx.val) = true := (List.all_eq_true.1 hc) _ hp
    simp only [Bool.and_eq_true] at c1
    have := can_inj c1.1 hcan he
    subst this
    refine ⟨0, ?_⟩
    unfold baseR
    rw [if_pos]
    simp only [List.any_eq_true]
    exact ⟨p, hp, Bn.beq_refl _⟩
  sep := fun a o h => by simp only [baseS, Tr.get_lf] at h; cases h

theorem globs_of {E : Env} {G : Gl} (hgl : E.gl = glOf G) {nx : Bn} (hc : gcan G nx = true) {ρ : Rho} {s : St} {w : World} (hrel : Rel E ρ s w) (hg : gok G s = true) : GlobsIn G w := by
  intro p hp
  have h1 := (List.all_eq_true.1 hg) p hp
  split at h1
  · rename_i l hl
    have := AV.beqs_eq h1
    subst this
    obtain ⟨L, hL, hO⟩ := hrel.obj _ _ hl
    have c1 : (p.1.can && Nat.blt p.1.val nx.val) = true := (List.all_eq_true.1 hc) _ hp
    simp only [Bool.and_eq_true] at c1
    obtain ⟨t, ht⟩ := hrel.glob p.1 (by rw [hgl]; unfold glOf; simp only [List.any_eq_true, Nat.beq_eq]; exact ⟨p, hp, rfl⟩) c1.1
    rw [hL] at ht
    cases ht
    simp only [OR] at hO
    obtain ⟨cs, e, fr, h2, h3⟩ := hO
    refine ⟨cs, e, fr, h2, fun i n hn => ?_⟩
    obtain ⟨y, hy, hv⟩ := h3 i (.i .i64 n) (by rw [nth_eq, rowA, List.getElem?_map, hn]; rfl)
    simp only [VR] at hv
    subst hv
    simpa using hy
  · cases h1

-- calls whose answer is known
def callS (sums : Bn → Option Bool) (G : Gl) (tbl : Bn → Option AF) (e : Ev) (g : Bn) (args : List AV) (pn : Option AV) (s : St) : List COut :=
  match sums g with
  | none => callFn tbl e g args pn s
  | some v => match args with
    | [] => match pn with
      | none => if gok G s then [.r (.b v) s false] else [.x "sums"]
      | some _ => [.x "sums"]
    | _ => [.x "sums"]

def mkEvS (sums : Bn → Option Bool) (G : Gl) (tbl : Bn → Option AF) (e : Ev) : Ev where
  cd := runCode e
  cl := callS sums G tbl e
  yl := runYield e

def evS (sums : Bn → Option Bool) (G : Gl) (tbl : Bn → Option AF) : Nat → Ev
  | 0 => { cd := fun _ _ _ => [.x "fuel"], cl := fun _ _ _ _ => [.x "fuel"], yl := fun _ _ _ => [.x "fuel"] }
  | n + 1 => mkEvS sums G tbl (evS sums G tbl n)

/-- a function without arguments answers a bool, whatever the world, and writes nothing that was there -/
def SumOk (E : Env) (G : Gl) (g : Bn) (v : Bool) : Prop :=
  bodied E.P g.val = true ∧ ∀ (w : World), GlobsIn G w → ∀ (K : CallKind) (cs : List Frame), (∀ fr : Frame, fr.kind = K → tryRecover fr cs = none) →
    ∃ w' fr, w'.os = w.os ∧ w'.tape = w.tape ∧ w'.output = w.output ∧ w.heap.size ≤ w'.heap.size ∧ (∀ b, b < w.heap.size → w'.heap[b]? = w.heap[b]?) ∧
      Steps E.P (lone (Frame.enter E.P g.val #[] K) cs w) (lone fr cs w') ∧ fr.kind = K ∧ fr.mode = .returning ∧ fr.defers = [] ∧ fr.fn = g.val ∧
      ∃ fn, E.P.funcs[g.val]? = some fn ∧ (results fn fr.tmps).run E.P w' = .ok (.bool v) w'

section
variable {E : Env} {e : Ev}

theorem sum_sound {G : Gl} {nx : Bn} (hgl : E.gl = glOf G) (hc : gcan G nx = true) {g : Bn} {v : Bool} (h : SumOk E G g v) {ρ : Rho} {s : St} {w : World} {K : CallKind} {cs : List Frame} (hrel : Rel E ρ s w) (hg : gok G s = true)
    (hk : KindOk E ρ none K cs) : CLd E ρ s w (lone (Frame.enter E.P g.val #[] K) cs w) g.val K cs (.r (.b v) s false) := by
  obtain ⟨w', fr, h1, h2, h3, h4, h5, h6, h7, h8, h9, h10, fn, h11, h12⟩ := h.2 w (globs_of hgl hc hrel hg) K cs (hk.2 rfl)
  refine ⟨ρ, w', fr, .bool v, ⟨hrel.fresh, fun a o hg => ?_, hrel.inj, hrel.glob, hrel.sep⟩, ⟨.refl _, rfl, h1, h2, h3, h4, fun b hb _ => h5 b hb, fun _ _ h => h, fun _ _ => rfl, Nat.le_refl _⟩, by simp only [VR], h6, h7, h8, h9, h10, fn, h11, h12⟩
  obtain ⟨L, hL, hO⟩ := hrel.obj a o hg
  exact ⟨L, hL, hO.mono (.refl _) (h5 _ hO.lt)⟩

theorem mkEvS_ok (hok : TyOk E.P E.ty) {tbl : Bn → Option AF} (htbl : TblOk E tbl) {sums : Bn → Option Bool} {G : Gl} {nx : Bn} (hgl : E.gl = glOf G) (hc : gcan G nx = true) (hs : ∀ g v, sums g = some v → SumOk E G g v) (he : EvOk E e) :
    EvOk E (mkEvS sums G tbl e) where
  cd := fun _ _ hx hc hrel hf => code_sound hx he hc hrel hf
  lp := fun _ _ hx hc hrel hf => loop_sound he hx hc hrel hf (.one stepR_inLoop)
  sg := fun _ _ hx hc hd hrel hf => scope_sound he hx hc hd hrel hf (.refl _ _)
  yl := fun hrel hargs hL => yield_sound hok he hrel hargs hL
  cl := fun {g args cargs pn s ρ w K cs} hrel hargs hk => by
    show (∃ m, COut.x m ∈ callS sums G tbl e g args pn s) ∨ (bodied E.P g.val = true ∧ ∃ o ∈ callS sums G tbl e g args pn s, _)
    unfold callS
    split
    · exact call_sound hok htbl he hrel hargs hk
    · rename_i v hv
      split
      · split
        · split
          · rename_i hg
            right
            simp only [VRs] at hargs
            have hca : cargs = #[] := by cases cargs; simp_all
            subst hca
            exact ⟨(hs g v hv).1, _, List.mem_singleton.2 rfl, sum_sound hgl hc (hs g v hv) hrel hg hk⟩
          · exact .inl ⟨_, List.mem_singleton.2 rfl⟩
        · exact .inl ⟨_, List.mem_singleton.2 rfl⟩
      · exact .inl ⟨_, List.mem_singleton.2 rfl⟩

theorem evS_ok (hok : TyOk E.P E.ty) {tbl : Bn → Option AF} (htbl : TblOk E tbl) {sums : Bn → Option Bool} {G : Gl} {nx : Bn} (hgl : E.gl = glOf G) (hc : gcan G nx = true) (hs : ∀ g v, sums g = some v → SumOk E G g v) : ∀ n, EvOk E (evS sums G tbl n)
  | 0 => { cd := fun _ _ _ _ _ _ => Lands.bad, lp := fun _ _ _ _ _ _ => Lands.bad, sg := fun _ _ _ _ _ _ _ => Lands.bad, cl := fun _ _ _ => .inl ⟨_, List.mem_singleton.2 rfl⟩, yl := fun _ _ _ => .inl ⟨_, List.mem_singleton.2 rfl⟩ }
  | n + 1 => mkEvS_ok hok htbl hgl hc hs (evS_ok hok htbl hgl hc hs n)

/-- a function is entered -/
structure Entered (E : Env) (X : Cx) (g : Bn) (af : AF) (b : Frame) (K : CallKind) (fn : Func) : Prop where
  ok : XOk E X
  hfn : E.P.funcs[b.fn]? = some fn
  fnG : b.fn = g.val
  kind : b.kind = K
  ro : b.roundOf = none
  res : X.res fn.results.toList af.res = true
  bod : bodied E.P g.val = true

theorem top_enter (hok : TyOk E.P E.ty) {g : Bn} {af : AF} (hfn : fnOk E.P E.ty E.gl g.val af = true) {args : List AV} {cargs : Array Value} {pn : Option AV} {K : CallKind} {cs : List Frame} {ρ : Rho} {s : St} {w : World} (hrel : Rel E ρ s w)
    (hargs : VRs E.σ ρ args cargs.toList) (hk : KindOk E ρ pn K cs) {env : Tr AV} (henv : initEnv af.params args .lf = some env) :
    ∃ X b fn, Entered E X g af b K fn ∧ TopAt E X s ρ w (lone (Frame.enter E.P g.val cargs K) cs w) b cs [.c af.code] ⟨env, [], pn, false, none⟩ s := by
  unfold fnOk at hfn
  split at hfn
  · cases hfn
  · rename_i fn hf
    simp only at hfn
    split at hfn
    · cases hfn
    · rename_i c hc
      simp only [Bool.and_eq_true, Bool.not_eq_true'] at hfn
      obtain ⟨⟨⟨h1, h2⟩, h3⟩, h4⟩ := hfn
      generalize hX : (⟨E.ty, E.gl, fun t => af.kept.testBit t, fn.ntmps⟩ : Cx) = X at h1 h2 h3
      have hx : XOk E X := by subst hX; exact ⟨rfl, rfl, hok⟩
      have hN : X.N = fn.ntmps := by subst hX; rfl
      let b : Frame := { (default : Frame) with fn := g.val, kind := K }
      let a : Act := { tmps := cargs ++ Array.replicate (fn.ntmps - cargs.size) undef, defers := [] }
      have henter : Frame.enter E.P g.val cargs K = b.atR a [.code c] := by
        simp [Frame.enter, Frame.atR, hf, hc, b, a]
        rfl
      refine ⟨X, b, fn, ⟨hx, hf, rfl, rfl, rfl, h3, by simp [bodied, hf, hc, h4]⟩, ρ, w, a, [.code c], hrel, .refl _ _ _, ?_, .cons ⟨c, rfl, h1⟩ .nil, ?_⟩
      · exact
          { env := by
              refine initEnv_sound (j := 0) h2 henv hargs (fun i c hc => ?_) (fun b v _ hg => by rw [Tr.get_lf] at hg; cases hg)
              have hc' : cargs[i]? = some c := by simpa using hc
              have hlt : i < cargs.size := (Array.getElem?_eq_some_iff.1 hc').1
              simp only [a, Nat.zero_add, Array.getD_eq_getD_getElem?]
              rw [Array.getElem?_append_left hlt, hc']
              rfl
            size := by rw [hN]; simp [a]; omega
            df := .nil
            ro := rfl
            pn := fun v hv => by
              obtain ⟨q1, c0, r0, v', q2, q3, q4⟩ := hk.1 v hv
              exact ⟨q1, rfl, c0, r0, v', q2, q3, q4⟩
            np := fun hp _ fr hfr => by
              have := hk.2 hp fr hfr
              simpa [marked] using this
            fn := ⟨fn, hf⟩ }
      · rw [henter]
        exact .refl _ _

/-- a function without arguments has come to its end, with a bool -/
theorem sum_of {G : Gl} {nx : Bn} {g : Bn} {af : AF} {v : Bool} (hok : TyOk E.P E.ty) (hgl : E.gl = glOf G) (hc : gcan G nx = true) (hfn : fnOk E.P E.ty E.gl g.val af = true) (he : EvOk E e) (hp : af.params = [])
    (h : ∀ (X : Cx) (b : Frame) (w : World) (cs : List Frame) (m0 : Machine), XOk E X → Rel E (baseR G) (baseS G nx) w → TopAt E X (baseS G nx) (baseR G) w m0 b cs [.c af.code] ⟨.lf, [], none, false, none⟩ (baseS G nx) →
      ∃ k f s, TopAt E X (baseS G nx) (baseR G) w m0 b cs (.c .rt :: k) f s ∧ ∃ s', unw e af.res f.env f.rc f.df .ret s = [.r (.b v) s' false]) : SumOk E G g v := by
  have key : ∀ (w : World), GlobsIn G w → ∀ (K : CallKind) (cs : List Frame), (∀ fr : Frame, fr.kind = K → tryRecover fr cs = none) → bodied E.P g.val = true ∧ ∃ s', CLd E (baseR G) (baseS G nx) w (lone (Frame.enter E.P g.val #[] K) cs w) g.val K cs (.r (.b v) s' false) := by
    intro w hw K cs hk
    have hrel := rel_base (E := E) (nx := nx) hgl hc hw
    obtain ⟨X, b, fn, hent, ht⟩ := top_enter (cs := cs) (K := K) (pn := none) (args := []) (cargs := #[]) hok hfn hrel VRs.nil ⟨fun v h => (by cases h), fun _ => hk⟩ (env := .lf) (by rw [hp]; rfl)
    obtain ⟨k, f, s, h1, s', h2⟩ := h X b w cs _ hent.ok hrel ht
    obtain ⟨o, ho, hl⟩ := top_ret hent.ok he hent.hfn hent.res hent.ro rfl h1
    rw [h2] at ho
    simp only [List.mem_singleton] at ho
    subst ho
    rw [hent.fnG, hent.kind] at hl
    exact ⟨hent.bod, s', hl⟩
  refine ⟨?_, fun w hw K cs hk => ?_⟩
  · -- some world at all: what is said of the body does not hang on it
    have := hfn
    unfold fnOk at this
    unfold bodied
    split at this
    · cases this
    · rename_i fn hf
      rw [hf]
      simp only at this ⊢
      split at this
      · cases this
      · rename_i c hcc
        simp only [Bool.and_eq_true] at this
        simp [hcc, this.2]
  · obtain ⟨_, s', ρ', w', fr, v', a1, a2, a3, a4, a5, a6, a7, a8, fn, a9, a10⟩ := key w hw K cs hk
    simp only [VR] at a3
    subst a3
    have hkept := a2.kept rfl
    exact ⟨w', fr, hkept.os, hkept.tape, hkept.output, hkept.size, hkept.same, a4, a5, a6, a7, a8, fn, a9, a10⟩

/-- what a function comes to, of arguments, for a caller -/
theorem calls_top {g : Bn} {af : AF} {v : Bool} (hok : TyOk E.P E.ty) (hfn : fnOk E.P E.ty E.gl g.val af = true) (he : EvOk E e) {w : World} {args : List AV} {cargs : Array Value}
    {env : Tr AV} (ρ0 : Rho) (s0 : St) (hrel : Rel E ρ0 s0 w) (hs0 : s0.h = .lf) (hargs : VRs E.σ ρ0 args cargs.toList) (henv : initEnv af.params args .lf = some env)
    (h : ∀ (X : Cx) (b : Frame) (cs : List Frame) (m0 : Machine), XOk E X → TopAt E X s0 ρ0 w m0 b cs [.c af.code] ⟨env, [], none, false, none⟩ s0 →
      ∃ k f s, TopAt E X s0 ρ0 w m0 b cs (.c .rt :: k) f s ∧ ∃ s', unw e af.res f.env f.rc f.df .ret s = [.r (.b v) s' false]) :
    Calls E.P g.val cargs w fun en w' => en = .returned (.bool v) ∧ Go.RowKit.Below w.heap.size w w' := by
  intro cs
  obtain ⟨X, b, fn, hent, ht⟩ := top_enter (cs := cs) (K := .normal) (pn := none) hok hfn hrel hargs kind_normal henv
  obtain ⟨k, f, s, h1, s', h2⟩ := h X b cs _ hent.ok ht
  obtain ⟨o, ho, hl⟩ := top_ret hent.ok he hent.hfn hent.res hent.ro rfl h1
  rw [h2] at ho
  simp only [List.mem_singleton] at ho
  subst ho
  rw [hent.fnG, hent.kind] at hl
  obtain ⟨ρ', w', fr, v', a1, a2, a3, a4, a5, a6, a7, a8, fn', a9, a10⟩ := hl
  simp only [VR] at a3
  subst a3
  have hkept := a2.kept hs0
  exact ⟨.returned (.bool v), w', fr, ⟨rfl, hkept.os, hkept.tape, hkept.output, hkept.size, hkept.same⟩, a4, a8, a6, a7, a5, fn', by rw [a8]; exact a9, a10⟩
end
end Go.Ex
/- One piece of a long run, asked of the kernel. -/
namespace Go.Ex

def boolsBeq : List Bool → List Bool → Bool
  | [], [] => true
  | true :: l, true :: l' => boolsBeq l l'
  | false :: l, false :: l' => boolsBeq l l'
  | _, _ => false
theorem boolsBeq_eq : ∀ {l l' : List Bool}, boolsBeq l l' = true → l = l'
  | [], [], _ => rfl
  | [], _ :: _, h => by simp [boolsBeq] at h
  | true :: l, [], h => by simp [boolsBeq] at h
  | false :: l, [], h => by simp [boolsBeq] at h
  | true :: l, true :: l', h => by rw [boolsBeq_eq (l := l) (l' := l') (by simpa [boolsBeq] using h)]
  | false :: l, false :: l', h => by rw [boolsBeq_eq (l := l) (l' := l') (by simpa [boolsBeq] using h)]
  | true :: l, false :: l', h => by simp [boolsBeq] at h
  | false :: l, true :: l', h => by simp [boolsBeq] at h

/-- a place in the run: the temporaries that are wanted, their values, the blocks that are reached, the next block's number -/
structure Spot where
  keys : List Bn
  vs : List AV
  bs : List (Bn × AO)
  nx : Bn

def Spot.f (p : Spot) : Fr := ⟨envOf p.keys p.vs, [], none, false, none⟩
def Spot.s (p : Spot) (s0 : St) : St := ⟨setBs s0.h p.bs, s0.lo, p.nx⟩

def chk (e : Ev) (s0 : St) (n : Nat) (d : List Bool) (items : List AI) (f : Fr) (s : St) (q : Spot) : Bool :=
  match topD e n items f s with
  | some (d', f', s') => boolsBeq d' d && allCan q.keys && small? s0 q.keys f' s' q.vs q.bs q.nx
  | none => false

def atRt : List AI → Bool
  | .c .rt :: _ => true
  | _ => false
theorem atRt_eq {l : List AI} (h : atRt l = true) : ∃ k, l = .c .rt :: k := by
  unfold atRt at h
  split at h
  · exact ⟨_, rfl⟩
  · cases h

theorem chk_sound {E : Env} {X : Cx} {s0 : St} {ρ0 : Rho} {w0 : World} {m0 : Machine} {b : Frame} {cs0 : List Frame} {e : Ev} (hx : XOk E X) (he : EvOk E e) (hrel0 : Rel E ρ0 s0 w0) (hh0 : s0.h = .lf) {n : Nat} {d : List Bool} {items : List AI}
    {f : Fr} {s : St} {q : Spot} (h : chk e s0 n d items f s q = true) (ht : TopAt E X s0 ρ0 w0 m0 b cs0 items f s) : TopAt E X s0 ρ0 w0 m0 b cs0 (goI n d items) q.f (q.s s0) := by
  unfold chk at h
  split at h
  · rename_i d' f' s' hr
    simp only [Bool.and_eq_true] at h
    obtain ⟨⟨h1, h2⟩, h3⟩ := h
    have := boolsBeq_eq h1
    subst this
    exact top_small hrel0 hh0 h2 h3 (top_sound hx he n items f s d' f' s' hr ht)
  · cases h

/-- a bool is returned -/
def retB (e : Ev) (res : List ARes) (p : Spot) (s0 : St) (v : Bool) : Bool :=
  match unw e res p.f.env p.f.rc p.f.df .ret (p.s s0) with
  | [.r (.b u) _ false] => u == v
  | _ => false
theorem retB_eq {e : Ev} {res : List ARes} {p : Spot} {s0 : St} {v : Bool} (h : retB e res p s0 v = true) : ∃ s', unw e res p.f.env p.f.rc p.f.df .ret (p.s s0) = [.r (.b v) s' false] := by
  unfold retB at h
  split at h
  · rename_i u s' hq
    simp only [beq_iff_eq] at h
    subst h
    exact ⟨_, hq⟩
  · cases h
end Go.Ex
/- The last piece of a run; a block more; the package level's rows out of the card's condition. -/
namespace Go.Ex

section
variable {E : Env} {X : Cx} {s0 : St} {ρ0 : Rho} {w0 : World} {m0 : Machine} {b : Frame} {cs0 : List Frame} {e : Ev}

/-- a name more: of a block that is not looked into -/
theorem rel_more {ρ : Rho} {s : St} {w : World} (h : Rel E ρ s w) (L : Loc) : Rel E (ρ.add s.nx L) ⟨s.h, s.lo, s.nx.succ⟩ w := by
  have hle := Rho.add_le (L := L) h.nx
  have hne : ∀ a o, s.get a = some o → a ≠ s.nx := fun a o hg e => by subst e; rw [h.nx_dead] at hg; cases hg
  have hoth : ∀ a, a ≠ s.nx → (ρ.add s.nx L) a = ρ a := fun a hn => by unfold Rho.add; rw [if_neg hn]
  refine ⟨fun a ha => ?_, fun a o hg => ?_, fun a a' o o' M M' hg hg' hM hM' e => ?_, fun bb hg hc => ?_, h.sep⟩
  · simp only [Bn.val_succ] at ha
    rw [hoth a (by rintro rfl; omega)]
    exact h.fresh a (by omega)
  · obtain ⟨M, hM, hO⟩ := h.obj a o hg
    exact ⟨M, hle _ _ hM, hO.mono hle rfl⟩
  · rw [hoth a (hne a o hg)] at hM
    rw [hoth a' (hne a' o' hg')] at hM'
    exact h.inj a a' o o' M M' hg hg' hM hM' e
  · obtain ⟨t, ht⟩ := h.glob bb hg hc
    exact ⟨t, hle _ _ ht⟩

/-- the last piece: a bool is returned -/
def fin (e : Ev) (res : List ARes) (n : Nat) (d : List Bool) (items : List AI) (f : Fr) (s : St) (v : Bool) : Bool :=
  match topD e n items f s with
  | some (d', f', s') => boolsBeq d' d && atRt (goI n d items) && (match unw e res f'.env f'.rc f'.df .ret s' with
    | [.r (.b u) _ false] => (match u, v with | true, true => true | false, false => true | _, _ => false)
    | _ => false)
  | none => false

theorem fin_sound (hx : XOk E X) (he : EvOk E e) {res : List ARes} {n : Nat} {d : List Bool} {items : List AI} {f : Fr} {s : St} {v : Bool} (h : fin e res n d items f s v = true) (ht : TopAt E X s0 ρ0 w0 m0 b cs0 items f s) :
    ∃ k f' s', TopAt E X s0 ρ0 w0 m0 b cs0 (.c .rt :: k) f' s' ∧ ∃ s2, unw e res f'.env f'.rc f'.df .ret s' = [.r (.b v) s2 false] := by
  unfold fin at h
  split at h
  · rename_i d' f' s' hr
    simp only [Bool.and_eq_true] at h
    obtain ⟨⟨h1, h2⟩, h3⟩ := h
    have := boolsBeq_eq h1
    subst this
    obtain ⟨k, hk⟩ := atRt_eq h2
    have h4 := top_sound hx he n items f s d' f' s' hr ht
    rw [hk] at h4
    split at h3
    · rename_i u s2 hq
      refine ⟨k, f', s', h4, s2, ?_⟩
      rw [hq]
      cases u <;> cases v <;> first | rfl | (simp at h3)
    · cases h3
  · cases h
end

section
variable {H : Type} {enc : TypeId × Value → H} {P : Program} {w : World} {base : Nat} {spare : Nat → Bool} {held : Bool} {fuel : Nat} {t e : TypeId} {cs : List Value} {p : List MemPlace} {k : IntKind}

theorem trod_ints {n : Nat} (ht : P.underlying t = some (.array n e)) (he : P.underlying e = some (.int k)) (hc : P.cellsOf e = 1) {l : List Int} (h : DataW.trod enc P w base spare held fuel t cs = some (.agg (l.map fun z => .lit (.int k z)), p)) :
    ∀ (i : Nat) z, l[i]? = some z → cs[i]? = some (.int k z) := by
  obtain ⟨xs, m, _, hx, _, hn, hel⟩ := DataW.trod_array ht h
  simp only [Prod.mk.injEq, DataW.agg.injEq] at hx
  intro i z hz
  have h1 : (xs.map (·.1))[i]? = some (.lit (.int k z)) := by rw [← hx.1, List.getElem?_map, hz]; rfl
  rw [List.getElem?_map, Option.map_eq_some_iff] at h1
  obtain ⟨y, hy, hy1⟩ := h1
  have hi : i < n := by rw [← hn]; exact (List.getElem?_eq_some_iff.1 hy).1
  have h2 := hel i hi
  rw [hy, hc, Nat.mul_one] at h2
  obtain ⟨z', e1, e2, _⟩ := DataW.trod_int he h2
  rw [e2] at hy1
  simp only [DataW.lit.injEq, Lit.int.injEq, true_and] at hy1
  subst hy1
  have h3 : ((cs.drop i).take 1)[0]? = some (.int k z') := by rw [e1]; rfl
  simpa using h3

theorem trod_rows {n m : Nat} {t2 : TypeId} (ht : P.underlying t = some (.array n t2)) (ht2 : P.underlying t2 = some (.array m e)) (he : P.underlying e = some (.int k)) (hc : P.cellsOf e = 1) (hc2 : P.cellsOf t2 = m) {l : List (List Int)}
    (h : DataW.trod enc P w base spare held fuel t cs = some (.agg (l.map fun r => .agg (r.map fun z => .lit (.int k z))), p)) :
    ∀ (i j : Nat) r z, l[i]? = some r → r[j]? = some z → j < m → cs[i * m + j]? = some (.int k z) := by
  obtain ⟨xs, mm, _, hx, _, hn, hel⟩ := DataW.trod_array ht h
  simp only [Prod.mk.injEq, DataW.agg.injEq] at hx
  intro i j r z hr hz hj
  have h1 : (xs.map (·.1))[i]? = some (.agg (r.map fun z => .lit (.int k z))) := by rw [← hx.1, List.getElem?_map, hr]; rfl
  rw [List.getElem?_map, Option.map_eq_some_iff] at h1
  obtain ⟨y, hy, hy1⟩ := h1
  have hi : i < n := by rw [← hn]; exact (List.getElem?_eq_some_iff.1 hy).1
  have h2 := hel i hi
  rw [hy, hc2] at h2
  obtain ⟨y1, y2⟩ := y
  simp only at hy1
  subst hy1
  have h3 := trod_ints ht2 he hc h2 j z hz
  rw [List.getElem?_take] at h3
  rw [if_pos hj, List.getElem?_drop] at h3
  exact h3
end
end Go.Ex
