/- A function is called; several outcomes are made one. -/
import Derived.Test.YteblalbifpkdcaaGreatDoorA7
import Derived.Orders
namespace Go.Ex
section
variable {E : Env} {ρ : Rho} {s : St} {w : World} {cs : List Frame} {e : Ev}

theorem initEnv_sound {X : Cx} {σ : Sig} {tmps : Array Value} : ∀ {ps : List (Option Bn)} {j : Nat} {vs : List AV} {cvs : List Value} {env env' : Tr AV},
    X.inits j ps = true → initEnv ps vs env = some env' → VRs σ ρ vs cvs → (∀ i c, cvs[i]? = some c → tmps.getD (j + i) undef = c) → EnvR σ ρ X.K env tmps → EnvR σ ρ X.K env' tmps
  | [], j, vs, cvs, env, env', _, hs, _, _, he => by
    cases vs with
    | nil => simp only [initEnv, Option.some.injEq] at hs; subst hs; exact he
    | cons v vs => simp [initEnv] at hs
  | none :: ps, j, vs, cvs, env, env', hk, hs, hv, ht, he => by
    cases vs with
    | nil => simp [initEnv] at hs
    | cons v vs =>
      simp only [VRs] at hv
      obtain ⟨cv, r, rfl, _, hv2⟩ := hv
      simp only [Cx.inits, Bool.and_eq_true] at hk
      simp only [initEnv] at hs
      exact initEnv_sound hk.2 hs hv2 (fun i c hc => by have := ht (i + 1) c (by simpa using hc); rwa [show j + 1 + i = j + (i + 1) by omega]) he
  | some b :: ps, j, vs, cvs, env, env', hk, hs, hv, ht, he => by
    cases vs with
    | nil => simp [initEnv] at hs
    | cons v vs =>
      simp only [VRs] at hv
      obtain ⟨cv, r, rfl, hv1, hv2⟩ := hv
      simp only [Cx.inits, Bool.and_eq_true, Nat.beq_eq] at hk
      obtain ⟨⟨⟨hbj, hc⟩, hK⟩, hk2⟩ := hk
      simp only [initEnv] at hs
      refine initEnv_sound hk2 hs hv2 (fun i c hc => by have := ht (i + 1) c (by simpa using hc); rwa [show j + 1 + i = j + (i + 1) by omega]) ?_
      intro b' u hcan hg
      rw [Tr.get_set] at hg
      split at hg
      · rename_i hb
        subst hb
        simp only [Option.some.injEq] at hg
        subst hg
        refine ⟨by rw [hbj]; exact hK, ?_⟩
        have := ht 0 cv (by simp)
        rw [hbj]
        rw [Nat.add_zero] at this
        rw [this]
        exact hv1
      · exact he b' u hcan hg

theorem fn_sound (hok : TyOk E.P E.ty) (he : EvOk E e) {g : Bn} {af : AF} (hfn : fnOk E.P E.ty E.gl g.val af = true) {args : List AV} {cargs : Array Value} {pn : Option AV} {K : CallKind} (hrel : Rel E ρ s w)
    (hargs : VRs E.σ ρ args cargs.toList) (hk : KindOk E ρ pn K cs) :
    bodied E.P g.val = true ∧ ∃ o ∈ runFn e af args pn s, CLd E ρ s w (lone (Frame.enter E.P g.val cargs K) cs w) g.val K cs o := by
  unfold fnOk at hfn
  split at hfn
  · cases hfn
  · rename_i fn hf
    simp only at hfn
    split at hfn
    · cases hfn
    · rename_i c hc
      simp only [Bool.and_eq_true, Bool.not_eq_true'] at hfn
      obtain ⟨⟨⟨h1, h2⟩, h3⟩, h4⟩ := hfn
      refine ⟨by simp [bodied, hf, hc, h4], ?_⟩
      generalize hX : (⟨E.ty, E.gl, fun t => af.kept.testBit t, fn.ntmps⟩ : Cx) = X at h1 h2 h3
      have hx : XOk E X := by subst hX; exact ⟨rfl, rfl, hok⟩
      have hN : X.N = fn.ntmps := by subst hX; rfl
      unfold runFn
      split
      · rename_i env henv
        let b : Frame := { (default : Frame) with fn := g.val, kind := K }
        let a : Act := { tmps := cargs ++ Array.replicate (fn.ntmps - cargs.size) undef, defers := [] }
        have henter : Frame.enter E.P g.val cargs K = b.atR a [.code c] := by
          simp [Frame.enter, Frame.atR, hf, hc, b, a]
          rfl
        have hro : b.roundOf = none := rfl
        have henvR : EnvR E.σ ρ X.K env a.tmps := by
          refine initEnv_sound (j := 0) h2 henv hargs (fun i c hc => ?_) (fun b v _ hg => by rw [Tr.get_lf] at hg; cases hg)
          have hc' : cargs[i]? = some c := by simpa using hc
          have hlt : i < cargs.size := (Array.getElem?_eq_some_iff.1 hc').1
          simp only [a, Nat.zero_add, Array.getD_eq_getD_getElem?]
          rw [Array.getElem?_append_left hlt, hc']
          rfl
        have hfr : FrR E X ρ ⟨env, [], pn, false, none⟩ a b cs :=
          { env := henvR
            size := by rw [hN]; simp [a]; omega
            df := .nil
            ro := rfl
            pn := fun v hv => by
              obtain ⟨q1, c0, r0, v', q2, q3, q4⟩ := hk.1 v hv
              exact ⟨q1, rfl, c0, r0, v', q2, q3, q4⟩
            np := fun hp _ fr hfr => by
              have := hk.2 hp fr hfr
              simpa [marked] using this
            fn := ⟨fn, hf⟩ }
        obtain ⟨o, ho, hl⟩ := he.cd [] hx h1 hrel hfr
        rw [← henter] at hl
        have hm0 : marked (⟨env, [], pn, false, none⟩ : Fr).rc cs = cs := rfl
        rw [hm0] at hl
        have key : ∃ q ∈ kEnd e af.res o, CLd E ρ s w (lone (Frame.enter E.P g.val cargs K) cs w) g.val K cs q := by
          cases o with
          | x y => exact ⟨.x y, List.mem_singleton.2 rfl, trivial⟩
          | n f' s' =>
            obtain ⟨ρ', w', a', r1, r2, r3, r4⟩ := hl
            obtain ⟨q, hq, hcl⟩ := unw_sound (cs := cs) (rc := f'.rc) he hx h3 f'.df .ret s' ρ' w' { b.atR a' [] with mode := .returning } hf r1 r3.env r3.df rfl
            exact ⟨q, hq, hcl.pre r2 (r4.trans (.one (stepR_end hro)))⟩
          | j j f' s' =>
            cases j with
            | rt =>
              obtain ⟨ρ', w', a', k1, r1, r2, r3, _, r4⟩ := hl
              obtain ⟨q, hq, hcl⟩ := unw_sound (cs := cs) (rc := f'.rc) he hx h3 f'.df .ret s' ρ' w' { b.atR a' (.code .ret :: k1) with mode := .returning } hf r1 r3.env r3.df rfl
              exact ⟨q, hq, hcl.pre r2 (r4.trans (.one (stepR_ret hro)))⟩
            | ex id => exact ⟨_, List.mem_singleton.2 rfl, trivial⟩
            | gt l => exact ⟨_, List.mem_singleton.2 rfl, trivial⟩
          | p v f' s' =>
            obtain ⟨ρ', w', a', td, v', r1, r2, r3, r5, r4⟩ := hl
            obtain ⟨q, hq, hcl⟩ := unw_sound (cs := cs) (rc := f'.rc) he hx h3 f'.df (.pan v) s' ρ' w' { b.atR a' td with mode := pmode v' } hf r1 r3.env r3.df ⟨v', rfl, r5⟩
            exact ⟨q, hq, hcl.pre r2 r4⟩
        obtain ⟨q, hq, hcl⟩ := key
        exact ⟨q, mem_mapC ho hq, hcl⟩
      · exact ⟨_, List.mem_singleton.2 rfl, trivial⟩

-- several outcomes are made one
/-- a renaming, and what was renamed -/
structure RInv (n0 : Bn) (ren : Tr Bn) (out : List (Bn × Bn)) (nx : Bn) : Prop where
  iff : ∀ a b, ren.get a = some b ↔ (a, b) ∈ out
  lo : ∀ p ∈ out, n0.val ≤ p.2.val
  hi : ∀ p ∈ out, p.2.val < nx.val
  inj : ∀ p ∈ out, ∀ q ∈ out, p.2 = q.2 → p = q
  le : n0.val ≤ nx.val

theorem reach_inv {h : Tr AO} {n0 : Bn} : ∀ (n : Nat) (l : List Bn) (ren : Tr Bn) (out : List (Bn × Bn)) (nx : Bn), RInv n0 ren out nx →
    RInv n0 (reach h n l ren out nx).1 (reach h n l ren out nx).2.1 (reach h n l ren out nx).2.2
  | 0, l, ren, out, nx, hi => by simpa [reach] using hi
  | n + 1, [], ren, out, nx, hi => by simpa [reach] using hi
  | n + 1, a :: l, ren, out, nx, hi => by
    unfold reach
    split
    · exact reach_inv n l ren out nx hi
    · rename_i hr
      split
      · exact reach_inv n l ren out nx hi
      · rename_i o ho
        refine reach_inv n _ _ _ _ ⟨?_, ?_, ?_, ?_, ?_⟩
        · intro a' b'
          rw [Tr.get_set]
          split
          · rename_i e
            subst e
            simp only [Option.some.injEq, List.mem_cons, Prod.mk.injEq, true_and]
            constructor
            · rintro rfl; exact .inl rfl
            · rintro (rfl | h)
              · rfl
              · rw [(hi.iff a' b').2 h] at hr; cases hr
          · rename_i hne
            rw [hi.iff]
            simp [hne]
        · intro p hp
          rcases List.mem_cons.1 hp with rfl | hp
          · exact hi.le
          · exact hi.lo p hp
        · intro p hp
          rw [Bn.val_succ]
          rcases List.mem_cons.1 hp with rfl | hp
          · exact Nat.lt_succ_self _
          · exact Nat.lt_succ_of_lt (hi.hi p hp)
        · intro p hp q hq he
          rcases List.mem_cons.1 hp with rfl | hp <;> rcases List.mem_cons.1 hq with rfl | hq
          · rfl
          · have := hi.hi q hq; rw [← he] at this; exact absurd this (Nat.lt_irrefl _)
          · have := hi.hi p hp; rw [he] at this; exact absurd this (Nat.lt_irrefl _)
          · exact hi.inj p hp q hq he
        · rw [Bn.val_succ]; exact Nat.le_succ_of_le hi.le

section
variable {σ : Sig} {ρ1 ρ2 : Rho} {ren : Tr Bn} {lo : List (Tr AO)}
mutual
theorem renV_sound (hr : ∀ a b, renI ren lo a = some b → ρ2 b = ρ1 a) : ∀ (x x' : AV) (v : Value), renV ren lo x = some x' → VR σ ρ1 x v → VR σ ρ2 x' v
  | .b _, x', v, h, e => by simp only [renV, Option.some.injEq] at h; subst h; simpa [VR] using e
  | .i _ _, x', v, h, e => by simp only [renV, Option.some.injEq] at h; subst h; simpa [VR] using e
  | .s _, x', v, h, e => by simp only [renV, Option.some.injEq] at h; subst h; simpa [VR] using e
  | .p0, x', v, h, e => by simp only [renV, Option.some.injEq] at h; subst h; simpa [VR] using e
  | .sn, x', v, h, e => by simp only [renV, Option.some.injEq] at h; subst h; simpa [VR] using e
  | .se, x', v, h, e => by simp only [renV, Option.some.injEq] at h; subst h; simpa [VR] using e
  | .m0, x', v, h, e => by simp only [renV, Option.some.injEq] at h; subst h; simpa [VR] using e
  | .f0, x', v, h, e => by simp only [renV, Option.some.injEq] at h; subst h; simpa [VR] using e
  | .i0, x', v, h, e => by simp only [renV, Option.some.injEq] at h; subst h; simpa [VR] using e
  | .yl _, x', v, h, e => by simp [renV] at h
  | .q _, x', v, h, e => by simp [renV] at h
  | .p a o, x', v, h, e => by
    simp only [renV, Option.map_eq_some_iff] at h
    obtain ⟨b, hb, rfl⟩ := h
    simp only [VR] at e ⊢
    rw [hr a b hb]; exact e
  | .sl a o n c x z, x', v, h, e => by
    simp only [renV, Option.map_eq_some_iff] at h
    obtain ⟨b, hb, rfl⟩ := h
    simp only [VR] at e ⊢
    rw [hr a b hb]; exact e
  | .m a, x', v, h, e => by
    simp only [renV, Option.map_eq_some_iff] at h
    obtain ⟨b, hb, rfl⟩ := h
    simp only [VR] at e ⊢
    rw [hr a b hb]; exact e
  | .f g x y, x', v, h, e => by
    simp only [renV] at h
    split at h
    · cases h
    · rename_i p hp
      split at h
      · cases h
      · rename_i q hq
        simp only [Option.some.injEq] at h
        subst h
        simp only [VR] at e ⊢
        obtain ⟨u, t, h1, h2, h3⟩ := e
        exact ⟨u, t, renVs_sound hr _ _ _ hp h1, renVs_sound hr _ _ _ hq h2, h3⟩
  | .it t x, x', v, h, e => by
    simp only [renV] at h
    split at h
    · cases h
    · rename_i p hp
      simp only [Option.some.injEq] at h
      subst h
      simp only [VR] at e ⊢
      obtain ⟨u, h1, h2⟩ := e
      exact ⟨u, renV_sound hr _ _ _ hp h1, h2⟩
  | .ag l, x', v, h, e => by
    simp only [renV] at h
    split at h
    · cases h
    · rename_i p hp
      simp only [Option.some.injEq] at h
      subst h
      simp only [VR] at e ⊢
      obtain ⟨u, h1, h2⟩ := e
      exact ⟨u, renVs_sound hr _ _ _ hp h1, h2⟩
  | .tu l, x', v, h, e => by
    simp only [renV] at h
    split at h
    · cases h
    · rename_i p hp
      simp only [Option.some.injEq] at h
      subst h
      simp only [VR] at e ⊢
      obtain ⟨u, h1, h2⟩ := e
      exact ⟨u, renVs_sound hr _ _ _ hp h1, h2⟩
theorem renVs_sound (hr : ∀ a b, renI ren lo a = some b → ρ2 b = ρ1 a) : ∀ (x x' : List AV) (v : List Value), renVs ren lo x = some x' → VRs σ ρ1 x v → VRs σ ρ2 x' v
  | [], x', v, h, e => by simp only [renVs, Option.some.injEq] at h; subst h; simpa [VRs] using e
  | x :: l, x', v, h, e => by
    simp only [renVs] at h
    split at h
    · cases h
    · rename_i p hp
      split at h
      · cases h
      · rename_i q hq
        simp only [Option.some.injEq] at h
        subst h
        simp only [VRs] at e ⊢
        obtain ⟨y, r, h1, h2, h3⟩ := e
        exact ⟨y, r, h1, renV_sound hr _ _ _ hp h2, renVs_sound hr _ _ _ hq h3⟩
end

theorem renVs_nth : ∀ {x x' : List AV} {i : Nat} {y : AV}, renVs ren lo x = some x' → nth x' i = some y → ∃ z, nth x i = some z ∧ renV ren lo z = some y
  | [], x', i, y, h, hn => by
    simp only [renVs, Option.some.injEq] at h
    subst h
    cases i <;> simp [nth] at hn
  | x :: l, x', i, y, h, hn => by
    simp only [renVs] at h
    split at h
    · cases h
    · rename_i p hp
      split at h
      · cases h
      · rename_i q hq
        simp only [Option.some.injEq] at h
        subst h
        cases i with
        | zero => simp only [nth, Option.some.injEq] at hn; subst hn; exact ⟨x, rfl, hp⟩
        | succ i => simp only [nth] at hn ⊢; exact renVs_nth hq hn

theorem renEs_sound (hr : ∀ a b, renI ren lo a = some b → ρ2 b = ρ1 a) : ∀ {es es' : List (AV × AV × Nat)} {ms : List MapEntry}, renEs ren lo es = some es' → F2 (EntR σ ρ1) es ms → F2 (EntR σ ρ2) es' ms
  | [], es', ms, h, e => by
    simp only [renEs, Option.some.injEq] at h
    subst h
    cases e; exact .nil
  | (k, v, b) :: l, es', ms, h, e => by
    simp only [renEs] at h
    split at h
    · cases h
    · rename_i p hp
      split at h
      · cases h
      · rename_i q hq
        split at h
        · cases h
        · rename_i l' hl
          simp only [Option.some.injEq] at h
          subst h
          cases e with
          | cons h1 h2 => exact .cons ⟨renV_sound hr _ _ _ hp h1.1, renV_sound hr _ _ _ hq h1.2.1, h1.2.2⟩ (renEs_sound hr hl h2)

end

theorem renO_sound {E : Env} {ρ1 ρ2 : Rho} {ren : Tr Bn} {lo : List (Tr AO)} (hr : ∀ a b, renI ren lo a = some b → ρ2 b = ρ1 a) {o o' : AO} {L : Loc} {w : World} (h : renO ren lo o = some o') (ho : OR E ρ1 o L w) : OR E ρ2 o' L w := by
  cases o <;> simp only [renO, Option.map_eq_some_iff, reduceCtorEq] at h
  case c l =>
    obtain ⟨l', hl, rfl⟩ := h
    simp only [OR] at ho ⊢
    obtain ⟨cs, e, h1, h2, h3⟩ := ho
    refine ⟨cs, e, h1, h2, fun i y hy => ?_⟩
    obtain ⟨z, hz, hzy⟩ := renVs_nth hl hy
    obtain ⟨u, hu, hv⟩ := h3 i z hz
    exact ⟨u, hu, renV_sound hr _ _ _ hzy hv⟩
  case m es c =>
    obtain ⟨es', hes, rfl⟩ := h
    simp only [OR] at ho ⊢
    obtain ⟨ces, h1, h2⟩ := ho
    exact ⟨ces, h1, renEs_sound hr hes h2⟩

def srcOf : List (Bn × Bn) → Bn → Option Bn
  | [], _ => none
  | (a, b) :: l, x => if x = b then some a else srcOf l x
theorem srcOf_some : ∀ {l : List (Bn × Bn)} {x a : Bn}, srcOf l x = some a → (a, x) ∈ l
  | (a', b') :: l, x, a, h => by
    simp only [srcOf] at h
    split at h
    · rename_i e; subst e; simp only [Option.some.injEq] at h; subst h; exact List.mem_cons_self ..
    · exact List.mem_cons_of_mem _ (srcOf_some h)
  | [], x, a, h => by simp [srcOf] at h
theorem srcOf_none : ∀ {l : List (Bn × Bn)} {x : Bn}, srcOf l x = none → ∀ a, (a, x) ∉ l
  | [], x, _, a, h => by cases h
  | (a', b') :: l, x, h, a, hm => by
    simp only [srcOf] at h
    split at h
    · cases h
    · rename_i hne
      rcases List.mem_cons.1 hm with e | hm
      · cases e; exact hne rfl
      · exact srcOf_none h a hm

theorem setBs_get : ∀ {bs : List (Bn × AO)} {h : Tr AO} {x : Bn} {o : AO}, (setBs h bs).get x = some o → (x, o) ∈ bs ∨ h.get x = some o
  | [], h, x, o, hg => .inr hg
  | (a, p) :: l, h, x, o, hg => by
    simp only [setBs] at hg
    rcases setBs_get hg with hm | hm
    · exact .inl (List.mem_cons_of_mem _ hm)
    · rw [Tr.get_set] at hm
      split at hm
      · rename_i e; subst e; simp only [Option.some.injEq] at hm; subst hm; exact .inl (List.mem_cons_self ..)
      · exact .inr hm

theorem renBs_mem {ren : Tr Bn} {lo : List (Tr AO)} {h : Tr AO} : ∀ {out : List (Bn × Bn)} {bs : List (Bn × AO)} {b : Bn} {o : AO}, renBs ren lo h out = some bs → (b, o) ∈ bs →
    ∃ a p, (a, b) ∈ out ∧ h.get a = some p ∧ renO ren lo p = some o
  | [], bs, b, o, hr, hm => by simp only [renBs, Option.some.injEq] at hr; subst hr; cases hm
  | (a', b') :: l, bs, b, o, hr, hm => by
    simp only [renBs] at hr
    split at hr
    · cases hr
    · rename_i p hp
      split at hr
      · cases hr
      · rename_i q hq
        split at hr
        · cases hr
        · rename_i r hrr
          simp only [Option.some.injEq] at hr
          subst hr
          rcases List.mem_cons.1 hm with e | hm
          · cases e; exact ⟨a', p, List.mem_cons_self .., hp, hq⟩
          · obtain ⟨a, p, h1, h2⟩ := renBs_mem hrr hm
            exact ⟨a, p, List.mem_cons_of_mem _ h1, h2⟩

theorem renBs_key {ren : Tr Bn} {lo : List (Tr AO)} {h : Tr AO} : ∀ {out : List (Bn × Bn)} {bs : List (Bn × AO)} {a b : Bn}, renBs ren lo h out = some bs → (a, b) ∈ out → ∃ o, (b, o) ∈ bs
  | [], bs, a, b, hr, hm => by cases hm
  | (a', b') :: l, bs, a, b, hr, hm => by
    simp only [renBs] at hr
    split at hr
    · cases hr
    · rename_i p hp
      split at hr
      · cases hr
      · rename_i q hq
        split at hr
        · cases hr
        · rename_i r hrr
          simp only [Option.some.injEq] at hr
          subst hr
          rcases List.mem_cons.1 hm with e | hm
          · cases e; exact ⟨q, List.mem_cons_self ..⟩
          · obtain ⟨o, h1⟩ := renBs_key hrr hm
            exact ⟨o, List.mem_cons_of_mem _ h1⟩

/-- nothing that was there has been written -/
structure Kept (s : St) (ρ : Rho) (w : World) (s1 : St) (ρ1 : Rho) (w1 : World) : Prop where
  le : ρ.le ρ1
  os : w1.os = w.os
  tape : w1.tape = w.tape
  output : w1.output = w.output
  size : w.heap.size ≤ w1.heap.size
  same : ∀ b, b < w.heap.size → w1.heap[b]? = w.heap[b]?
  wr : ∀ b, b < w.heap.size → ¬ Wr s1 ρ1 b

theorem Ext.kept {s0 : St} {s1 : St} {ρ1 : Rho} {w1 : World} (h : Ext s0 ρ w s1 ρ1 w1) (h0 : s0.h = .lf) : Kept s0 ρ w s1 ρ1 w1 := by
  have hnw : ∀ b, ¬ Wr s0 ρ b := by
    rintro b ⟨a, o, L, hg, _⟩
    rw [h0, Tr.get_lf] at hg
    cases hg
  exact { le := h.le, os := h.os, tape := h.tape, output := h.output, size := h.size, same := fun b hb => h.same b hb (hnw b), wr := fun b hb hw => hnw b (h.wr b hb hw) }

/-- the state that one outcome is brought to -/
theorem canon_land (hrel : Rel E ρ s w) {ρ1 : Rho} {s1 : St} {w1 : World} (hrel1 : Rel E ρ1 s1 w1) (hext : Kept s ρ w s1 ρ1 w1) {ren : Tr Bn} {out : List (Bn × Bn)} {nx1 nx : Bn}
    (hinv : RInv s.nx ren out nx1) {v v' : AV} {cv : Value} (hv : renV ren (s.h :: s.lo) v = some v') (hcv : VR E.σ ρ1 v cv) {bs : List (Bn × AO)} (hbs : renBs ren (s.h :: s.lo) s1.h out = some bs)
    (hkeys : ∀ p ∈ bs, p.1.val < nx.val) (hnx : s.nx.val ≤ nx.val) :
    ∃ ρ2, Rel E ρ2 ⟨setBs s.h bs, s.lo, nx⟩ w1 ∧ Ext s ρ w ⟨setBs s.h bs, s.lo, nx⟩ ρ2 w1 ∧ VR E.σ ρ2 v' cv := by
  let ρ2 : Rho := fun x => match srcOf out x with | some a => ρ1 a | none => ρ x
  have hlow : ∀ x : Bn, x.val < s.nx.val → ρ2 x = ρ x := by
    intro x hx
    show (match srcOf out x with | some a => ρ1 a | none => ρ x) = ρ x
    cases hs : srcOf out x with
    | none => rfl
    | some a => have := hinv.lo _ (srcOf_some hs); simp only at this; omega
  have hlive : ∀ x o, s.get x = some o → x.val < s.nx.val := by
    intro x o hx
    obtain ⟨L, hL, _⟩ := hrel.obj x o hx
    rcases Nat.lt_or_ge x.val s.nx.val with h | h
    · exact h
    · rw [hrel.fresh x h] at hL; cases hL
  have hdom : ∀ x L, ρ x = some L → x.val < s.nx.val := by
    intro x L hx
    rcases Nat.lt_or_ge x.val s.nx.val with h | h
    · exact h
    · rw [hrel.fresh x h] at hx; cases hx
  have hle : ρ.le ρ2 := fun x L hx => by rw [hlow x (hdom x L hx)]; exact hx
  have hnew : ∀ a b, (a, b) ∈ out → ρ2 b = ρ1 a := by
    intro a b hab
    show (match srcOf out b with | some a => ρ1 a | none => ρ b) = ρ1 a
    cases hs : srcOf out b with
    | none => exact absurd hab (srcOf_none hs a)
    | some a' =>
      have := hinv.inj _ (srcOf_some hs) _ hab rfl
      simp only [Prod.mk.injEq] at this
      rw [this.1]
  have hr : ∀ a b, renI ren (s.h :: s.lo) a = some b → ρ2 b = ρ1 a := by
    intro a b h
    simp only [renI] at h
    split at h
    · rename_i b' hb'
      simp only [Option.some.injEq] at h
      subst h
      exact hnew _ _ ((hinv.iff _ _).1 hb')
    · split at h
      · rename_i o ho
        simp only [Option.some.injEq] at h
        subst h
        have hg : s.get a = some o := ho
        obtain ⟨L, hL, _⟩ := hrel.obj a o hg
        rw [hlow a (hlive a o hg), hext.le _ _ hL, hL]
      · cases h
  -- what lives in the new state
  have newB : ∀ a o, (a, o) ∈ bs → ∃ a1 o1 L, (a1, a) ∈ out ∧ s1.h.get a1 = some o1 ∧ ρ1 a1 = some L ∧ ρ2 a = some L ∧ OR E ρ2 o L w1 ∧ w.heap.size ≤ L.b := by
    intro a o hm
    obtain ⟨a1, o1, h1, h2, h3⟩ := renBs_mem hbs hm
    obtain ⟨L, hL, hO⟩ := hrel1.obj a1 o1 (St.get_of_h h2)
    refine ⟨a1, o1, L, h1, h2, hL, by rw [hnew _ _ h1]; exact hL, renO_sound hr h3 hO, ?_⟩
    rcases Nat.lt_or_ge L.b w.heap.size with h | h
    · exact absurd ⟨a1, o1, L, h2, hL, rfl⟩ (hext.wr _ h)
    · exact h
  have oldB : ∀ a o, s.get a = some o → ∃ L, ρ a = some L ∧ ρ2 a = some L ∧ OR E ρ2 o L w1 ∧ L.b < w.heap.size := by
    intro a o hg
    obtain ⟨L, hL, hO⟩ := hrel.obj a o hg
    exact ⟨L, hL, hle _ _ hL, hO.mono hle (hext.same _ hO.lt), hO.lt⟩
  have split : ∀ a o, (⟨setBs s.h bs, s.lo, nx⟩ : St).get a = some o → (a, o) ∈ bs ∨ s.get a = some o := by
    intro a o hg
    unfold St.get at hg
    simp only at hg
    split at hg
    · rename_i p hp
      simp only [Option.some.injEq] at hg
      subst hg
      rcases setBs_get hp with h | h
      · exact .inl h
      · exact .inr (St.get_of_h h)
    · rename_i hp
      right
      unfold St.get
      split
      · rename_i p hp'
        -- it was overwritten by none: not possible
        exfalso
        have : ∀ {bs : List (Bn × AO)} {h : Tr AO} {q : AO}, h.get a = some q → ∃ q', (setBs h bs).get a = some q' := by
          intro bs
          induction bs with
          | nil => intro h q hq; exact ⟨q, hq⟩
          | cons y l ih =>
            obtain ⟨y1, y2⟩ := y
            intro h q hq
            simp only [setBs]
            by_cases e : a = y1
            · exact ih (q := y2) (by rw [Tr.get_set, if_pos e])
            · exact ih (q := q) (by rw [Tr.get_set, if_neg e]; exact hq)
        obtain ⟨q', hq'⟩ := this (bs := bs) hp'
        rw [hp] at hq'
        cases hq'
      · exact hg
  refine ⟨ρ2, ⟨?_, ?_, ?_, ?_, ?_⟩, ⟨hle, rfl, hext.os, hext.tape, hext.output, hext.size, fun b hb _ => hext.same b hb, ?_, hlow, hnx⟩, renV_sound hr _ _ _ hv hcv⟩
  · intro a ha
    simp only at ha
    show (match srcOf out a with | some a => ρ1 a | none => ρ a) = none
    cases hs : srcOf out a with
    | none => exact hrel.fresh a (Nat.le_trans hnx ha)
    | some a' =>
      obtain ⟨o, ho⟩ := renBs_key hbs (srcOf_some hs)
      have := hkeys _ ho
      simp only at this
      omega
  · intro a o hg
    rcases split a o hg with h | h
    · obtain ⟨_, _, L, _, _, _, h4, h5, _⟩ := newB a o h
      exact ⟨L, h4, h5⟩
    · obtain ⟨L, _, h4, h5, _⟩ := oldB a o h
      exact ⟨L, h4, h5⟩
  · intro a a' o o' L L' hg hg' hL hL' e
    rcases split a o hg with h | h <;> rcases split a' o' hg' with h' | h'
    · obtain ⟨a1, o1, M, h1, h2, h3, h4, _⟩ := newB a o h
      obtain ⟨a1', o1', M', h1', h2', h3', h4', _⟩ := newB a' o' h'
      rw [hL] at h4; cases h4
      rw [hL'] at h4'; cases h4'
      have := hrel1.inj a1 a1' o1 o1' L L' (St.get_of_h h2) (St.get_of_h h2') h3 h3' e
      subst this
      have x1 := (hinv.iff _ _).2 h1
      rw [(hinv.iff _ _).2 h1'] at x1
      exact (Option.some.inj x1).symm
    · obtain ⟨a1, o1, M, h1, h2, h3, h4, _, h6⟩ := newB a o h
      obtain ⟨M', _, h4', _, h6'⟩ := oldB a' o' h'
      rw [hL] at h4; cases h4
      rw [hL'] at h4'; cases h4'
      omega
    · obtain ⟨a1, o1, M, h1, h2, h3, h4, _, h6⟩ := newB a' o' h'
      obtain ⟨M', _, h4', _, h6'⟩ := oldB a o h
      rw [hL'] at h4; cases h4
      rw [hL] at h4'; cases h4'
      omega
    · obtain ⟨M, h1, h2, _⟩ := oldB a o h
      obtain ⟨M', h1', h2', _⟩ := oldB a' o' h'
      rw [hL] at h2; cases h2
      rw [hL'] at h2'; cases h2'
      exact hrel.inj a a' o o' L L' h h' h1 h1' e
  · intro b hg hc
    obtain ⟨t, ht⟩ := hrel.glob b hg hc
    exact ⟨t, hle _ _ ht⟩
  · intro a o hg
    simp only at hg
    rcases setBs_get hg with h | h
    · cases hl : lows s.lo a with
      | none => rfl
      | some o' =>
        exfalso
        have ⟨o2, h2⟩ : ∃ o2, s.get a = some o2 := by
          unfold St.get
          split
          · exact ⟨_, rfl⟩
          · exact ⟨_, hl⟩
        have h3 := hlive a o2 h2
        obtain ⟨a1, _, _, h4, _⟩ := newB a o h
        have := hinv.lo _ h4
        simp only at this
        omega
    · exact hrel.sep a o h
  · rintro b hb ⟨a, o, L, hg, hL, rfl⟩
    simp only at hg
    rcases setBs_get hg with h | h
    · obtain ⟨_, _, M, _, _, _, h4, _, h6⟩ := newB a o h
      rw [hL] at h4; cases h4
      omega
    · obtain ⟨M, h1, h2, _⟩ := oldB a o (St.get_of_h h)
      rw [hL] at h2; cases h2
      exact ⟨a, o, L, h, h1, rfl⟩

theorem esBeq_eq : ∀ {l l' : List (AV × AV × Nat)}, esBeq l l' = true → l = l'
  | [], [], _ => rfl
  | [], _ :: _, h => by simp [esBeq] at h
  | (k, v, b) :: l, [], h => by simp [esBeq] at h
  | (k, v, b) :: l, (k', v', b') :: l', h => by
    simp only [esBeq, Bool.and_eq_true, beq_iff_eq] at h
    rw [AV.beq_eq h.1.1.1, AV.beq_eq h.1.1.2, h.1.2, esBeq_eq h.2]
theorem AO.beq_eq {x y : AO} (h : x.beq y = true) : x = y := by
  cases x <;> cases y <;> simp only [AO.beq, Bool.false_eq_true, Bool.and_eq_true, beq_iff_eq] at h
  · rw [AV.beqs_eq h]
  · rw [esBeq_eq h.1, h.2]
theorem bsBeq_eq : ∀ {l l' : List (Bn × AO)}, bsBeq l l' = true → l = l'
  | [], [], _ => rfl
  | [], _ :: _, h => by simp [bsBeq] at h
  | (a, o) :: l, [], h => by simp [bsBeq] at h
  | (a, o) :: l, (a', o') :: l', h => by
    simp only [bsBeq, Bool.and_eq_true] at h
    rw [Bn.beq_eq h.1.1, AO.beq_eq h.1.2, bsBeq_eq h.2]

theorem canon_spec {lo : List (Tr AO)} {n0 nx : Bn} {v v' : AV} {s1 : St} {bs : List (Bn × AO)} (h : canon lo n0 v s1 = some (v', bs, nx)) :
    ∃ ren out, RInv n0 ren out nx ∧ renV ren lo v = some v' ∧ renBs ren lo s1.h out = some bs := by
  unfold canon at h
  have hi := reach_inv (h := s1.h) (n0 := n0) 10000 (idsV v) .lf [] n0 ⟨by simp [Tr.get_lf], by simp, by simp, by simp, Nat.le_refl _⟩
  simp only at h
  split at h
  · cases h
  · rename_i u hu
    split at h
    · cases h
    · rename_i cs hcs
      simp only [Option.some.injEq, Prod.mk.injEq] at h
      obtain ⟨rfl, rfl, rfl⟩ := h
      exact ⟨_, _, hi, hu, hcs⟩

theorem canons_mem {lo : List (Tr AO)} {n0 : Bn} {v0 : AV} {b0 : List (Bn × AO)} : ∀ {l : List COut} {o : COut}, canons lo n0 v0 b0 l = true → o ∈ l → ∃ v s1 nx, o = .r v s1 false ∧ canon lo n0 v s1 = some (v0, b0, nx)
  | [], o, _, h => by cases h
  | x :: l, o, hc, h => by
    cases x with
    | x _ => simp [canons] at hc
    | p _ _ _ => simp [canons] at hc
    | r v s1 rc =>
      cases rc with
      | true => simp [canons] at hc
      | false =>
        simp only [canons] at hc
        split at hc
        · rename_i v' bs nx hcan
          simp only [Bool.and_eq_true] at hc
          rcases List.mem_cons.1 h with rfl | h
          · exact ⟨v, s1, nx, rfl, by rw [hcan, AV.beq_eq hc.1.1, bsBeq_eq hc.1.2]⟩
          · exact canons_mem hc.2 h
        · cases hc

theorem join_sound {m : Machine} {g : FuncId} {K : CallKind} (hrel : Rel E ρ s w) {outs : List COut} (h : ∃ o ∈ outs, CLd E ρ ⟨.lf, s.h :: s.lo, s.nx⟩ w m g K cs o) : ∃ o ∈ join s outs, CLd E ρ s w m g K cs o := by
  obtain ⟨o, ho, hl⟩ := h
  unfold join
  split
  · rename_i v s1 l
    split
    · rename_i v' bs nx hcan
      split
      · rename_i hcs
        refine ⟨_, List.mem_singleton.2 rfl, ?_⟩
        obtain ⟨ren0, out0, hi0, _, hb0⟩ := canon_spec hcan
        have hkeys : ∀ p ∈ bs, p.1.val < nx.val := by
          rintro ⟨b, q⟩ hp
          obtain ⟨a1, _, h1, _⟩ := renBs_mem hb0 hp
          exact hi0.hi _ h1
        have key : ∀ (u : AV) (s2 : St) (nx2 : Bn), o = .r u s2 false → canon (s.h :: s.lo) s.nx u s2 = some (v', bs, nx2) → CLd E ρ s w m g K cs (.r v' ⟨setBs s.h bs, s.lo, nx⟩ false) := by
          rintro u s2 nx2 rfl hc2
          obtain ⟨ren, out, hi, hv, hb⟩ := canon_spec hc2
          obtain ⟨ρ1, w1, fr, cv, a1, a2, a3, a4⟩ := hl
          have a2' := Ext.kept a2 rfl
          obtain ⟨ρ2, b1, b2, b3⟩ := canon_land hrel a1 ⟨a2'.le, a2'.os, a2'.tape, a2'.output, a2'.size, a2'.same, a2'.wr⟩ hi hv a3 hb hkeys hi0.le
          exact ⟨ρ2, w1, fr, cv, b1, b2, b3, a4⟩
        rcases List.mem_cons.1 ho with e | ho
        · exact key v s1 nx e hcan
        · obtain ⟨u, s2, nx2, e, hc2⟩ := canons_mem hcs ho
          exact key u s2 nx2 e hc2
      · exact ⟨_, List.mem_singleton.2 rfl, trivial⟩
    · exact ⟨_, List.mem_singleton.2 rfl, trivial⟩
  · exact ⟨_, List.mem_singleton.2 rfl, trivial⟩
  · exact ⟨_, List.mem_singleton.2 rfl, trivial⟩

theorem Rel.under (hrel : Rel E ρ s w) : Rel E ρ ⟨.lf, s.h :: s.lo, s.nx⟩ w := by
  have hg : ∀ a, (⟨.lf, s.h :: s.lo, s.nx⟩ : St).get a = s.get a := by
    intro a
    simp only [St.get, Tr.get_lf, lows]
  exact ⟨hrel.fresh, fun a o h => hrel.obj a o (by rw [← hg]; exact h), fun a a' o o' L L' h h' => hrel.inj a a' o o' L L' (by rw [← hg]; exact h) (by rw [← hg]; exact h'), hrel.glob,
    fun a o h => by simp only [Tr.get_lf] at h; cases h⟩

/-- the table says of each function what the program does -/
def TblOk (E : Env) (tbl : Bn → Option AF) : Prop := ∀ g af, tbl g = some af → fnOk E.P E.ty E.gl g.val af = true

theorem call_sound (hok : TyOk E.P E.ty) {tbl : Bn → Option AF} (htbl : TblOk E tbl) (he : EvOk E e) {g : Bn} {args : List AV} {cargs : Array Value} {pn : Option AV} {K : CallKind} (hrel : Rel E ρ s w)
    (hargs : VRs E.σ ρ args cargs.toList) (hk : KindOk E ρ pn K cs) :
    (∃ m, COut.x m ∈ callFn tbl e g args pn s) ∨ (bodied E.P g.val = true ∧ ∃ o ∈ callFn tbl e g args pn s, CLd E ρ s w (lone (Frame.enter E.P g.val cargs K) cs w) g.val K cs o) := by
  unfold callFn
  split
  · exact .inl ⟨_, List.mem_singleton.2 rfl⟩
  · rename_i af haf
    right
    have hfn := htbl g af haf
    split
    · obtain ⟨hb, h⟩ := fn_sound (cs := cs) hok he hfn hrel.under hargs hk
      exact ⟨hb, join_sound hrel h⟩
    · exact fn_sound hok he hfn hrel hargs hk
end
end Go.Ex
/- The orders of a region whose order is open. -/
namespace Go.Ex

theorem natIn_iff {n : Nat} {l : List Nat} : natIn n l = true ↔ n ∈ l := by
  rw [natIn_eq]; simp

theorem covers_spec {n : Nat} {l : List Nat} (h : covers n l = true) {i : Nat} (hi : i < n) : i ∈ l := by
  unfold covers at h
  simp only [List.all_eq_true, List.mem_range] at h
  exact natIn_iff.1 (h i hi)

section
variable {md : Region.Mode} {ops : Array Oper} {listed : Array Bool}

theorem ready_of_fits : ∀ (l don : List Nat), fits md ops l don = true → listed.size = ops.size → (∀ x ∈ don, listed.getD x false = true) → (∃ j ∈ l, listed.getD j true = false) →
    ∃ i, i ∈ Region.ready md ops listed
  | [], _, _, _, _, h => by obtain ⟨j, hj, _⟩ := h; cases hj
  | i :: l, don, hf, hsz, hdon, h => by
    simp only [fits, Bool.and_eq_true] at hf
    obtain ⟨h1, h2⟩ := hf
    split at h1
    · rename_i o ho
      have hlt : i < ops.size := (Array.getElem?_eq_some_iff.1 ho).1
      cases hi : listed.getD i true with
      | false =>
        refine ⟨i, mem_ready.2 ⟨hi, o, ho, fun e he hb => ?_⟩⟩
        simp only [List.all_eq_true, Bool.or_eq_true, Bool.not_eq_true'] at h1
        rcases h1 e (by simpa using he) with h3 | h3
        · rw [hb] at h3; cases h3
        · exact hdon _ (natIn_iff.1 h3)
      | true =>
        have hi' : listed.getD i false = true := by
          rw [Array.getD_eq_getD_getElem?] at hi ⊢
          rw [Array.getElem?_eq_getElem (by omega)] at hi ⊢
          exact hi
        refine ready_of_fits l (i :: don) h2 hsz (fun x hx => ?_) ?_
        · rcases List.mem_cons.1 hx with rfl | hx
          · exact hi'
          · exact hdon x hx
        · obtain ⟨j, hj, hjl⟩ := h
          rcases List.mem_cons.1 hj with rfl | hj
          · rw [hi] at hjl; cases hjl
          · exact ⟨j, hj, hjl⟩
    · cases h1

theorem filter_drop {p q : Nat → Bool} {i : Nat} : ∀ {l : List Nat}, (∀ x, q x = true → p x = true) → i ∈ l → p i = true → q i = false → (l.filter q).length < (l.filter p).length
  | [], _, h, _, _ => by cases h
  | x :: l, hqp, h, hp, hq => by
    have hle : (l.filter q).length ≤ (l.filter p).length := by
      clear h
      induction l with
      | nil => simp
      | cons y l ih =>
        simp only [List.filter_cons]
        cases hy : q y with
        | false => cases p y <;> simp <;> omega
        | true => simp [hqp y hy]; exact ih
    simp only [List.filter_cons]
    rcases List.mem_cons.1 h with rfl | h
    · simp [hp, hq]; omega
    · have ih := filter_drop hqp h hp hq
      cases hx : q x with
      | false => cases p x <;> simp <;> omega
      | true => simp [hqp x hx]; exact ih

theorem getD_set_true' {i j : Nat} (h : listed.getD j true = true) : (listed.setIfInBounds i true).getD j true = true := by
  by_cases hij : i = j
  · subst hij
    rw [Array.getD_eq_getD_getElem?, Array.getElem?_setIfInBounds]
    split
    · split <;> rfl
    · rename_i h; exact absurd rfl h
  · rw [getD_set_ne true hij]; exact h

theorem getD_set_self {i : Nat} (h : i < listed.size) (d : Bool) : (listed.setIfInBounds i true).getD i d = true := by
  simp [h]

theorem go_spec {l0 : List Nat} (hfit : fits md ops l0 [] = true) (hcov : covers ops.size l0 = true) : ∀ (fuel t : Nat) (listed : Array Bool), listed.size = ops.size →
    (l0.filter fun i => !(listed.getD i true)).length ≤ fuel →
    (Region.linearise.go md ops fuel t listed []).Nodup ∧ (∀ i ∈ Region.linearise.go md ops fuel t listed [], listed.getD i true = false) ∧
    (∀ i, i < ops.size → listed.getD i true = false → i ∈ Region.linearise.go md ops fuel t listed []) ∧
    (∀ l1 i l2, Region.linearise.go md ops fuel t listed [] = l1 ++ i :: l2 → ∀ o, ops[i]? = some o → ∀ e ∈ o.after, Region.binds md e = true → e.on ∈ l1 ∨ listed.getD e.on false = true)
  | 0, t, listed, hsz, hle => by
    simp only [Region.linearise.go, List.reverse_nil]
    refine ⟨List.nodup_nil, by simp, fun i hi hl => ?_, fun l1 i l2 h => by simp at h⟩
    exfalso
    have : i ∈ l0.filter fun i => !(listed.getD i true) := List.mem_filter.2 ⟨covers_spec hcov hi, by simp only [hl]; rfl⟩
    have h0 : (l0.filter fun i => !(listed.getD i true)) = [] := List.length_eq_zero_iff.1 (Nat.le_zero.1 hle)
    rw [h0] at this
    cases this
  | fuel + 1, t, listed, hsz, hle => by
    have hun : Region.linearise.go md ops (fuel + 1) t listed [] = (match (Region.ready md ops listed)[t % (Region.ready md ops listed).length]? with
      | some i => Region.linearise.go md ops fuel (t / (Region.ready md ops listed).length) (listed.setIfInBounds i true) [i]
      | none => [].reverse) := by simp only [Region.linearise.go]; rfl
    rw [hun]
    cases hi : (Region.ready md ops listed)[t % (Region.ready md ops listed).length]? with
    | none =>
      have hnil : Region.ready md ops listed = [] := by
        cases hr : Region.ready md ops listed with
        | nil => rfl
        | cons x xs =>
          rw [hr] at hi
          have hlt : t % (x :: xs).length < (x :: xs).length := Nat.mod_lt _ (by simp)
          simp at hi
          simp at hlt
          omega
      simp only [List.reverse_nil]
      refine ⟨List.nodup_nil, by simp, fun i hi hl => ?_, fun l1 i l2 h => by simp at h⟩
      obtain ⟨k, hk⟩ := ready_of_fits l0 [] hfit hsz (by simp) ⟨i, covers_spec hcov hi, hl⟩
      rw [hnil] at hk
      cases hk
    | some i =>
      have hmem := List.mem_of_getElem? hi
      obtain ⟨hil, o, ho, hall⟩ := mem_ready.1 hmem
      have hlt : i < ops.size := (Array.getElem?_eq_some_iff.1 ho).1
      simp only []
      rw [linearise_go_acc, List.reverse_singleton, List.singleton_append]
      have hself : ∀ d, (listed.setIfInBounds i true).getD i d = true := fun d => getD_set_self (by omega) d
      have hlen : (l0.filter fun j => !((listed.setIfInBounds i true).getD j true)).length ≤ fuel := by
        have := filter_drop (l := l0) (i := i) (p := fun j => !(listed.getD j true)) (q := fun j => !((listed.setIfInBounds i true).getD j true)) (fun x hx => by
          simp only [Bool.not_eq_true'] at hx ⊢
          cases hl : listed.getD x true with
          | false => rfl
          | true => rw [getD_set_true' hl] at hx; cases hx) (covers_spec hcov hlt) (by simp only [hil]; rfl) (by simp only [hself]; rfl)
        omega
      obtain ⟨a1, a2, a3, a4⟩ := go_spec hfit hcov fuel (t / (Region.ready md ops listed).length) (listed.setIfInBounds i true) (by simpa using hsz) hlen
      generalize Region.linearise.go md ops fuel (t / (Region.ready md ops listed).length) (listed.setIfInBounds i true) [] = l at a1 a2 a3 a4
      have hni : i ∉ l := fun h => by have := a2 i h; rw [hself] at this; cases this
      refine ⟨List.nodup_cons.2 ⟨hni, a1⟩, ?_, ?_, ?_⟩
      · intro j hj
        rcases List.mem_cons.1 hj with rfl | hj
        · exact hil
        · have := a2 j hj
          cases hl : listed.getD j true with
          | false => rfl
          | true => rw [getD_set_true' hl] at this; cases this
      · intro j hj hl
        by_cases e : j = i
        · subst e; exact List.mem_cons_self ..
        · exact List.mem_cons_of_mem _ (a3 j hj (by rw [getD_set_ne true (Ne.symm e)]; exact hl))
      · intro l1 j l2 hs o' ho' e he hb
        cases l1 with
        | nil =>
          simp only [List.nil_append, List.cons.injEq] at hs
          obtain ⟨rfl, rfl⟩ := hs
          rw [ho] at ho'
          cases ho'
          exact .inr (hall e he hb)
        | cons x l1 =>
          simp only [List.cons_append, List.cons.injEq] at hs
          obtain ⟨rfl, hs⟩ := hs
          rcases a4 l1 j l2 hs o' ho' e he hb with h | h
          · exact .inl (List.mem_cons_of_mem _ h)
          · by_cases e' : i = e.on
            · exact .inl (by rw [← e']; exact List.mem_cons_self ..)
            · rw [getD_set_ne false e'] at h; exact .inr h
end

/-- each thing's edges come ahead of it -/
def Ahead (ops : Array Oper) (l : List Nat) : Prop :=
  ∀ l1 i l2, l = l1 ++ i :: l2 → ∀ o, ops[i]? = some o → ∀ e ∈ o.after, Region.binds .any e = true → e.on ∈ l1

theorem binds_any {md : Region.Mode} {e : Edge} (h : Region.binds .any e = true) : Region.binds md e = true := by
  unfold Region.binds at h ⊢
  split <;> simp_all

theorem go_length {md : Region.Mode} {ops : Array Oper} : ∀ (fuel t : Nat) (listed : Array Bool), (Region.linearise.go md ops fuel t listed []).length ≤ fuel
  | 0, t, listed => by simp [Region.linearise.go]
  | fuel + 1, t, listed => by
    simp only [Region.linearise.go]
    split
    · rw [linearise_go_acc]
      have := go_length (md := md) (ops := ops) fuel
      simp only [List.reverse_singleton, List.singleton_append, List.length_cons]
      exact Nat.succ_le_succ (this _ _)
    · simp

theorem lin_spec {md : Region.Mode} {ops : Array Oper} (h : listed md ops = true) (t : Nat) :
    (Region.linearise md ops t).Nodup ∧ (∀ i, i ∈ Region.linearise md ops t ↔ i < ops.size) ∧ Ahead ops (Region.linearise md ops t) := by
  have ⟨l0, h1, h2, h3⟩ : ∃ l0 : List Nat, fits md ops l0 [] = true ∧ covers ops.size l0 = true ∧ l0.length ≤ ops.size := by
    unfold listed fitsAll at h
    simp only [Bool.or_eq_true, Bool.and_eq_true] at h
    rcases h with h | h
    · exact ⟨_, h.1, h.2, by simp⟩
    · exact ⟨_, h.1, h.2, go_length _ _ _⟩
  have hd : ∀ i, i < ops.size → (Array.replicate ops.size false).getD i true = false := fun i hi => by simp [hi]
  have hd' : ∀ i, (Array.replicate ops.size false).getD i false = false := fun i => by
    rw [Array.getD_eq_getD_getElem?, Array.getElem?_replicate]
    split <;> rfl
  have hlen : (l0.filter fun i => !((Array.replicate ops.size false).getD i true)).length ≤ ops.size :=
    Nat.le_trans (List.length_filter_le _ _) h3
  obtain ⟨a1, a2, a3, a4⟩ := go_spec h1 h2 ops.size t (Array.replicate ops.size false) (by simp) hlen
  refine ⟨a1, fun i => ⟨fun hi => ?_, fun hi => a3 i hi (hd i hi)⟩, fun l1 i l2 hs o ho e he hb => ?_⟩
  · have := a2 i hi
    rcases Nat.lt_or_ge i ops.size with h | h
    · exact h
    · rw [Array.getD_eq_getD_getElem?, Array.getElem?_eq_none (by simpa using h)] at this; cases this
  · rcases a4 l1 i l2 hs o ho e he (binds_any hb) with h | h
    · exact h
    · rw [hd'] at h; cases h

theorem sched_spec {ops : Array Oper} (h1 : listed .any ops = true) (h2 : listed .text ops = true) (h3 : listed .gc ops = true) (mixed : Bool) (t : Nat) :
    (Region.schedule mixed ops t).Nodup ∧ (∀ i, i ∈ Region.schedule mixed ops t ↔ i < ops.size) ∧ Ahead ops (Region.schedule mixed ops t) := by
  unfold Region.schedule
  split
  · exact lin_spec h1 t
  · split
    · exact lin_spec h2 _
    · exact lin_spec h3 _

-- what must be ahead
theorem maskFold {j : Nat} {acc : List Nat} : ∀ {es : List Edge} {s0 : Nat}, (es.foldl (fun s e => if Region.binds .any e then s ||| 2 ^ e.on ||| (nth acc e.on).getD 0 else s) s0).testBit j = true →
    s0.testBit j = true ∨ ∃ e ∈ es, Region.binds .any e = true ∧ (j = e.on ∨ ((nth acc e.on).getD 0).testBit j = true)
  | [], s0, h => .inl h
  | e :: es, s0, h => by
    simp only [List.foldl_cons] at h
    rcases maskFold h with h | ⟨e', he', h⟩
    · split at h
      · rename_i hb
        simp only [Nat.testBit_or, Bool.or_eq_true, Nat.testBit_two_pow, decide_eq_true_eq] at h
        rcases h with (h | h) | h
        · exact .inl h
        · exact .inr ⟨e, List.mem_cons_self .., hb, .inl h.symm⟩
        · exact .inr ⟨e, List.mem_cons_self .., hb, .inr h⟩
      · exact .inl h
    · exact .inr ⟨e', List.mem_cons_of_mem _ he', h⟩

theorem nth_append_left : ∀ {α : Type} {l r : List α} {i : Nat}, i < l.length → nth (l ++ r) i = nth l i
  | _, [], _, i, h => by simp at h
  | _, x :: l, r, 0, _ => rfl
  | _, x :: l, r, i + 1, h => by simp only [List.cons_append, nth]; exact nth_append_left (by simpa using h)
theorem nth_append_right : ∀ {α : Type} {l r : List α} {i : Nat}, nth (l ++ r) (l.length + i) = nth r i
  | _, [], r, i => by simp
  | _, x :: l, r, i => by
    simp only [List.cons_append, List.length_cons]
    rw [show l.length + 1 + i = (l.length + i) + 1 by omega]
    simp only [nth]
    exact nth_append_right

theorem befs_spec : ∀ {os : List Oper} {acc : List Nat}, ∃ r, befs os acc = acc ++ r ∧ ∀ k m, nth r k = some m → ∃ o, os[k]? = some o ∧ m = maskOf o (acc ++ r.take k)
  | [], acc => ⟨[], by simp [befs], fun k m h => by cases k <;> simp [nth] at h⟩
  | o :: os, acc => by
    obtain ⟨r, h1, h2⟩ := befs_spec (os := os) (acc := acc ++ [maskOf o acc])
    refine ⟨maskOf o acc :: r, by simp [befs, h1], fun k m h => ?_⟩
    cases k with
    | zero => simp only [nth, Option.some.injEq] at h; subst h; exact ⟨o, by simp, by simp⟩
    | succ k =>
      simp only [nth] at h
      obtain ⟨o', ho', hm⟩ := h2 k m h
      exact ⟨o', by simpa using ho', by rw [hm]; simp⟩

theorem mask_ahead {ops : Array Oper} {l : List Nat} (ha : Ahead ops l) : ∀ (i m : Nat), nth (befs ops.toList []) i = some m → ∀ j, m.testBit j = true → ∀ l1 l2, l = l1 ++ i :: l2 → j ∈ l1 := by
  intro i
  induction i using Nat.strongRecOn with
  | _ i ih =>
    intro m hm j hj l1 l2 hl
    obtain ⟨r, h1, h2⟩ := befs_spec (os := ops.toList) (acc := [])
    rw [h1, List.nil_append] at hm
    obtain ⟨o, ho, rfl⟩ := h2 i m hm
    have ho' : ops[i]? = some o := by simpa using ho
    unfold maskOf at hj
    rcases maskFold hj with h | ⟨e, he, hb, h⟩
    · simp at h
    · have hon := ha l1 i l2 hl o ho' e (by simpa using he) hb
      rcases h with rfl | h
      · exact hon
      · simp only [List.nil_append] at h
        cases hq : nth (r.take i) e.on with
        | none => rw [hq] at h; simp at h
        | some m' =>
          rw [hq] at h
          simp only [Option.getD_some] at h
          rw [nth_eq, List.getElem?_take] at hq
          split at hq
          · rename_i hlt
            obtain ⟨p1, p2, rfl⟩ := List.append_of_mem hon
            have := ih e.on hlt m' (by rw [h1, List.nil_append, nth_eq]; exact hq) j h p1 (p2 ++ i :: l2) (by rw [hl]; simp)
            exact List.mem_append_left _ this
          · cases hq

/-- what is still to be done: nothing of it must come ahead of what stands ahead -/
def Ord (bs : List Nat) : List Nat → Prop
  | [] => True
  | i :: l => (∀ m, nth bs i = some m → ∀ j, m.testBit j = true → j ∉ i :: l) ∧ Ord bs l

theorem ord_of {ops : Array Oper} {l : List Nat} (ha : Ahead ops l) (hn : l.Nodup) : ∀ l1 l2, l = l1 ++ l2 → Ord (befs ops.toList []) l2 := by
  intro l1 l2
  induction l2 generalizing l1 with
  | nil => intro _; trivial
  | cons i l2 ih =>
    intro hl
    refine ⟨fun m hm j hj hmem => ?_, ih (l1 ++ [i]) (by rw [hl]; simp)⟩
    have h1 := mask_ahead ha i m hm j hj l1 l2 hl
    rw [hl] at hn
    exact (List.nodup_append.1 hn).2.2 j h1 j hmem rfl
end Go.Ex
/- A region whose order is open: what is kept from operation to operation. -/
namespace Go.Ex

theorem idx_cons_some (u t : Nat) (l : List (Option Nat)) : idx (some u :: l) t = if u = t then some 0 else (idx l t).map (· + 1) := by
  by_cases h : u = t
  · subst h; simp [idx]
  · have : Nat.beq u t = false := by
      cases hq : Nat.beq u t with
      | false => rfl
      | true => simp only [Nat.beq_eq] at hq; exact absurd hq h
    simp [idx, this, h]
theorem idx_cons_none (t : Nat) (l : List (Option Nat)) : idx (none :: l) t = (idx l t).map (· + 1) := rfl

theorem idx_some : ∀ {ctx : List (Option Nat)} {t n : Nat}, idx ctx t = some n → nth ctx n = some (some t) ∧ ∀ n', n' < n → nth ctx n' ≠ some (some t)
  | [], t, n, h => by simp [idx] at h
  | some u :: l, t, n, h => by
    rw [idx_cons_some] at h
    split at h
    · rename_i hb
      subst hb
      simp only [Option.some.injEq] at h
      subst h
      exact ⟨rfl, fun n' hn => by omega⟩
    · rename_i hb
      simp only [Option.map_eq_some_iff] at h
      obtain ⟨m, hm, rfl⟩ := h
      obtain ⟨h1, h2⟩ := idx_some hm
      refine ⟨h1, fun n' hn => ?_⟩
      cases n' with
      | zero => simp only [nth]; intro e; simp only [Option.some.injEq] at e; exact hb e
      | succ n' => simp only [nth]; exact h2 n' (by omega)
  | none :: l, t, n, h => by
    rw [idx_cons_none] at h
    simp only [Option.map_eq_some_iff] at h
    obtain ⟨m, hm, rfl⟩ := h
    obtain ⟨h1, h2⟩ := idx_some hm
    refine ⟨h1, fun n' hn => ?_⟩
    cases n' with
    | zero => simp [nth]
    | succ n' => simp only [nth]; exact h2 n' (by omega)

theorem idx_none : ∀ {ctx : List (Option Nat)} {t : Nat}, idx ctx t = none → ∀ n, nth ctx n ≠ some (some t)
  | [], t, _, n => by cases n <;> simp [nth]
  | some u :: l, t, h, n => by
    rw [idx_cons_some] at h
    split at h
    · cases h
    · rename_i hb
      simp only [Option.map_eq_none_iff] at h
      cases n with
      | zero => simp only [nth]; intro e; simp only [Option.some.injEq] at e; exact hb e
      | succ n => simp only [nth]; exact idx_none h n
  | none :: l, t, h, n => by
    rw [idx_cons_none] at h
    simp only [Option.map_eq_none_iff] at h
    cases n with
    | zero => simp [nth]
    | succ n => simp only [nth]; exact idx_none h n

theorem nth_drop {α : Type} (l : List α) (c n : Nat) : nth (l.drop c) n = nth l (c + n) := by
  rw [nth_eq, nth_eq, List.getElem?_drop]

theorem nth_ctxL {m : Nat} {L : List Nat} {t : Nat} : ∀ {met : List Met} {n : Nat}, nth (ctxL m L met) n = some (some t) ↔ ∃ y, nth met n = some y ∧ m.testBit y.i = true ∧ y.d = some t ∧ natIn t L = true
  | [], n => by cases n <;> simp [ctxL, nth]
  | x :: l, 0 => by
    simp only [ctxL, nth, Option.some.injEq]
    constructor
    · intro h
      split at h
      · rename_i h1
        split at h
        · rename_i d hd
          split at h
          · rename_i h2
            simp only [Option.some.injEq] at h
            subst h
            exact ⟨x, rfl, h1, hd, h2⟩
          · cases h
        · cases h
      · cases h
    · rintro ⟨y, rfl, h1, h2, h3⟩
      simp [h1, h2, h3]
  | x :: l, n + 1 => by
    simp only [ctxL, nth]
    exact nth_ctxL

def dsts : List Met → List (Option Nat)
  | [] => []
  | x :: xs => x.d :: dsts xs
theorem nth_dsts {t : Nat} : ∀ {met : List Met} {n : Nat}, nth (dsts met) n = some (some t) ↔ ∃ y, nth met n = some y ∧ y.d = some t
  | [], n => by cases n <;> simp [dsts, nth]
  | x :: l, 0 => by simp [dsts, nth]
  | x :: l, n + 1 => by simp only [dsts, nth]; exact nth_dsts

theorem mem_order : ∀ {met : List Met} {n : Nat} {x : Met}, nth met n = some x → x.i ∈ orderOf met
  | [], n, x, h => by cases n <;> simp [nth] at h
  | y :: l, 0, x, h => by simp only [nth, Option.some.injEq] at h; subst h; exact List.mem_cons_self ..
  | y :: l, n + 1, x, h => by simp only [nth] at h; exact List.mem_cons_of_mem _ (mem_order h)
theorem order_mem : ∀ {met : List Met} {i : Nat}, i ∈ orderOf met → ∃ n x, nth met n = some x ∧ x.i = i
  | [], i, h => by cases h
  | y :: l, i, h => by
    rcases List.mem_cons.1 h with rfl | h
    · exact ⟨0, y, rfl, rfl⟩
    · obtain ⟨n, x, h1, h2⟩ := order_mem h
      exact ⟨n + 1, x, h1, h2⟩
theorem nth_order : ∀ {met : List Met} {n i : Nat}, nth (orderOf met) n = some i → ∃ x, nth met n = some x ∧ x.i = i
  | [], n, i, h => by cases n <;> simp [orderOf, nth] at h
  | y :: l, 0, i, h => by simp only [orderOf, nth, Option.some.injEq] at h; exact ⟨y, rfl, h⟩
  | y :: l, n + 1, i, h => by simp only [orderOf, nth] at h ⊢; exact nth_order h

theorem nth_len {α : Type} {l : List α} {n : Nat} {x : α} (h : nth l n = some x) : n < l.length := by
  rw [nth_eq] at h; exact (List.getElem?_eq_some_iff.1 h).1
theorem nth_of_len {α : Type} {l : List α} {n : Nat} (h : n < l.length) : ∃ x, nth l n = some x := ⟨l[n], by rw [nth_eq]; simp [h]⟩

/-- a place at which something was written that has been done -/
def Wt (rest : List Nat) (met : List Met) (t n : Nat) : Prop := ∃ x, nth met n = some x ∧ x.i ∉ rest ∧ x.d = some t

structure MetOk (X : Cx) (ops : Array Oper) (bs : List Nat) (met : List Met) : Prop where
  recd : ∀ n x, nth met n = some x → ∃ o m, ops[x.i]? = some o ∧ nth bs x.i = some m ∧ x.d = o.dst ∧ x.l = looks ops o ∧ ∀ t, x.d = some t → t < X.N
  pair : ∀ n n' x y m, nth met n = some x → nth met n' = some y → n < n' → nth bs x.i = some m → m.testBit y.i = true ∨ (notIn y.d x.l = true ∧ unlike y.d x.d = true ∧ notIn x.d y.l = true)
  inj : ∀ n n' x y, nth met n = some x → nth met n' = some y → x.i = y.i → n = n'

theorem apartAll_spec {m : Nat} {d : Option Nat} {l : List Nat} : ∀ {met : List Met} {n : Nat} {y : Met}, apartAll m d l met = true → nth met n = some y →
    m.testBit y.i = true ∨ (notIn y.d l = true ∧ unlike y.d d = true ∧ notIn d y.l = true)
  | [], n, y, _, h => by cases n <;> simp [nth] at h
  | x :: xs, 0, y, ha, h => by
    simp only [nth, Option.some.injEq] at h
    subst h
    simp only [apartAll, Bool.and_eq_true, Bool.or_eq_true] at ha
    rcases ha.1 with h | ⟨⟨h1, h2⟩, h3⟩
    · exact .inl h
    · exact .inr ⟨h1, h2, h3⟩
  | x :: xs, n + 1, y, ha, h => by
    simp only [apartAll, Bool.and_eq_true] at ha
    simp only [nth] at h
    exact apartAll_spec ha.2 h

theorem notIn_spec {t : Nat} {l : List Nat} (h : notIn (some t) l = true) (h' : natIn t l = true) : False := by
  simp [notIn, h'] at h

theorem dst_ltN {X : Cx} {d : Option Nat} {d' : Option Bn} (hd : X.dst d d' = true) : ∀ t, d = some t → t < X.N := by
  rintro t rfl
  unfold Cx.dst at hd
  split at hd <;> simp_all

theorem MetOk.push {X : Cx} {ops : Array Oper} {bs : List Nat} {met : List Met} (h : MetOk X ops bs met) {i : Nat} {o : Oper} {m : Nat} (r : Bool) (ho : ops[i]? = some o) (hm : nth bs i = some m) (hni : i ∉ orderOf met)
    (hap : apartAll m o.dst (looks ops o) met = true) (hd : ∀ t, o.dst = some t → t < X.N) : MetOk X ops bs (⟨i, o.dst, looks ops o, r⟩ :: met) where
  recd := fun n x hx => by
    cases n with
    | zero => simp only [nth, Option.some.injEq] at hx; subst hx; exact ⟨o, m, ho, hm, rfl, rfl, hd⟩
    | succ n => simp only [nth] at hx; exact h.recd n x hx
  pair := fun n n' x y m' hx hy hlt hm' => by
    cases n' with
    | zero => omega
    | succ n' =>
      simp only [nth] at hy
      cases n with
      | zero =>
        simp only [nth, Option.some.injEq] at hx
        subst hx
        simp only at hm' ⊢
        rw [hm] at hm'
        cases hm'
        exact apartAll_spec hap hy
      | succ n => simp only [nth] at hx; exact h.pair n n' x y m' hx hy (by omega) hm'
  inj := fun n n' x y hx hy e => by
    cases n <;> cases n'
    · rfl
    · simp only [nth, Option.some.injEq] at hx hy
      subst hx
      exact absurd (by rw [show i = y.i from e]; exact mem_order hy) hni
    · simp only [nth, Option.some.injEq] at hx hy
      subst hy
      exact absurd (by rw [← show x.i = i from e]; exact mem_order hx) hni
    · simp only [nth] at hx hy
      rw [h.inj _ _ x y hx hy e]

-- what an operation sees
def seeT (L : List Nat) (tmps tmps0 : Array Value) : Array Value :=
  Array.ofFn (n := tmps.size) fun t => if natIn t.val L then tmps.getD t.val undef else tmps0.getD t.val undef

theorem seeT_in {L : List Nat} {tmps tmps0 : Array Value} {t : Nat} (h : natIn t L = true) : (seeT L tmps tmps0)[t]? = tmps[t]? := by
  unfold seeT
  rw [Array.getElem?_ofFn]
  split
  · rename_i hlt
    simp [hlt]
  · rename_i hlt
    rw [Array.getElem?_eq_none (by omega)]
theorem seeT_inD {L : List Nat} {tmps tmps0 : Array Value} {t : Nat} (h : natIn t L = true) : (seeT L tmps tmps0).getD t undef = tmps.getD t undef := by
  rw [Array.getD_eq_getD_getElem?, Array.getD_eq_getD_getElem?, seeT_in h]
theorem seeT_out {L : List Nat} {tmps tmps0 : Array Value} {t : Nat} (h : natIn t L = false) (hs : tmps0.size = tmps.size) : (seeT L tmps tmps0).getD t undef = tmps0.getD t undef := by
  unfold seeT
  rw [Array.getD_eq_getD_getElem?, Array.getElem?_ofFn]
  split
  · simp [h]
  · rename_i hlt
    rw [Array.getD_eq_getD_getElem?, Array.getElem?_eq_none (by omega)]

section
variable {E : Env} {X : Cx} {ops : Array Oper} {bs : List Nat} {s : St} {ρ : Rho} {w : World} {a : Act} {tmps0 : Array Value} {rest : List Nat} {met : List Met} {scr : List AV} {env : Tr AV}

theorem see (hx : XOk E X) (hrel : Rel E ρ s w) {m c : Nat} {L : List Nat}
    (t1 : ∀ t n v, Wt rest met t n → (∀ n', n' < n → ¬ Wt rest met t n') → nth scr n = some v → VR E.σ ρ v (a.tmps.getD t undef))
    (t0 : ∀ b v, b.can = true → env.get b = some v → (∀ n, ¬ Wt rest met b.val n) → VR E.σ ρ v (a.tmps.getD b.val undef))
    (env0 : EnvR E.σ ρ X.K env tmps0) (hsz : tmps0.size = a.tmps.size)
    (h1 : ∀ j, m.testBit j = true → j ∉ rest)
    (H : ∀ n y t, nth met n = some y → y.i ∉ rest → y.d = some t → natIn t L = true → m.testBit y.i = true ∧ c ≤ n) :
    EvR E.σ ρ X (ctxL m L (met.drop c)) (scr.drop c) env ({ a with tmps := seeT L a.tmps tmps0 } : Act).eval := by
  refine evR_of' (a := { a with tmps := seeT L a.tmps tmps0 }) hx hrel ?_ ?_
  · intro b v hc hg hi
    simp only
    cases hL : natIn b.val L with
    | false => rw [seeT_out hL hsz]; exact (env0 b v hc hg).2
    | true =>
      rw [seeT_inD hL]
      refine t0 b v hc hg fun n hW => ?_
      obtain ⟨y, hy, hyr, hyd⟩ := hW
      obtain ⟨q1, q2⟩ := H n y _ hy hyr hyd hL
      refine idx_none hi (n - c) (nth_ctxL.2 ⟨y, ?_, q1, hyd, hL⟩)
      rw [nth_drop, show c + (n - c) = n by omega]
      exact hy
  · intro t n v hi hn
    obtain ⟨p1, p2⟩ := idx_some hi
    obtain ⟨y, hy, q1, q2, q3⟩ := nth_ctxL.1 p1
    rw [nth_drop] at hy hn
    simp only
    rw [seeT_inD q3]
    refine t1 t (c + n) v ⟨y, hy, h1 _ q1, q2⟩ (fun n' hlt hW => ?_) hn
    obtain ⟨y', hy', hyr', hyd'⟩ := hW
    obtain ⟨r1, r2⟩ := H n' y' t hy' hyr' hyd' q3
    refine p2 (n' - c) (by omega) (nth_ctxL.2 ⟨y', ?_, r1, hyd', q3⟩)
    rw [nth_drop, show c + (n' - c) = n' by omega]
    exact hy'

theorem see_eval {o : Oper} : ∀ x ∈ o.op.operands, ({ a with tmps := seeT (looks ops o) a.tmps tmps0 } : Act).eval x = a.eval x := by
  intro x hx
  cases x with
  | tmp t =>
    have : natIn t (looks ops o) = true := natIn_iff.2 (List.mem_append_left _ (List.mem_filterMap.2 ⟨.tmp t, by simpa using hx, rfl⟩))
    exact seeT_inD this
  | _ => rfl

theorem see_wanted {o : Oper} : Region.wanted o (yielded ops (seeT (looks ops o) a.tmps tmps0)) = Region.wanted o (yielded ops a.tmps) := by
  unfold Region.wanted
  cases hg : o.guard with
  | none => rfl
  | some gw =>
    obtain ⟨j, b⟩ := gw
    simp only
    have : yielded ops (seeT (looks ops o) a.tmps tmps0) j = yielded ops a.tmps j := by
      unfold yielded
      cases ht : (ops[j]?).bind (·.dst) with
      | none => rfl
      | some t =>
        have hd : dstOf ops j = some t := by
          unfold dstOf
          cases hq : ops[j]? with
          | none => rw [hq] at ht; cases ht
          | some q => rw [hq] at ht; exact ht
        have hin : natIn t (looks ops o) = true := natIn_iff.2 (List.mem_append_right _ (by simp [hg, hd]))
        simp only [Option.bind_some, seeT_in hin]
    rw [this]

theorem see_sem {o : Oper} {ro : Option Nat} (hs : ∀ cs b, o.op ≠ .select cs b) : o.semAt ro a.eval = o.semAt ro ({ a with tmps := seeT (looks ops o) a.tmps tmps0 } : Act).eval := by
  have he : ∀ x ∈ o.op.operands, a.eval x = ({ a with tmps := seeT (looks ops o) a.tmps tmps0 } : Act).eval x := fun x hx => (see_eval x hx).symm
  have h1 := execOp_congr o hs he
  unfold Oper.semAt
  split
  · rename_i l c hop
    rw [resolve_congr c o.type (fun x hx => he x (by rw [hop]; exact hx))]
  · exact h1

/-- what is owed: an operation that was met and has not been done -/
def Debt (X : Cx) (P : Program) (ops : Array Oper) (bs : List Nat) (met : List Met) (pd : List (Nat × Bn × AO)) (scr : List AV) (env : Tr AV) (s : St) (n : Nat) (x : Met) (v : AV) : Prop :=
  ∃ o m c g, ops[x.i]? = some o ∧ nth bs x.i = some m ∧ c ≤ n + 1 ∧ X.guard (ctxL m (looks ops o) (met.drop c)) ops o.guard g = true ∧
    (((∀ p ∈ pd, p.1 ≠ x.i) ∧ want g (scr.drop c) env = some false ∧ v = undefA) ∨
     (want g (scr.drop c) env = some true ∧
       (((∀ p ∈ pd, p.1 ≠ x.i) ∧ ∃ k, X.pk P (ctxL m (looks ops o) (met.drop c)) o.op k = true ∧ pureOp k (scr.drop c) env = some v) ∨
        ((∀ p ∈ pd, p.1 ≠ x.i) ∧ x.r = true ∧ ∃ k, X.rk (ctxL m (looks ops o) (met.drop c)) o.op k = true ∧ readOp k s (scr.drop c) env = some v) ∨
        (∃ k nm ob, X.mk' (ctxL m (looks ops o) (met.drop c)) o.op k = true ∧ makeOp k nm (scr.drop c) env = some (v, ob) ∧ (x.i, nm, ob) ∈ pd))))

structure DrI (E : Env) (X : Cx) (ops : Array Oper) (bs : List Nat) (tmps0 : Array Value) (s0 : St) (ρ0 : Rho) (w0 : World) (m0 : Machine) (b : Frame) (k : List Item) (cs0 : List Frame)
    (rest : List Nat) (met : List Met) (need : List Nat) (pd : List (Nat × Bn × AO)) (scr : List AV) (ke : Tr AV) (f : Fr) (s : St) (ρ : Rho) (w : World) (a : Act) : Prop where
  mok : MetOk X ops bs met
  len : scr.length = met.length
  ord : Ord bs rest
  nodup : rest.Nodup
  lt : ∀ i ∈ rest, i < ops.size
  done : ∀ i, i < ops.size → i ∉ rest → i ∈ orderOf met
  down : ∀ i, i < ops.size → i ∉ rest → ∀ m, nth bs i = some m → ∀ j, m.testBit j = true → j ∉ rest
  t1 : ∀ t n v, Wt rest met t n → (∀ n', n' < n → ¬ Wt rest met t n') → nth scr n = some v → VR E.σ ρ v (a.tmps.getD t undef)
  t0 : ∀ b v, b.can = true → f.env.get b = some v → (∀ n, ¬ Wt rest met b.val n) → VR E.σ ρ v (a.tmps.getD b.val undef)
  env0 : EnvR E.σ ρ X.K f.env tmps0
  size0 : tmps0.size = a.tmps.size
  rel : Rel E ρ s w
  ext : Ext s0 ρ0 w0 s ρ w
  fr : FrR E X ρ (bare f) a b cs0
  ke : ∀ b v, b.can = true → ke.get b = some v → X.K b.val = true ∧ (match idx (dsts met) b.val with | some n => nth scr n = some v | none => f.env.get b = some v)
  pdm : ∀ p ∈ pd, p.1 ∈ orderOf met
  pdi : ∀ p ∈ pd, ∀ q ∈ pd, p.1 = q.1 → p = q
  pdd : ∀ p ∈ pd, ∀ q ∈ pd, p.2.1 = q.2.1 → p = q
  pdn : ∀ p ∈ pd, s.get p.2.1 = none ∧ p.2.1.val < s.nx.val ∧ s0.nx.val ≤ p.2.1.val
  pdu : ∀ p ∈ pd, p.1 ∈ rest → ρ p.2.1 = none
  pdx : ∀ p ∈ pd, p.1 ∉ rest → ∃ L, ρ p.2.1 = some L ∧ OR E ρ p.2.2 L w ∧ w0.heap.size ≤ L.b ∧ (∀ a' o' L', s.get a' = some o' → ρ a' = some L' → L'.b ≠ L.b) ∧
    (∀ q ∈ pd, q.1 ∉ rest → ∀ L', ρ q.2.1 = some L' → L'.b = L.b → q = p)
  debt : ∀ n x v, nth met n = some x → x.i ∈ rest → nth scr n = some v → (x.i ∈ need ∧ x.r = true ∧ ∀ p ∈ pd, p.1 ≠ x.i) ∨ Debt X E.P ops bs met pd scr f.env s n x v
  steps : Steps E.P m0 (lone (b.atR a (.inRegion ops rest :: k)) (marked f.rc cs0) w)

theorem readOp_same {s s' : St} (h : ∀ x, s'.get x = s.get x) (k : RK) (scr : List AV) (env : Tr AV) : readOp k s' scr env = readOp k s scr env := by
  have hr : ∀ x, rowOf s' x = rowOf s x := fun x => by unfold rowOf; rw [h]
  cases k <;> simp only [readOp, gLd, gLk, gLenM, gCvBS, gEn, h, hr]

theorem ke_push {ke : Tr AV} {o : Oper} {i : Nat} {L : List Nat} {r : Bool} {d : Option Bn} {v : AV} {env : Tr AV}
    (h : ∀ b v, b.can = true → ke.get b = some v → X.K b.val = true ∧ (match idx (dsts met) b.val with | some n => nth scr n = some v | none => env.get b = some v)) (hd : X.dst o.dst d = true) :
    ∀ b u, b.can = true → (kp ke d v).get b = some u → X.K b.val = true ∧ (match idx (dsts (⟨i, o.dst, L, r⟩ :: met)) b.val with | some n => nth (v :: scr) n = some u | none => env.get b = some u) := by
  intro b u hc hg
  have shift : ∀ {o' : Option Nat}, (∀ t, o' = some t → t ≠ b.val) → (match idx (dsts met) b.val with | some n => nth scr n = some u | none => env.get b = some u) →
      (match idx (o' :: dsts met) b.val with | some n => nth (v :: scr) n = some u | none => env.get b = some u) := by
    intro o' hne hh
    have he : idx (o' :: dsts met) b.val = (idx (dsts met) b.val).map (· + 1) := by
      cases o' with
      | none => rfl
      | some t =>
        have : Nat.beq t b.val = false := by
          have := hne t rfl
          cases hq : Nat.beq t b.val with
          | false => rfl
          | true => simp only [Nat.beq_eq] at hq; exact absurd hq this
        simp only [idx, this]
        rfl
    rw [he]
    cases hi : idx (dsts met) b.val with
    | none => rw [hi] at hh; exact hh
    | some n => rw [hi] at hh; exact hh
  unfold Cx.dst at hd
  simp only [dsts]
  split at hd
  · rename_i h1
    rw [h1]
    obtain ⟨q1, q2⟩ := h b u hc hg
    exact ⟨q1, shift (fun t ht => by cases ht) q2⟩
  · rename_i t h1
    simp only [Bool.and_eq_true, Nat.blt_eq, Bool.not_eq_true'] at hd
    rw [h1]
    obtain ⟨q1, q2⟩ := h b u hc hg
    refine ⟨q1, shift (fun t' ht => ?_) q2⟩
    simp only [Option.some.injEq] at ht
    subst ht
    rintro rfl
    rw [hd.2] at q1
    cases q1
  · rename_i t bb h1
    simp only [Bool.and_eq_true, Nat.blt_eq, Nat.beq_eq] at hd
    obtain ⟨⟨⟨_, hK⟩, rfl⟩, hcan⟩ := hd
    rw [h1]
    simp only [kp, Tr.get_set] at hg
    split at hg
    · rename_i e
      subst e
      refine ⟨hK, ?_⟩
      have : idx (some b.val :: dsts met) b.val = some 0 := by simp [idx]
      rw [this]
      exact hg
    · rename_i hne
      obtain ⟨q1, q2⟩ := h b u hc hg
      refine ⟨q1, shift (fun t' ht => ?_) q2⟩
      simp only [Option.some.injEq] at ht
      subst ht
      exact fun e => hne (can_inj hc hcan e.symm)
  · cases hd

theorem FrR.putb {f : Fr} {b : Frame} {cs0 : List Frame} (h : FrR E X ρ (Ex.bare f) a b cs0) (d : Option Nat) (cv : Value) : FrR E X ρ (Ex.bare f) (a.put d cv) b cs0 :=
  { env := fun b v _ hg => by simp only [Ex.bare, Tr.get_lf] at hg; cases hg
    size := by rw [put_size]; exact h.size
    df := by rw [put_defers]; exact h.df
    ro := h.ro, pn := h.pn, np := h.np, fn := h.fn }

variable {s0 : St} {ρ0 : Rho} {w0 : World} {m0 : Machine} {b : Frame} {k : List Item} {cs0 : List Frame} {need : List Nat} {pd : List (Nat × Bn × AO)} {ke : Tr AV} {f : Fr}

/-- an operation is met -/
theorem DrI.push (h : DrI E X ops bs tmps0 s0 ρ0 w0 m0 b k cs0 rest met [] pd scr ke f s ρ w a) {i : Nat} {o : Oper} {m : Nat} {r : Bool} {d : Option Bn} {v : AV} (ho : ops[i]? = some o) (hm : nth bs i = some m)
    (hni : i ∉ orderOf met) (hap : apartAll m o.dst (looks ops o) met = true) (hd : X.dst o.dst d = true) {pd' : List (Nat × Bn × AO)} {s' : St} (hget : ∀ x, s'.get x = s.get x) (hrel : Rel E ρ s' w)
    (hext : Ext s0 ρ0 w0 s' ρ w) (hnx : s.nx.val ≤ s'.nx.val) (hpd : pd' = pd ∨ ∃ ob, pd' = (i, s.nx, ob) :: pd ∧ s'.nx = s.nx.succ)
    (hdebt : Debt X E.P ops bs (⟨i, o.dst, looks ops o, r⟩ :: met) pd' (v :: scr) f.env s' 0 ⟨i, o.dst, looks ops o, r⟩ v) :
    DrI E X ops bs tmps0 s0 ρ0 w0 m0 b k cs0 rest (⟨i, o.dst, looks ops o, r⟩ :: met) [] pd' (v :: scr) (kp ke d v) f s' ρ w a := by
  have hlt : i < ops.size := (Array.getElem?_eq_some_iff.1 ho).1
  have hir : i ∈ rest := by
    by_cases hc : i ∈ rest
    · exact hc
    · exact absurd (h.done i hlt hc) hni
  have hW0 : ∀ t, ¬ Wt rest (⟨i, o.dst, looks ops o, r⟩ :: met) t 0 := by
    rintro t ⟨x, hx, hr, _⟩
    simp only [nth, Option.some.injEq] at hx
    subst hx
    exact hr hir
  have hsub : ∀ p ∈ pd, p ∈ pd' := fun p hp => by
    rcases hpd with rfl | ⟨ob, rfl, _⟩
    · exact hp
    · exact List.mem_cons_of_mem _ hp
  have hne : ∀ {n x}, nth met n = some x → (∀ p ∈ pd, p.1 ≠ x.i) → ∀ p ∈ pd', p.1 ≠ x.i := by
    intro n x hx hh p hp
    rcases hpd with rfl | ⟨ob, rfl, _⟩
    · exact hh p hp
    · rcases List.mem_cons.1 hp with rfl | hp
      · exact fun e => hni (by rw [show i = x.i from e]; exact mem_order hx)
      · exact hh p hp
  have hdead : s.get s.nx = none := h.rel.nx_dead
  refine { mok := h.mok.push r ho hm hni hap (dst_ltN hd), len := by simp [h.len], ord := h.ord, nodup := h.nodup, lt := h.lt, done := fun j hj hjr => List.mem_cons_of_mem _ (h.done j hj hjr), down := h.down,
           t1 := ?_, t0 := ?_, env0 := h.env0, size0 := h.size0, rel := hrel, ext := hext, fr := h.fr, ke := ke_push h.ke hd, pdm := ?_, pdi := ?_, pdd := ?_, pdn := ?_, pdu := ?_, pdx := ?_, debt := ?_, steps := h.steps }
  · intro t n u hW hnew hu
    cases n with
    | zero => exact absurd hW (hW0 t)
    | succ n =>
      simp only [nth] at hu
      exact h.t1 t n u hW (fun n' hn' hW' => hnew (n' + 1) (by omega) hW') hu
  · intro bb u hc hg hW
    exact h.t0 bb u hc hg fun n hW' => hW (n + 1) hW'
  · intro p hp
    rcases hpd with rfl | ⟨ob, rfl, _⟩
    · exact List.mem_cons_of_mem _ (h.pdm p hp)
    · rcases List.mem_cons.1 hp with rfl | hp
      · exact List.mem_cons_self ..
      · exact List.mem_cons_of_mem _ (h.pdm p hp)
  · intro p hp q hq e
    rcases hpd with rfl | ⟨ob, rfl, _⟩
    · exact h.pdi p hp q hq e
    · rcases List.mem_cons.1 hp with rfl | hp <;> rcases List.mem_cons.1 hq with rfl | hq
      · rfl
      · exact absurd (by rw [show i = q.1 from e]; exact h.pdm q hq) hni
      · exact absurd (by rw [← show p.1 = i from e]; exact h.pdm p hp) hni
      · exact h.pdi p hp q hq e
  · intro p hp q hq e
    rcases hpd with rfl | ⟨ob, rfl, _⟩
    · exact h.pdd p hp q hq e
    · rcases List.mem_cons.1 hp with rfl | hp <;> rcases List.mem_cons.1 hq with rfl | hq
      · rfl
      · have := (h.pdn q hq).2.1; rw [← show s.nx = q.2.1 from e] at this; omega
      · have := (h.pdn p hp).2.1; rw [show p.2.1 = s.nx from e] at this; omega
      · exact h.pdd p hp q hq e
  · intro p hp
    rcases hpd with rfl | ⟨ob, rfl, hs⟩
    · obtain ⟨q1, q2, q3⟩ := h.pdn p hp
      exact ⟨by rw [hget]; exact q1, Nat.lt_of_lt_of_le q2 hnx, q3⟩
    · rcases List.mem_cons.1 hp with rfl | hp
      · exact ⟨by rw [hget]; exact hdead, by rw [hs, Bn.val_succ]; exact Nat.lt_succ_self _, h.ext.nx⟩
      · obtain ⟨q1, q2, q3⟩ := h.pdn p hp
        exact ⟨by rw [hget]; exact q1, Nat.lt_of_lt_of_le q2 hnx, q3⟩
  · intro p hp hpr
    rcases hpd with rfl | ⟨ob, rfl, hs⟩
    · exact h.pdu p hp hpr
    · rcases List.mem_cons.1 hp with rfl | hp
      · exact h.rel.nx
      · exact h.pdu p hp hpr
  · intro p hp hpr
    have hp' : p ∈ pd := by
      rcases hpd with rfl | ⟨ob, rfl, hs⟩
      · exact hp
      · rcases List.mem_cons.1 hp with rfl | hp
        · exact absurd hir hpr
        · exact hp
    obtain ⟨L, q1, q2, q3, q4, q5⟩ := h.pdx p hp' hpr
    refine ⟨L, q1, q2, q3, fun a' o' L' hg => q4 a' o' L' (by rw [← hget]; exact hg), fun q hq hqr L' hL' e => ?_⟩
    refine q5 q ?_ hqr L' hL' e
    rcases hpd with rfl | ⟨ob, rfl, hs⟩
    · exact hq
    · rcases List.mem_cons.1 hq with rfl | hq
      · exact absurd hir hqr
      · exact hq
  · intro n x u hx hxr hu
    right
    cases n with
    | zero =>
      simp only [nth, Option.some.injEq] at hx hu
      subst hx; subst hu
      exact hdebt
    | succ n =>
      simp only [nth] at hx hu
      rcases h.debt n x u hx hxr hu with ⟨hq, _⟩ | ⟨o', m', c, g, e1, e2, e3, e4, e5⟩
      · cases hq
      · refine ⟨o', m', c + 1, g, e1, e2, by omega, by simpa using e4, ?_⟩
        simp only [List.drop_succ_cons]
        rcases e5 with ⟨z1, z2⟩ | ⟨z0, ⟨z1, z2⟩ | ⟨z1, z2, kk, z3, z4⟩ | ⟨kk, nm, ob, z1, z2, z3⟩⟩
        · exact .inl ⟨hne hx z1, z2⟩
        · exact .inr ⟨z0, .inl ⟨hne hx z1, z2⟩⟩
        · exact .inr ⟨z0, .inr (.inl ⟨hne hx z1, z2, kk, z3, by rw [readOp_same hget]; exact z4⟩)⟩
        · exact .inr ⟨z0, .inr (.inr ⟨kk, nm, ob, z1, z2, hsub _ z3⟩)⟩

/-- an operation that was met is done -/
theorem DrI.exec {i : Nat} (h : DrI E X ops bs tmps0 s0 ρ0 w0 m0 b k cs0 (i :: rest) met [] pd scr ke f s ρ w a) {n : Nat} {x : Met} {o : Oper} {v : AV} {cv : Value} (hn : nth met n = some x) (hxi : x.i = i)
    (ho : ops[i]? = some o) (hv : nth scr n = some v) {ρ' : Rho} {w' : World} (hVR : VR E.σ ρ' v cv) (hle : ρ.le ρ') (hrel : Rel E ρ' s w') (hext : Ext s0 ρ0 w0 s ρ' w')
    (hpdu : ∀ p ∈ pd, p.1 ∈ rest → ρ' p.2.1 = none)
    (hpdx : ∀ p ∈ pd, p.1 ∉ rest → ∃ L, ρ' p.2.1 = some L ∧ OR E ρ' p.2.2 L w' ∧ w0.heap.size ≤ L.b ∧ (∀ a' o' L', s.get a' = some o' → ρ' a' = some L' → L'.b ≠ L.b) ∧
      (∀ q ∈ pd, q.1 ∉ rest → ∀ L', ρ' q.2.1 = some L' → L'.b = L.b → q = p))
    (hst : Steps E.P (lone (b.atR a (.inRegion ops (i :: rest) :: k)) (marked f.rc cs0) w) (lone (b.atR (a.put o.dst cv) (.inRegion ops rest :: k)) (marked f.rc cs0) w')) :
    DrI E X ops bs tmps0 s0 ρ0 w0 m0 b k cs0 rest met [] pd scr ke f s ρ' w' (a.put o.dst cv) := by
  obtain ⟨o', m, e1, e2, e3, e4, e5⟩ := h.mok.recd n x hn
  rw [hxi] at e1 e2
  rw [ho] at e1
  cases e1
  have hnr : i ∉ rest := (List.nodup_cons.1 h.nodup).1
  have hlt : i < ops.size := h.lt i (List.mem_cons_self ..)
  have hx0 : ∀ t, o.dst = some t → Wt rest met t n := fun t ht => ⟨x, hn, by rw [hxi]; exact hnr, by rw [e3]; exact ht⟩
  have up : ∀ {t n'}, Wt (i :: rest) met t n' → Wt rest met t n' := by
    rintro t n' ⟨y, h1, h2, h3⟩
    exact ⟨y, h1, fun hc => h2 (List.mem_cons_of_mem _ hc), h3⟩
  have hN := h.fr.size
  refine { mok := h.mok, len := h.len, ord := h.ord.2, nodup := (List.nodup_cons.1 h.nodup).2, lt := fun j hj => h.lt j (List.mem_cons_of_mem _ hj), done := ?_, down := ?_,
           t1 := ?_, t0 := ?_, env0 := h.env0.mono hle, size0 := by rw [put_size]; exact h.size0, rel := hrel, ext := hext, fr := (h.fr.mono hle).putb _ _, ke := h.ke, pdm := h.pdm, pdi := h.pdi, pdd := h.pdd, pdn := h.pdn,
           pdu := hpdu, pdx := hpdx, debt := fun n' x' v' h1 h2 h3 => h.debt n' x' v' h1 (List.mem_cons_of_mem _ h2) h3, steps := h.steps.trans hst }
  · intro j hj hjr
    by_cases e : j = i
    · subst e; rw [← hxi]; exact mem_order hn
    · exact h.done j hj fun hc => by exact (List.mem_cons.1 hc).elim (fun q => e q) hjr
  · intro j hj hjr m' hm' j' hj'
    by_cases e : j = i
    · subst e
      exact fun hc => h.ord.1 m' hm' j' hj' (List.mem_cons_of_mem _ hc)
    · have := h.down j hj (fun hc => by exact (List.mem_cons.1 hc).elim (fun q => e q) hjr) m' hm' j' hj'
      exact fun hc => this (List.mem_cons_of_mem _ hc)
  · intro t n1 u hW hnew hu
    obtain ⟨y, hy, hyr, hyd⟩ := hW
    by_cases hyi : y.i = i
    · have := h.mok.inj n1 n y x hy hn (by rw [hyi, hxi])
      subst this
      rw [hn] at hy
      cases hy
      rw [hv] at hu
      cases hu
      rw [e3] at hyd
      rw [hyd, put_same (by have := e5 t (by rw [e3]; exact hyd); omega)]
      exact hVR
    · have hyr' : y.i ∉ i :: rest := fun hc => by exact (List.mem_cons.1 hc).elim (fun q => hyi q) (fun q => hyr q)
      by_cases hdt : o.dst = some t
      · exfalso
        rcases Nat.lt_trichotomy n n1 with hlt' | rfl | hlt'
        · exact hnew n hlt' (hx0 t hdt)
        · rw [hn] at hy; cases hy; exact hyi hxi
        · obtain ⟨o2, m2, f1, f2, f3, f4, f5⟩ := h.mok.recd n1 y hy
          rcases h.mok.pair n1 n y x m2 hy hn hlt' f2 with hb | ⟨_, hu2, _⟩
          · exact h.down y.i (Array.getElem?_eq_some_iff.1 f1).1 hyr' m2 f2 x.i hb (by rw [hxi]; exact List.mem_cons_self ..)
          · rw [hyd, e3, hdt] at hu2
            simp [unlike] at hu2
      · rw [put_other hdt]
        exact VR.mono hle _ _ (h.t1 t n1 u ⟨y, hy, hyr', hyd⟩ (fun n' hn' hW' => hnew n' hn' (up hW')) hu)
  · intro bb u hc hg hW
    rw [put_other (fun e => hW n (hx0 _ e))]
    exact VR.mono hle _ _ (h.t0 bb u hc hg fun n' hW' => hW n' (up hW'))
end
end Go.Ex
