/- A range over a function. -/
import Derived.Test.YteblalbifpkdcaaGreatDoorA6
import Derived.RangeFuncRecord
import Derived.Defers
import Derived.RangeFuncLeaves
namespace Go.Ex
section
variable {E : Env} {X : Cx} {ρ : Rho} {s : St} {w : World} {f : Fr} {a : Act} {b : Frame} {cs0 : List Frame} {k k' : List Item} {m m' : Machine} {e : Ev} {c d : Code} {c' d' : AC}

theorem Rel.killSet (h : Rel E ρ s w) {x : Bn} {o : AO} {L : Loc} {w' : World} (ha : s.h.get x = some o) (hL : ρ x = some L)
    (hsz : w'.heap.size = w.heap.size) (hsame : ∀ b, b ≠ L.b → w'.heap[b]? = w.heap[b]?) (h1 : w'.os = w.os) (h2 : w'.tape = w.tape) (h3 : w'.output = w.output) :
    Rel E ρ (killH s x) w' ∧ Ext s ρ w (killH s x) ρ w' := by
  have hl := h.sep _ _ ha
  have hga := St.get_of_h ha
  refine ⟨⟨h.fresh, ?_, ?_, h.glob, ?_⟩, ⟨.refl _, rfl, h1, h2, h3, by omega, ?_, ?_, fun _ _ => rfl, Nat.le_refl _⟩⟩
  · intro b q hb
    obtain ⟨hne, hg⟩ := St.get_killH hb hl
    obtain ⟨M, hM, hO⟩ := h.obj b q hg
    exact ⟨M, hM, hO.mono (.refl _) (hsame _ (h.live_ne hg hga hM hL hne))⟩
  · intro b b' q q' M M' hb hb' hM hM' e
    exact h.inj b b' q q' M M' (St.get_killH hb hl).2 (St.get_killH hb' hl).2 hM hM' e
  · intro b q hq
    simp only [killH, Tr.get_set] at hq
    split at hq
    · cases hq
    · exact h.sep b q hq
  · intro b hb hn
    exact hsame b fun e => hn ⟨x, o, L, ha, hL, e.symm⟩
  · rintro b hb ⟨a', q, M, hq, hM, rfl⟩
    simp only [killH, Tr.get_set] at hq
    split at hq
    · cases hq
    · exact ⟨a', q, M, hq, hM, rfl⟩

theorem mem_bindC {K : COut → List Out} : ∀ {outs : List COut} {o : COut} {o' : Out}, o ∈ outs → o' ∈ K o → o' ∈ bindC K outs
  | [x], o, o', h, h' => by simp only [List.mem_singleton] at h; subst h; exact h'
  | x :: y :: l, o, o', h, h' => by
    simp only [bindC, List.mem_append]
    rcases List.mem_cons.1 h with rfl | h
    · exact .inl h'
    · exact .inr (mem_bindC h h')

theorem rf_tail (he : EvOk E e) {g : Operand} {ps : Array Tmp} {asg body : Code} {gv : AV} {l : Bn} {L : Loc} {mark : List Deferred} {s2 : St} {ρ2 : Rho} {w2 : World} {f1 : Fr}
    (hg : VR E.σ ρ2 gv (a.eval g)) (hrun : (Instr.enterLoop b.fn a.tmps ps asg body b.roundOf).run E.P w = .ok (L.b, mark) w2) (hL : ρ2 l = some L) (hrel : Rel E ρ2 s2 w2) (hext : Ext s ρ w s2 ρ2 w2)
    (hf : FrR E X ρ2 f1 { a with defers := mark ++ a.defers } b cs0) (hrc : f1.rc = f.rc) :
    Lands E X ρ s w (lone (b.atR a (.code (.rangeFunc g ps asg body) :: k)) (marked f.rc cs0) w) b k cs0 (bindC (fun o => endLoop l o f1) (callR e gv l s2)) := by
  unfold callR
  split
  · rename_i fn first caps
    simp only [VR] at hg
    obtain ⟨x', y', h1, h2, hex⟩ := hg
    have hargs : VRs E.σ ρ2 (first ++ [.yl l] ++ caps) ((x'.toArray ++ #[Value.func (.yield L.b) #[] #[]]) ++ y'.toArray).toList := by
      have hy : VRs E.σ ρ2 [.yl l] [.func (.yield L.b) #[] #[]] := VRs.one (by simp only [VR]; exact ⟨L, hL, rfl⟩)
      simpa using (h1.append hy).append h2
    rcases he.cl (cs := b.atR { a with defers := mark ++ a.defers } (.inRangeFunc L.b :: k) :: marked f.rc cs0) hrel hargs kind_normal with ⟨y, hy⟩ | ⟨hb, o, ho, hl⟩
    · exact ⟨.x y, mem_bindC hy (by simp [endLoop]), trivial⟩
    · have hres : (resolve a.eval (rangeCall g L.b) 0).run E.P w2 = .ok { target := .fn (.func fn.val) y'.toArray, args := x'.toArray ++ #[.func (.yield L.b) #[] #[]] } w2 := by
        have e1 : a.eval (.const (.func (.yield L.b) #[] #[])) = .func (.yield L.b) #[] #[] := rfl
        simp [resolve, hex, Deferred.ofValue, e1]
      have hinv : (invoke (.fn (.func fn.val) y'.toArray) (x'.toArray ++ #[.func (.yield L.b) #[] #[]])).run E.P w2 =
          .ok (.enter fn.val ((x'.toArray ++ #[.func (.yield L.b) #[] #[]]) ++ y'.toArray)) w2 := by
        simp only [invoke]
        exact run_callFunc hb _ w2
      have hstep := stepR_rangeFunc (P := E.P) (b := b) (a := a) (k := k) (cs := marked f.rc cs0) (w := w) hrun hres hinv
      have hmode : (b.atR { a with defers := mark ++ a.defers } (.inRangeFunc L.b :: k)).mode = .run := rfl
      cases o with
      | x y => exact ⟨.x y, mem_bindC ho (by simp [endLoop]), trivial⟩
      | p v s' rc =>
        obtain ⟨ρ', w', fr, v', a1, a2, a3, a4, a5, a6, a7, a8, fn', a9⟩ := hl
        rw [marked_run hmode] at a4
        refine ⟨.p v f1 s', mem_bindC ho (by simp [endLoop]), ρ', w', _, .inRangeFunc L.b :: k, v', a1, hext.trans a2, hf.mono a2.le, a3, .head hstep (a4.trans (.one ?_))⟩
        rw [hrc, ← Frame.raise_atR]
        exact step_panicked a6 a7 (by rw [a8]; exact a9)
      | r v s' rc =>
        obtain ⟨ρ', w', fr, v', a1, a2, a3, a4, a5, a6, a7, a8, fn', a9, a10⟩ := hl
        rw [marked_run hmode] at a4
        have hs1 : Steps E.P (lone (b.atR a (.code (.rangeFunc g ps asg body) :: k)) (marked f.rc cs0) w) (lone (b.atR { a with defers := mark ++ a.defers } (.endRangeFunc L.b :: k)) (marked f.rc cs0) w') := by
          refine .head hstep (a4.trans (.one ?_))
          rw [← finish_atR_inRangeFunc L.b v']
          exact step_returned a5 a6 a7 (by rw [a8]; exact a9) a10
        have key : ∃ q ∈ endLoop l (.r v s' rc) f1, Ld E X ρ s w (lone (b.atR a (.code (.rangeFunc g ps asg body) :: k)) (marked f.rc cs0) w) b k cs0 q := by
          unfold endLoop
          split
          · rename_i heq; cases heq
          · rename_i heq; cases heq
          · rename_i v2 s2' rc2 heq
            cases heq
            split
            · rename_i st pend env ps' asg' body' df hgl
              obtain ⟨L', hL', lp, hb', hlr⟩ := a1.obj _ _ (St.get_of_h hgl)
              rw [a2.le _ _ hL] at hL'
              cases hL'
              obtain ⟨K, N, q1, q2, q3, q4, q5, q6, q7, q8, q9⟩ := hlr
              have hlt : L.b < w'.heap.size := (Array.getElem?_eq_some_iff.1 hb').1
              split
              · exact ⟨_, List.mem_singleton.2 rfl, trivial⟩
              · rename_i hnb
                have hns : lp.state ≠ .busy := by
                  cases st <;> simp only [LsR] at q6 <;> rw [q6] <;> simp at hnb ⊢
                have hend := run_endLoop (P := E.P) hb' hns
                obtain ⟨r1, r2⟩ := a1.killSet (w' := w'.putObj L.b (.loop { lp with state := .exhausted })) hgl (a2.le _ _ hL) (by simp) (fun b hb => World.putObj_heap_other hb) rfl rfl rfl
                have hs2 := hs1.trans (.one (stepR_endRangeFunc (b := b) (a := { a with defers := mark ++ a.defers }) (k := k) (cs := marked f.rc cs0) hend))
                have e2 : (lp.pending.map Item.code).toList = ((pend.map jc).map Item.code).toList := by rw [q7]
                rw [e2] at hs2
                split
                · refine ⟨_, List.mem_singleton.2 rfl, ρ', _, _, r1, hext.trans (a2.trans r2), hf.mono a2.le, ?_⟩
                  rw [hrc]
                  exact hs2
                · rename_i j
                  refine ⟨_, List.mem_singleton.2 rfl, ρ', _, _, k, r1, hext.trans (a2.trans r2), hf.mono a2.le, Keeps.refl _ _, ?_⟩
                  rw [hrc]
                  exact hs2
            · exact ⟨_, List.mem_singleton.2 rfl, trivial⟩
        obtain ⟨q, hq, hl⟩ := key
        exact ⟨q, mem_bindC ho hq, hl⟩
  · exact ⟨.x _, mem_bindC (List.mem_singleton.2 rfl) (List.mem_singleton.2 rfl), trivial⟩
end
end Go.Ex
/- A range over a function: the statement is entered. -/
namespace Go.Ex
section
variable {E : Env} {X : Cx} {ρ : Rho} {s : St} {w : World} {f : Fr} {a : Act} {b : Frame} {cs0 : List Frame} {k : List Item} {e : Ev}

theorem XOk.eta (hx : XOk E X) : (⟨E.ty, E.gl, X.K, X.N⟩ : Cx) = X := by
  obtain ⟨h1, h2, _⟩ := hx
  cases X
  simp only at h1 h2
  subst h1; subst h2
  rfl

/-- a loop's record is laid -/
theorem loop_laid (hx : XOk E X) (hrel : Rel E ρ s w) {ps : Array Tmp} {asg body : Code} {ps' : List Bn} {asg' body' : AC} {df : Bn} {D : Loc} (hD : ρ df = some D) {fnn : FuncId} (hfn : ∃ fn, E.P.funcs[fnn]? = some fn)
    (h2 : X.params ps.toList ps' = true) (h3 : X.code E.P asg asg' = true) (h4 : X.code E.P body body' = true) {env : Tr AV} {tmps : Array Value} (he : EnvR E.σ ρ X.K env tmps) (hN : X.N ≤ tmps.size) :
    Rel E (ρ.add s.nx ⟨w.heap.size, 0, 0⟩) (newH s (.lp .ready none env ps' asg' body' df)) (w.alloc (.loop { state := .ready, pending := none, fn := fnn, tmps, params := ps, assign := asg, body, defers := D.b })) ∧
    Ext s ρ w (newH s (.lp .ready none env ps' asg' body' df)) (ρ.add s.nx ⟨w.heap.size, 0, 0⟩) (w.alloc (.loop { state := .ready, pending := none, fn := fnn, tmps, params := ps, assign := asg, body, defers := D.b })) := by
  have hle := Rho.add_le (L := ⟨w.heap.size, 0, 0⟩) hrel.nx
  refine hrel.new rfl (by simp) (fun b hb => Go.RowKit.Below.heap_alloc w _ b hb) rfl rfl rfl ⟨_, World.alloc_heap_new w _, X.K, X.N, ?_⟩
  rw [hx.eta]
  exact ⟨he.mono hle, hN, h2, h3, h4, rfl, rfl, ⟨D, hle _ _ hD, rfl⟩, hfn⟩

theorem rf_sound (hx : XOk E X) (he : EvOk E e) {g : Operand} {ps : Array Tmp} {asg body : Code} {g' : AOpd} {ps' : List Bn} {asg' body' : AC} (h1 : X.opd [] g g' = true) (h2 : X.params ps.toList ps' = true)
    (h3 : X.code E.P asg asg' = true) (h4 : X.code E.P body body' = true) (hrel : Rel E ρ s w) (hf : FrR E X ρ f a b cs0) :
    Lands E X ρ s w (lone (b.atR a (.code (.rangeFunc g ps asg body) :: k)) (marked f.rc cs0) w) b k cs0 (runCode e (.rf g' ps' asg' body') f s) := by
  have hev := evR_of (ctx := []) (scr := []) hx hrel hf.env ScrR.nil
  simp only [runCode]
  split
  · rename_i gv hgv
    have hG := hev g g' gv h1 hgv
    split
    · rename_i hro
      have hb : b.roundOf = none := by have := hf.ro; rw [hro] at this; exact this
      -- the block for the deferred calls
      obtain ⟨r1, r2⟩ := hrel.new (w' := w.alloc (.deferred (some []))) (L := ⟨w.heap.size, 0, 0⟩) (o := .df) rfl (by simp) (fun b hb => Go.RowKit.Below.heap_alloc w _ b hb) rfl rfl rfl (World.alloc_heap_new w _)
      have hD : (ρ.add s.nx ⟨w.heap.size, 0, 0⟩) s.nx = some ⟨w.heap.size, 0, 0⟩ := Rho.add_self
      obtain ⟨r3, r4⟩ := loop_laid hx r1 (df := s.nx) hD hf.fn h2 h3 h4 (hf.env.mono r2.le) hf.size
      refine rf_tail (mark := [{ target := .collected w.heap.size, args := #[] }]) (L := ⟨w.heap.size + 1, 0, 0⟩) (f1 := { f with df := .coll s.nx :: f.df }) he (VR.mono (r2.le.trans r4.le) _ _ hG) ?_ ?_ r3 (r2.trans r4) ?_ rfl
      · rw [hb, run_enterLoop_outer]
      · have : (w.alloc (.deferred (some []))).heap.size = w.heap.size + 1 := by simp
        rw [← this]
        exact Rho.add_self
      · have hm := hf.mono (r2.le.trans r4.le)
        exact { env := hm.env, size := hm.size, ro := hm.ro, pn := hm.pn, np := hm.np, fn := hm.fn
                df := .cons ⟨_, r4.le _ _ hD, rfl⟩ hm.df }
    · rename_i l0 d0 hro
      split
      · rename_i st pe en qs qa qb d hl0
        have hro' := hf.ro
        rw [hro] at hro'
        obtain ⟨L0, hL0, hb⟩ := hro'
        obtain ⟨L0', hL0', lp, hlp, K, N, q1, q2, q3, q4, q5, q6, q7, ⟨D, hD, hDb⟩, q9⟩ := hrel.obj _ _ hl0
        rw [hL0] at hL0'
        cases hL0'
        obtain ⟨r3, r4⟩ := loop_laid hx hrel (df := d) hD hf.fn h2 h3 h4 hf.env hf.size
        refine rf_tail (mark := []) (L := ⟨w.heap.size, 0, 0⟩) (f1 := f) he (VR.mono r4.le _ _ hG) ?_ Rho.add_self r3 r4 (hf.mono r4.le) rfl
        rw [hb]
        unfold Instr.enterLoop
        simp only [Sem.run_bind, run_getLoop hlp, run_newObj_alloc, Result.andThen_ok, Sem.run_pure, hDb]
      · exact Lands.bad
  · exact Lands.bad
end
end Go.Ex
/- A round of a loop. -/
namespace Go.Ex
section
variable {E : Env} {X : Cx} {ρ : Rho} {s : St} {w : World} {f : Fr} {a : Act} {b : Frame} {cs0 cs : List Frame} {k : List Item} {e : Ev} {m : Machine} {c : Frame} {l : Bn} {L : Loc}

theorem mem_mapC {K : Out → List COut} : ∀ {outs : List Out} {o : Out} {o' : COut}, o ∈ outs → o' ∈ K o → o' ∈ mapC K outs
  | [x], o, o', h, h' => by simp only [List.mem_singleton] at h; subst h; exact h'
  | x :: y :: l, o, o', h, h' => by
    simp only [mapC, List.mem_append]
    rcases List.mem_cons.1 h with rfl | h
    · exact .inl h'
    · exact .inr (mem_mapC h h')

/-- nothing in the round's frame catches a jump -/
def Bare (k : List Item) : Prop := (∀ id, exitTo id k = none) ∧ (∀ t, gotoIn t k = none)

theorem setParams_sound {σ : Sig} : ∀ {ts : List Nat} {bs : List Bn} {vs : List AV} {cvs : List Value} {env env' : Tr AV} {tmps : Array Value}, X.params ts bs = true → setParams bs vs env = some env' →
    VRs σ ρ vs cvs → EnvR σ ρ X.K env tmps → X.N ≤ tmps.size → ts.length = cvs.length ∧
      EnvR σ ρ X.K env' ((ts.zip cvs).foldl (fun tmps (p : Nat × Value) => tmps.setIfInBounds p.1 p.2) tmps) ∧ X.N ≤ ((ts.zip cvs).foldl (fun tmps (p : Nat × Value) => tmps.setIfInBounds p.1 p.2) tmps).size
  | [], bs, vs, cvs, env, env', tmps, hp, hs, hv, he, hN => by
    cases bs with
    | cons b bs => simp [Cx.params] at hp
    | nil =>
      cases vs with
      | cons v vs => simp [setParams] at hs
      | nil =>
        simp only [setParams, Option.some.injEq] at hs
        simp only [VRs] at hv
        subst hs; subst hv
        exact ⟨rfl, by simpa using he, by simpa using hN⟩
  | t :: ts, bs, vs, cvs, env, env', tmps, hp, hs, hv, he, hN => by
    cases bs with
    | nil => simp [Cx.params] at hp
    | cons b bs =>
      cases vs with
      | nil => simp [setParams] at hs
      | cons v vs =>
        simp only [VRs] at hv
        obtain ⟨cv, r, rfl, hv1, hv2⟩ := hv
        simp only [Cx.params, Bool.and_eq_true, Nat.beq_eq, Nat.blt_eq] at hp
        obtain ⟨⟨⟨⟨rfl, hc⟩, hK⟩, hlt⟩, hp⟩ := hp
        simp only [setParams] at hs
        have he' : EnvR σ ρ X.K (env.set (some v) b) (tmps.setIfInBounds b.val cv) := by
          intro b' u hcan hg
          rw [Tr.get_set] at hg
          split at hg
          · rename_i e
            subst e
            simp only [Option.some.injEq] at hg
            subst hg
            refine ⟨hK, ?_⟩
            have : b'.val < tmps.size := by omega
            simpa [this] using hv1
          · rename_i hne
            obtain ⟨h1, h2⟩ := he b' u hcan hg
            refine ⟨h1, ?_⟩
            have hne' : b.val ≠ b'.val := fun e => hne (can_inj hcan hc e.symm)
            simp only [Array.getD_eq_getD_getElem?, Array.getElem?_setIfInBounds] at h2 ⊢
            rw [if_neg hne']
            exact h2
        obtain ⟨h1, h2, h3⟩ := setParams_sound hp hs hv2 he' (by simpa using hN)
        exact ⟨by simp [h1], by simpa using h2, by simpa using h3⟩

/-- a loop's record is written -/
theorem loop_set (hrel : Rel E ρ s w) {st : LS} {pe : Option AJ} {env : Tr AV} {ps : List Bn} {a b : AC} {d : Bn} (hg : s.h.get l = some (.lp st pe env ps a b d)) (hL : ρ l = some L) :
    ∃ lp, w.heap[L.b]? = some (.loop lp) ∧ LoopR E ρ st pe env ps a b d lp ∧ ∀ (st' : LS) (pe' : Option AJ) (S : LoopState), LsR st' S →
      Rel E ρ (setH s l (.lp st' pe' env ps a b d)) (w.putObj L.b (.loop { lp with state := S, pending := pe'.map jc })) ∧
      Ext s ρ w (setH s l (.lp st' pe' env ps a b d)) ρ (w.putObj L.b (.loop { lp with state := S, pending := pe'.map jc })) := by
  obtain ⟨L', hL', lp, hlp, hlr⟩ := hrel.obj _ _ (St.get_of_h hg)
  rw [hL] at hL'
  cases hL'
  refine ⟨lp, hlp, hlr, fun st' pe' S hS => ?_⟩
  have hlt : L.b < w.heap.size := (Array.getElem?_eq_some_iff.1 hlp).1
  obtain ⟨K, N, q1, q2, q3, q4, q5, q6, q7, q8, q9⟩ := hlr
  exact hrel.set hg hL (by simp) (fun b hb => World.putObj_heap_other hb) rfl rfl rfl ⟨_, World.putObj_heap_same hlt, K, N, q1, q2, q3, q4, q5, hS, rfl, q8, q9⟩

/-- how a round ends -/
theorem round_end (hcm : c.mode = .run) (hL : ρ l = some L) (hb : b.roundOf = some L.b) (hkind : b.kind = .normal) (hbare : Bare k) {o : Out} (hn : ∀ f' s', o = .n f' s' → k = []) (h : Ld E X ρ s w m b k (c :: cs) o) :
    ∃ q ∈ endRound l o, YLd E ρ s w m c cs q := by
  cases o with
  | x y => exact ⟨.x y, by simp [endRound], trivial⟩
  | n f' s' =>
    have hk := hn f' s' rfl
    subst hk
    obtain ⟨ρ', w', a', h1, h2, h3, h4⟩ := h
    rw [marked_run hcm] at h4
    simp only [endRound]
    split
    · rename_i st pe env ps x y d hg
      obtain ⟨lp, hlp, _, hset⟩ := loop_set h1 hg (h2.le _ _ hL)
      obtain ⟨r1, r2⟩ := hset .ready none .ready rfl
      refine ⟨_, List.mem_singleton.2 rfl, ρ', _, .bool true, r1, h2.trans r2, by simp only [VR], h4.trans (.one ?_)⟩
      exact stepR_round_end hb hkind (run_endRound none hlp)
    · exact ⟨_, List.mem_singleton.2 rfl, trivial⟩
  | j j f' s' =>
    obtain ⟨ρ', w', a', k₁, h1, h2, h3, hkeep, h4⟩ := h
    rw [marked_run hcm] at h4
    simp only [endRound]
    split
    · rename_i st pe env ps x y d hg
      obtain ⟨lp, hlp, _, hset⟩ := loop_set h1 hg (h2.le _ _ hL)
      obtain ⟨r1, r2⟩ := hset .done (some j) .done rfl
      refine ⟨_, List.mem_singleton.2 rfl, ρ', _, .bool false, r1, h2.trans r2, by simp only [VR], h4.trans (.one ?_)⟩
      cases j with
      | ex id => exact stepR_round_exit hb hkind (by simp only [Keeps] at hkeep; rw [hkeep]; exact hbare.1 id) (run_endRound (some (.exit id)) hlp)
      | gt t => exact stepR_round_goto hb hkind (by simp only [Keeps] at hkeep; rw [hkeep]; exact hbare.2 t) (run_endRound (some (.goto t)) hlp)
      | rt => exact stepR_round_ret hb hkind (run_endRound (some .ret) hlp)
    · exact ⟨_, List.mem_singleton.2 rfl, trivial⟩
  | p v f' s' =>
    obtain ⟨ρ', w', a', td, v', h1, h2, h3, h4, h5⟩ := h
    rw [marked_run hcm] at h5
    simp only [endRound]
    split
    · rename_i hdf
      have hd : a'.defers = [] := by
        have := h3.df.length
        rw [hdf] at this
        simpa using this
      obtain ⟨fn, hfn⟩ := h3.fn
      exact ⟨_, List.mem_singleton.2 rfl, ρ', w', v', h1, h2, h4, h5.trans (.one (step_panicked rfl hd hfn))⟩
    · exact ⟨_, List.mem_singleton.2 rfl, trivial⟩

theorem yield_sound (hok : TyOk E.P E.ty) (he : EvOk E e) {args : List AV} {cargs : Array Value} (hrel : Rel E ρ s w) (hargs : VRs E.σ ρ args cargs.toList) (hL : ρ l = some L) :
    (∃ m, COut.x m ∈ runYield e l args s) ∨ ∃ g tmps asg body, (Instr.yield L.b cargs).run E.P w = .ok (.round L.b g tmps asg body) w ∧
      ∀ (c : Frame) (cs : List Frame), c.mode = .run → ∃ o ∈ runYield e l args s, YLd E ρ s w (lone (Frame.round L.b g tmps asg body .normal) (c :: cs) w) c cs o := by
  unfold runYield
  split
  · rename_i st pe env ps x y d hg
    split
    · rename_i env' henv
      right
      obtain ⟨lp, hlp, ⟨K, N, q1, q2, q3, q4, q5, q6, q7, ⟨D, q8, q8'⟩, q9⟩, _⟩ := loop_set hrel hg hL
      have hx : XOk E ⟨E.ty, E.gl, K, N⟩ := ⟨rfl, rfl, hok⟩
      obtain ⟨p1, p2, p3⟩ := setParams_sound q3 henv hargs q1 q2
      have hsz : cargs.size = lp.params.size := by simpa using p1.symm
      refine ⟨lp.fn, _, lp.assign, lp.body, run_yield hlp hsz, fun c cs hcm => ?_⟩
      have hz : (lp.params.zip cargs).foldl (fun tmps (x : Nat × Value) => match x with | (t, a) => tmps.setIfInBounds t a) lp.tmps =
          (lp.params.toList.zip cargs.toList).foldl (fun tmps (p : Nat × Value) => tmps.setIfInBounds p.1 p.2) lp.tmps := by
        rw [← Array.foldl_toList, Array.toList_zip]
      rw [hz]
      generalize ((lp.params.toList.zip cargs.toList).foldl (fun tmps (p : Nat × Value) => tmps.setIfInBounds p.1 p.2) lp.tmps) = tm at p2 p3 ⊢
      let b : Frame := { (default : Frame) with fn := lp.fn, kind := .normal, roundOf := some L.b }
      have hb0 : Frame.round L.b lp.fn tm lp.assign lp.body .normal = b.atR { tmps := tm, defers := [] } [.code lp.assign, .beginRound, .code lp.body] := by
        simp [Frame.round, Frame.atR, b]
      rw [hb0]
      have hf : FrR E ⟨E.ty, E.gl, K, N⟩ ρ ⟨env', [], none, false, some (l, d)⟩ { tmps := tm, defers := [] } b (c :: cs) :=
        { env := p2, size := p3, df := .nil, ro := ⟨L, hL, rfl⟩, pn := fun v h => (by cases h), np := fun _ h => (by cases h), fn := q9 }
      have h1 := he.cd [.beginRound, .code lp.body] hx q4 hrel hf
      have hbare1 : Bare [.beginRound, .code lp.body] := ⟨fun _ => rfl, fun _ => rfl⟩
      have hbare0 : Bare [] := ⟨fun _ => rfl, fun _ => rfl⟩
      obtain ⟨o, ho, hl⟩ := h1
      have fin : ∃ o' ∈ kRound e l y o, ∃ q ∈ endRound l o', YLd E ρ s w (lone (b.atR { tmps := tm, defers := [] } [.code lp.assign, .beginRound, .code lp.body]) (c :: cs) w) c cs q := by
        cases o with
        | x y => exact ⟨_, List.mem_singleton.2 rfl, round_end (k := [.beginRound, .code lp.body]) hcm hL rfl rfl hbare1 (fun _ _ h => by cases h) hl⟩
        | j j f' s' => exact ⟨_, List.mem_singleton.2 rfl, round_end (k := [.beginRound, .code lp.body]) hcm hL rfl rfl hbare1 (fun _ _ h => by cases h) hl⟩
        | p v f' s' => exact ⟨_, List.mem_singleton.2 rfl, round_end (k := [.beginRound, .code lp.body]) hcm hL rfl rfl hbare1 (fun _ _ h => by cases h) hl⟩
        | n f' s' =>
          obtain ⟨ρ', w', a', h1, h2, h3, h4⟩ := hl
          simp only [kRound]
          split
          · rename_i pe2 env2 ps2 x2 y2 d2 hg2
            obtain ⟨lp2, hlp2, hlr2, hset⟩ := loop_set h1 hg2 (h2.le _ _ hL)
            obtain ⟨r1, r2⟩ := hset .busy pe2 .busy rfl
            have hpe : lp2.pending = pe2.map jc := by obtain ⟨_, _, _, _, _, _, _, _, h, _⟩ := hlr2; exact h
            have hrd : lp2.state = .ready := by obtain ⟨_, _, _, _, _, _, _, h, _⟩ := hlr2; exact h
            have hbr := run_beginRound (P := E.P) hlp2 hrd
            have hrec : ({ lp2 with state := .busy } : Loop) = { lp2 with state := .busy, pending := pe2.map jc } := by rw [← hpe]
            rw [hrec] at hbr
            have h5 := h4.trans (.one (stepR_beginRound (b := b) (a := a') (k := [.code lp.body]) (cs := marked f'.rc (c :: cs)) rfl hbr))
            obtain ⟨o2, ho2, hl2⟩ := he.cd [] hx q5 r1 (h3.mono r2.le)
            refine ⟨o2, ho2, round_end (k := []) hcm hL rfl rfl hbare0 (fun _ _ _ => rfl) (hl2.pre (h2.trans r2) h5)⟩
          · exact ⟨_, List.mem_singleton.2 rfl, .x _, List.mem_singleton.2 rfl, trivial⟩
      obtain ⟨o', ho', q, hq, hy⟩ := fin
      exact ⟨q, mem_mapC (mem_bindO ho ho') hq, hy⟩
    · exact .inl ⟨_, List.mem_singleton.2 rfl⟩
  · exact .inl ⟨_, List.mem_singleton.2 rfl⟩
end
end Go.Ex
/- A function is left: its results, its deferred calls. -/
namespace Go.Ex
section
variable {E : Env} {X : Cx} {ρ : Rho} {s : St} {w : World} {f : Fr} {a : Act} {b : Frame} {cs0 cs : List Frame} {k : List Item} {e : Ev} {m : Machine} {c : Frame} {l : Bn} {L : Loc}

def resOne (tmps : Array Value) : ResultVar → Sem Value
  | .tmp t => pure (tmps.getD t undef)
  | .cell a t => do loadVar t (← asAddr (tmps.getD a undef))

theorem results_eq (fn : Func) (tmps : Array Value) : results fn tmps = (do
    let vs ← fn.results.mapM (resOne tmps)
    pure (if h : vs.size = 1 then vs[0] else .tuple vs)) := by
  unfold results
  congr 2

theorem res_sound (hx : XOk E X) (hrel : Rel E ρ s w) {env : Tr AV} {tmps : Array Value} (he : EnvR E.σ ρ X.K env tmps) : ∀ {rs : List ResultVar} {res : List ARes} {vs : List AV}, X.res rs res = true → ressA env s res = some vs →
    ∃ cvs, VRs E.σ ρ vs cvs ∧ (rs.mapM (resOne tmps)).run E.P w = .ok cvs w
  | [], res, vs, hk, h => by
    cases res with
    | cons r res => simp [Cx.res] at hk
    | nil =>
      simp only [ressA, Option.some.injEq] at h
      subst h
      exact ⟨[], VRs.nil, by simp⟩
  | r :: rs, res, vs, hk, h => by
    cases res with
    | nil => simp [Cx.res] at hk
    | cons q res =>
      simp only [ressA] at h
      split at h
      · cases h
      · rename_i v hv
        split at h
        · cases h
        · rename_i vs' hvs
          simp only [Option.some.injEq] at h
          subst h
          have key : X.res rs res = true → (∃ cv, VR E.σ ρ v cv ∧ (resOne tmps r).run E.P w = .ok cv w) →
              ∃ cvs, VRs E.σ ρ (v :: vs') cvs ∧ ((r :: rs).mapM (resOne tmps)).run E.P w = .ok cvs w := by
            rintro hk2 ⟨cv, h1, h2⟩
            obtain ⟨cvs, h3, h4⟩ := res_sound hx hrel he hk2 hvs
            refine ⟨cv :: cvs, VRs.cons h1 h3, ?_⟩
            simp only [List.mapM_cons, Sem.run_bind, h2, Result.andThen_ok, h4, Sem.run_pure]
          cases r with
          | tmp t =>
            cases q with
            | c b sz => simp [Cx.res] at hk
            | t b =>
              simp only [Cx.res, Bool.and_eq_true, Nat.beq_eq] at hk
              obtain ⟨⟨rfl, hc⟩, hk2⟩ := hk
              simp only [resA] at hv
              exact key hk2 ⟨_, (he b v hc hv).2, by simp [resOne]⟩
          | cell x t =>
            cases q with
            | t b => simp [Cx.res] at hk
            | c b sz =>
              simp only [Cx.res, Bool.and_eq_true, Nat.beq_eq] at hk
              obtain ⟨⟨⟨rfl, hc⟩, hsz⟩, hk2⟩ := hk
              simp only [resA] at hv
              split at hv
              · rename_i p o hp
                split at hv
                · rename_i row hrow
                  have hP := (he b _ hc hp).2
                  simp only [VR] at hP
                  obtain ⟨L, hL, hex⟩ := hP
                  obtain ⟨L', cv, hL', h1, h2⟩ := ld_sound hx.tyok hrel hrow hsz hv
                  rw [hL] at hL'
                  cases hL'
                  exact key hk2 ⟨cv, h1, by unfold resOne; simp only; rw [hex]; simp [asAddr, h2]⟩
                · cases hv
              · cases hv

theorem results_sound (hx : XOk E X) (hrel : Rel E ρ s w) {env : Tr AV} {tmps : Array Value} (he : EnvR E.σ ρ X.K env tmps) {fn : Func} {res : List ARes} {vs : List AV} (hk : X.res fn.results.toList res = true)
    (h : ressA env s res = some vs) : ∃ cv, VR E.σ ρ (tupA vs) cv ∧ (results fn tmps).run E.P w = .ok cv w := by
  obtain ⟨cvs, h1, h2⟩ := res_sound hx hrel he hk h
  have hrun : (results fn tmps).run E.P w = .ok (if h : cvs.toArray.size = 1 then cvs.toArray[0] else .tuple cvs.toArray) w := by
    rw [results_eq, Sem.run_bind, Array.mapM_eq_mapM_toList, Sem.run_map, h2]
    simp only [Result.andThen_ok, Sem.run_pure]
  refine ⟨_, ?_, hrun⟩
  have hlen := h1.length
  match vs, cvs, h1, hlen with
  | [], [], h1, _ => simp only [tupA, List.size_toArray, List.length_nil]; simp only [VR]; exact ⟨[], VRs.nil, rfl⟩
  | [v], [cv], h1, _ =>
    simp only [VRs] at h1
    obtain ⟨y, r, hh, h3, h4⟩ := h1
    simp only [List.cons.injEq] at hh
    obtain ⟨rfl, rfl⟩ := hh
    simpa [tupA] using h3
  | v :: v2 :: vs, cvs, h1, hlen =>
    have hne : ¬ cvs.toArray.size = 1 := by simp at hlen ⊢; omega
    rw [dif_neg hne]
    simp only [tupA, VR]
    exact ⟨cvs, h1, rfl⟩
  | [v], [], h1, hlen => simp at hlen
  | [v], _ :: _ :: _, h1, hlen => simp at hlen
  | [], _ :: _, h1, hlen => simp at hlen
end
end Go.Ex
/- A function is left: its deferred calls. -/
namespace Go.Ex
section
variable {E : Env} {X : Cx} {ρ : Rho} {s : St} {w : World} {cs : List Frame} {e : Ev} {m : Machine}

def MdR (σ : Sig) (ρ : Rho) : Md → FrameMode → Prop
  | .ret, u => u = .returning
  | .pan v, u => ∃ v', u = pmode v' ∧ VR σ ρ v v'

theorem MdR.mono {σ : Sig} {ρ ρ' : Rho} (hr : ρ.le ρ') {md : Md} {u : FrameMode} (h : MdR σ ρ md u) : MdR σ ρ' md u := by
  cases md with
  | ret => exact h
  | pan v => obtain ⟨v', h1, h2⟩ := h; exact ⟨v', h1, VR.mono hr _ _ h2⟩

theorem MdR.ne {σ : Sig} {md : Md} {u : FrameMode} (h : MdR σ ρ md u) : u ≠ .run := by
  cases md with
  | ret => rw [show u = .returning from h]; simp
  | pan v => obtain ⟨v', h1, _⟩ := h; rw [h1]; simp [pmode]

theorem mem_bindCC {K : COut → List COut} : ∀ {outs : List COut} {o o' : COut}, o ∈ outs → o' ∈ K o → o' ∈ bindCC K outs
  | [x], o, o', h, h' => by simp only [List.mem_singleton] at h; subst h; exact h'
  | x :: y :: l, o, o', h, h' => by
    simp only [bindCC, List.mem_append]
    rcases List.mem_cons.1 h with rfl | h
    · exact .inl h'
    · exact .inr (mem_bindCC h h')

theorem CLd.pre {ρ' : Rho} {s' : St} {w' : World} {m' : Machine} {g : FuncId} {K : CallKind} {o : COut} (he : Ext s ρ w s' ρ' w') (hs : Steps E.P m m') (h : CLd E ρ' s' w' m' g K cs o) : CLd E ρ s w m g K cs o := by
  cases o with
  | x _ => trivial
  | r v s2 rc => obtain ⟨ρ2, w2, fr, v', h1, h2, h3, h4, h5⟩ := h; exact ⟨ρ2, w2, fr, v', h1, he.trans h2, h3, hs.trans h4, h5⟩
  | p v s2 rc => obtain ⟨ρ2, w2, fr, v', h1, h2, h3, h4, h5⟩ := h; exact ⟨ρ2, w2, fr, v', h1, he.trans h2, h3, hs.trans h4, h5⟩

def pnOf : Md → Option AV
  | .ret => none
  | .pan v => some v
def kUnw (e : Ev) (res : List ARes) (env : Tr AV) (rc : Bool) (l : List AD) (m : Md) : COut → List COut
  | .r _ s' rc' => unw e res env rc l (if rc' then .ret else m) s'
  | .p _ _ _ => [.x "a deferred call panics"]
  | .x w => [.x w]
theorem unw_call {res : List ARes} {env : Tr AV} {rc : Bool} {l : List AD} {md : Md} {g : Bn} {args : List AV} : unw e res env rc (.call g args :: l) md s = bindCC (kUnw e res env rc l md) (e.cl g args (pnOf md) s) := by
  cases md <;> simp only [unw, pnOf] <;> congr 1 <;> funext o <;> cases o <;> rfl

theorem unw_sound (he : EvOk E e) (hx : XOk E X) {fn : Func} {res : List ARes} {env : Tr AV} {rc : Bool} (hk : X.res fn.results.toList res = true) : ∀ (l : List AD) (md : Md) (s : St) (ρ : Rho) (w : World) (fr : Frame),
    E.P.funcs[fr.fn]? = some fn → Rel E ρ s w → EnvR E.σ ρ X.K env fr.tmps → F2 (DfR E.σ ρ) l fr.defers → MdR E.σ ρ md fr.mode →
    ∃ o ∈ unw e res env rc l md s, CLd E ρ s w (lone fr (marked rc cs) w) fr.fn fr.kind cs o
  | [], .ret, s, ρ, w, fr, hfn, hrel, henv, hdf, hmd => by
    have hd : fr.defers = [] := by
      generalize fr.defers = d at hdf
      cases hdf; rfl
    simp only [unw]
    split
    · rename_i vs hvs
      obtain ⟨cv, h1, h2⟩ := results_sound hx hrel henv hk hvs
      exact ⟨_, List.mem_singleton.2 rfl, ρ, w, fr, cv, hrel, .refl _ _ _, h1, .refl _ _, rfl, hmd, hd, rfl, fn, hfn, h2⟩
    · exact ⟨_, List.mem_singleton.2 rfl, trivial⟩
  | [], .pan v, s, ρ, w, fr, hfn, hrel, henv, hdf, hmd => by
    have hd : fr.defers = [] := by
      generalize fr.defers = d at hdf
      cases hdf; rfl
    obtain ⟨v', h1, h2⟩ := hmd
    exact ⟨_, List.mem_singleton.2 rfl, ρ, w, fr, v', hrel, .refl _ _ _, h2, .refl _ _, rfl, h1, hd, rfl, fn, hfn⟩
  | .coll a :: l, md, s, ρ, w, fr, hfn, hrel, henv, hdf, hmd => by
    have ⟨d, ds, hd, hda, hdl⟩ : ∃ d ds, fr.defers = d :: ds ∧ DfR E.σ ρ (.coll a) d ∧ F2 (DfR E.σ ρ) l ds := by
      generalize fr.defers = d at hdf
      cases hdf with
      | cons h1 h2 => exact ⟨_, _, rfl, h1, h2⟩
    simp only [unw]
    split
    · rename_i hg
      obtain ⟨L, hL, hdd⟩ := hda
      obtain ⟨L', hL', ho⟩ := hrel.obj _ _ (St.get_of_h hg)
      rw [hL] at hL'
      cases hL'
      simp only [OR] at ho
      obtain ⟨r1, r2⟩ := hrel.killSet (w' := w.putObj L.b (.deferred none)) hg hL (by simp) (fun b hb => World.putObj_heap_other hb) rfl rfl rfl
      have hstep := step_collected (cs := marked rc cs) hmd.ne hd (by rw [hdd]) (run_takeDeferred (P := E.P) ho)
      obtain ⟨o, hm, hl⟩ := unw_sound he hx hk l md (killH s a) ρ _ { fr with defers := [] ++ ds } hfn r1 henv hdl hmd
      exact ⟨o, hm, hl.pre r2 (.one hstep)⟩
    · exact ⟨_, List.mem_singleton.2 rfl, trivial⟩
  | .call g args :: l, md, s, ρ, w, fr, hfn, hrel, henv, hdf, hmd => by
    have ⟨d, ds, hd, hda, hdl⟩ : ∃ d ds, fr.defers = d :: ds ∧ DfR E.σ ρ (.call g args) d ∧ F2 (DfR E.σ ρ) l ds := by
      generalize fr.defers = d at hdf
      cases hdf with
      | cons h1 h2 => exact ⟨_, _, rfl, h1, h2⟩
    obtain ⟨capt, dargs, hdd, hargs⟩ := hda
    rw [unw_call]
    have hkind : KindOk E ρ (pnOf md) .deferred ({ fr with defers := ds } :: marked rc cs) := by
      cases md with
      | ret =>
        refine ⟨fun v h => (by cases h), fun _ fr0 h => ?_⟩
        have hm : fr.mode = .returning := hmd
        unfold tryRecover
        rw [h]
        simp [hm]
      | pan v =>
        obtain ⟨v', h1, h2⟩ := hmd
        refine ⟨fun u h => ?_, fun h => (by cases h)⟩
        cases h
        exact ⟨rfl, _, _, v', rfl, h1, h2⟩
    rcases he.cl (cs := { fr with defers := ds } :: marked rc cs) hrel hargs hkind with ⟨y, hy⟩ | ⟨hb, o, ho, hl⟩
    · exact ⟨.x y, mem_bindCC hy (List.mem_singleton.2 rfl), trivial⟩
    · have hinv : (invoke d.target d.args).run E.P w = .ok (.enter g.val (dargs ++ capt)) w := by
        rw [hdd]
        simp only [invoke]
        exact run_callFunc hb _ w
      have hstep := step_defer (cs := marked rc cs) hmd.ne hd (by rw [hdd]) hinv
      cases o with
      | x y => exact ⟨.x y, mem_bindCC ho (List.mem_singleton.2 rfl), trivial⟩
      | p v s' rc' => exact ⟨_, mem_bindCC ho (List.mem_singleton.2 rfl), trivial⟩
      | r v s' rc' =>
        obtain ⟨ρ', w', fr2, v', a1, a2, a3, a4, a5, a6, a7, a8, fn', a9, a10⟩ := hl
        have hgo : fr2.going E.P w' (.returned v') := ⟨a6, a7, fn', by rw [a8]; exact a9, a10⟩
        -- the frame below, as the call left it
        have ⟨c, hc1, hc2, hc3, hc4, hc5, hc6⟩ : ∃ c : Frame, marked rc' ({ fr with defers := ds } :: marked rc cs) = c :: marked rc cs ∧ c.tmps = fr.tmps ∧ c.fn = fr.fn ∧ c.kind = fr.kind ∧ c.defers = ds ∧
            MdR E.σ ρ' (if rc' then .ret else md) (settle c.mode) := by
          cases rc' with
          | false =>
            refine ⟨_, rfl, rfl, rfl, rfl, rfl, ?_⟩
            have : settle fr.mode = fr.mode := by
              cases md with
              | ret => rw [show fr.mode = .returning from hmd]; rfl
              | pan v => obtain ⟨v', h1, _⟩ := hmd; rw [h1]; rfl
            show MdR E.σ ρ' md (settle fr.mode)
            rw [this]
            exact hmd.mono a2.le
          | true =>
            refine ⟨markF { fr with defers := ds }, rfl, ?_, ?_, ?_, ?_, ?_⟩
            · unfold markF; split <;> rfl
            · unfold markF; split <;> rfl
            · unfold markF; split <;> rfl
            · unfold markF; split <;> rfl
            · show settle (markF { fr with defers := ds }).mode = .returning
              cases md with
              | ret =>
                have hm : fr.mode = .returning := hmd
                simp [markF, hm, settle]
              | pan v =>
                obtain ⟨v', h1, _⟩ := hmd
                simp [markF, h1, settle]
        rw [hc1] at a4
        have h2 := step_going_returned (c := c) (cs := marked rc cs) a5 hgo
        obtain ⟨o2, hm2, hl2⟩ := unw_sound he hx hk l (if rc' then .ret else md) s' ρ' w' { c with mode := settle c.mode } (by rw [hc3]; exact hfn) a1 (by rw [hc2]; exact henv.mono a2.le)
          (by rw [hc5]; exact hdl.imp fun _ _ => DfR.mono a2.le) hc6
        refine ⟨o2, mem_bindCC ho hm2, ?_⟩
        have hl3 := hl2.pre a2 ((Steps.one hstep).trans (a4.trans (.one h2)))
        simp only [hc3, hc4] at hl3
        exact hl3
end
end Go.Ex
