/- A region whose order is open: it lands. -/
import Derived.Test.YteblalbifpkdcaaGreatDoorA8
namespace Go.Ex
section
variable {E : Env} {X : Cx} {ops : Array Oper} {bs : List Nat} {s : St} {ρ : Rho} {w : World} {a : Act} {tmps0 : Array Value} {rest : List Nat} {met : List Met} {scr : List AV} {env : Tr AV}
variable {s0 : St} {ρ0 : Rho} {w0 : World} {m0 : Machine} {b : Frame} {k : List Item} {cs0 : List Frame} {need : List Nat} {pd : List (Nat × Bn × AO)} {ke : Tr AV} {f : Fr}

theorem pk_nos {P : Program} {ctx : List (Option Nat)} {kk : PK} {op : Op} (h : X.pk P ctx op kk = true) : ∀ cs b, op ≠ .select cs b := by
  rintro cs b rfl
  unfold Cx.pk at h
  split at h <;> simp_all
theorem rk_nos {ctx : List (Option Nat)} {kk : RK} {op : Op} (h : X.rk ctx op kk = true) : ∀ cs b, op ≠ .select cs b := by
  rintro cs b rfl
  unfold Cx.rk at h
  split at h <;> simp_all
theorem mk_nos {ctx : List (Option Nat)} {kk : MK} {op : Op} (h : X.mk' ctx op kk = true) : ∀ cs b, op ≠ .select cs b := by
  rintro cs b rfl
  unfold Cx.mk' at h
  split at h <;> simp_all
theorem ek_nos {P : Program} {ctx : List (Option Nat)} {kk : EK} {op : Op} (h : X.ek P ctx op kk = true) : ∀ cs b, op ≠ .select cs b := by
  rintro cs b rfl
  unfold Cx.ek at h
  split at h <;> simp_all

/-- an operation that was met and is the next one is done -/
theorem DrI.step (hx : XOk E X) {i : Nat} (h : DrI E X ops bs tmps0 s0 ρ0 w0 m0 b k cs0 (i :: rest) met [] pd scr ke f s ρ w a) (hi : i ∈ orderOf met) :
    ∃ ρ' w' a', DrI E X ops bs tmps0 s0 ρ0 w0 m0 b k cs0 rest met [] pd scr ke f s ρ' w' a' := by
  obtain ⟨n, x, hn, hxi⟩ := order_mem hi
  obtain ⟨v, hv⟩ := nth_of_len (l := scr) (n := n) (by rw [h.len]; exact nth_len hn)
  rcases h.debt n x v hn (by rw [hxi]; exact List.mem_cons_self ..) hv with ⟨hq, _⟩ | ⟨o, m, c, g, e1, e2, e3, e4, e5⟩
  · cases hq
  · rw [hxi] at e1 e2
    obtain ⟨o', m', f1, f2, f3, f4, f5⟩ := h.mok.recd n x hn
    rw [hxi] at f1 f2
    rw [e1] at f1; cases f1
    rw [e2] at f2; cases f2
    have hnr : i ∉ rest := (List.nodup_cons.1 h.nodup).1
    have H : ∀ n' y t, nth met n' = some y → y.i ∉ i :: rest → y.d = some t → natIn t (looks ops o) = true → m.testBit y.i = true ∧ c ≤ n' := by
      intro n' y t hy hyr hyd ht
      rcases Nat.lt_trichotomy n' n with hlt | rfl | hlt
      · exfalso
        obtain ⟨o2, m2, g1, g2, g3, g4, g5⟩ := h.mok.recd n' y hy
        rcases h.mok.pair n' n y x m2 hy hn hlt g2 with hb | ⟨_, _, hb⟩
        · exact h.down y.i (Array.getElem?_eq_some_iff.1 g1).1 hyr m2 g2 x.i hb (by rw [hxi]; exact List.mem_cons_self ..)
        · rw [hyd, f4] at hb; exact notIn_spec hb ht
      · rw [hn] at hy; cases hy
        exact absurd (by rw [hxi]; exact List.mem_cons_self ..) hyr
      · rcases h.mok.pair n n' x y m hn hy hlt (by rw [hxi]; exact e2) with hb | ⟨hb, _, _⟩
        · exact ⟨hb, by omega⟩
        · rw [hyd, f4] at hb; exact absurd ht (fun ht => notIn_spec hb ht)
    have hev := see hx h.rel (L := looks ops o) (m := m) (c := c) h.t1 h.t0 h.env0 h.size0 (fun j hj => h.ord.1 m e2 j hj) H
    have hwant : ∀ r, want g (scr.drop c) f.env = some r → Region.wanted o (yielded ops a.tmps) = r := fun r hr => by
      have := want_sound (a := { a with tmps := seeT (looks ops o) a.tmps tmps0 }) hev e4 hr
      rw [← this]
      exact see_wanted.symm
    have keepu : ∀ p ∈ pd, p.1 ∈ rest → ρ p.2.1 = none := fun p hp hr => h.pdu p hp (List.mem_cons_of_mem _ hr)
    have keepx : (∀ p ∈ pd, p.1 ≠ x.i) → ∀ p ∈ pd, p.1 ∉ rest → ∃ L, ρ p.2.1 = some L ∧ OR E ρ p.2.2 L w ∧ w0.heap.size ≤ L.b ∧ (∀ a' o' L', s.get a' = some o' → ρ a' = some L' → L'.b ≠ L.b) ∧
      (∀ q ∈ pd, q.1 ∉ rest → ∀ L', ρ q.2.1 = some L' → L'.b = L.b → q = p) := by
      intro hne p hp hpr
      have nin : ∀ q ∈ pd, q.1 ∉ rest → q.1 ∉ i :: rest := fun q hq hqr hc => by
        rcases List.mem_cons.1 hc with hc | hc
        · exact hne q hq (by rw [hc, hxi])
        · exact hqr hc
      obtain ⟨L, q1, q2, q3, q4, q5⟩ := h.pdx p hp (nin p hp hpr)
      exact ⟨L, q1, q2, q3, q4, fun q hq hqr => q5 q hq (nin q hq hqr)⟩
    rcases e5 with ⟨z1, z2, rfl⟩ | ⟨z0, ⟨z1, kk, z2, z3⟩ | ⟨z1, _, kk, z2, z3⟩ | ⟨kk, nm, ob, z1, z2, z3⟩⟩
    · exact ⟨ρ, w, _, h.exec hn hxi e1 hv undefA_sound (.refl _) h.rel h.ext keepu (keepx z1) (.one (st_unwanted e1 (hwant _ z2)))⟩
    · obtain ⟨cv, y1, y2⟩ := pk_sound hx.tyok hev z2 z3
      refine ⟨ρ, w, _, h.exec hn hxi e1 hv y1 (.refl _) h.rel h.ext keepu (keepx z1) (.one (st_value e1 (hwant _ z0) ?_))⟩
      rw [see_sem (pk_nos z2), Oper.semAt_eq _ _ _ (pk_no z2)]
      exact y2 w
    · obtain ⟨cv, y1, y2⟩ := rk_sound hx.tyok hev h.rel z2 z3
      refine ⟨ρ, w, _, h.exec hn hxi e1 hv y1 (.refl _) h.rel h.ext keepu (keepx z1) (.one (st_value e1 (hwant _ z0) ?_))⟩
      rw [see_sem (rk_nos z2), Oper.semAt_eq _ _ _ (rk_no z2)]
      exact y2
    · obtain ⟨cv, cob, L, y1, y2, y3⟩ := mk_sound (E := E) hx.tyok hev (fun _ => rfl) z1 z2 w
      have hnm : ρ nm = none := h.pdu _ z3 (by rw [hxi]; exact List.mem_cons_self ..)
      have hle := Rho.add_le (L := L) hnm
      obtain ⟨q1, q2, q3⟩ := h.pdn _ z3
      simp only at q1 q2 q3
      obtain ⟨y4, y5⟩ := y3 (ρ.add nm L) hle Rho.add_self
      have hnew : (w.alloc cob).heap[L.b]? = some cob := by show (w.heap.push cob)[L.b]? = _; rw [y2]; simp
      have hOR := y5 _ hnew
      have hheap : ∀ bb, bb < w.heap.size → (w.alloc cob).heap[bb]? = w.heap[bb]? := fun bb hb => Go.RowKit.Below.heap_alloc w _ bb hb
      have hother : ∀ a', a' ≠ nm → (ρ.add nm L) a' = ρ a' := fun a' hne => by unfold Rho.add; rw [if_neg hne]
      have hlive : ∀ a' o', s.get a' = some o' → a' ≠ nm := fun a' o' hg e => by subst e; rw [q1] at hg; cases hg
      have hrel' : Rel E (ρ.add nm L) s (w.alloc cob) := by
        refine ⟨fun a' ha => ?_, fun a' o' hg => ?_, fun a' a2 o' o2 L' L2 hg hg2 hL' hL2 e => ?_, fun bb hg hc => ?_, h.rel.sep⟩
        · rw [hother a' (by rintro rfl; omega)]; exact h.rel.fresh a' ha
        · obtain ⟨L', hL', hO⟩ := h.rel.obj a' o' hg
          exact ⟨L', hle _ _ hL', hO.mono hle (hheap _ hO.lt)⟩
        · rw [hother a' (hlive a' o' hg)] at hL'
          rw [hother a2 (hlive a2 o2 hg2)] at hL2
          exact h.rel.inj a' a2 o' o2 L' L2 hg hg2 hL' hL2 e
        · obtain ⟨t, ht⟩ := h.rel.glob bb hg hc
          exact ⟨t, hle _ _ ht⟩
      have hext' : Ext s0 ρ0 w0 s (ρ.add nm L) (w.alloc cob) :=
        { le := h.ext.le.trans hle, lo := h.ext.lo, os := h.ext.os, tape := h.ext.tape, output := h.ext.output
          size := by have := h.ext.size; simp; omega
          same := fun bb hb hn => by rw [hheap bb (Nat.lt_of_lt_of_le hb h.ext.size)]; exact h.ext.same bb hb hn
          wr := fun bb hb ⟨a', o', L', hg, hL', hbb⟩ => h.ext.wr bb hb ⟨a', o', L', hg, by rw [← hother a' (hlive a' o' (St.get_of_h hg))]; exact hL', hbb⟩
          old := fun a' ha => by rw [hother a' (by rintro rfl; omega)]; exact h.ext.old a' ha
          nx := h.ext.nx }
      have hpi : ∀ p ∈ pd, p.1 = i → p = (x.i, nm, ob) := fun p hp e => h.pdi p hp _ z3 (by rw [e, hxi])
      have hpn : ∀ p ∈ pd, p.1 ≠ i → p.2.1 ≠ nm := fun p hp hne e => hne (by rw [h.pdd p hp _ z3 e]; exact hxi)
      refine ⟨_, _, _, h.exec hn hxi e1 hv y4 hle hrel' hext' ?_ ?_ (.one (st_value e1 (hwant _ z0) ?_))⟩
      · intro p hp hpr
        rw [hother _ (hpn p hp (by rintro e; rw [e] at hpr; exact hnr hpr))]
        exact h.pdu p hp (List.mem_cons_of_mem _ hpr)
      · intro p hp hpr
        by_cases hpe : p.1 = i
        · have := hpi p hp hpe
          subst this
          refine ⟨L, Rho.add_self, hOR, by rw [y2]; exact h.ext.size, fun a' o' L' hg hL' e => ?_, fun q hq hqr L' hL' e => ?_⟩
          · rw [hother a' (hlive a' o' hg)] at hL'
            obtain ⟨L2, hL2, hO⟩ := h.rel.obj a' o' hg
            rw [hL'] at hL2; cases hL2
            have := hO.lt
            omega
          · by_cases hqe : q.1 = i
            · exact hpi q hq hqe
            · exfalso
              rw [hother _ (hpn q hq hqe)] at hL'
              obtain ⟨L2, u1, u2, _⟩ := h.pdx q hq (fun hc => by exact (List.mem_cons.1 hc).elim (fun q => hqe q) (fun z => hqr z))
              rw [hL'] at u1; cases u1
              have := u2.lt
              omega
        · obtain ⟨L2, u1, u2, u3, u4, u5⟩ := h.pdx p hp (fun hc => by exact (List.mem_cons.1 hc).elim (fun q => hpe q) (fun q => hpr q))
          refine ⟨L2, hle _ _ u1, u2.mono hle (hheap _ u2.lt), u3, fun a' o' L' hg hL' => ?_, fun q hq hqr L' hL' e => ?_⟩
          · rw [hother a' (hlive a' o' hg)] at hL'
            exact u4 a' o' L' hg hL'
          · by_cases hqe : q.1 = i
            · exfalso
              have := hpi q hq hqe
              subst this
              rw [show (ρ.add nm L) nm = some L from Rho.add_self] at hL'
              cases hL'
              have := u2.lt
              omega
            · rw [hother _ (hpn q hq hqe)] at hL'
              exact u5 q hq (fun hc => by exact (List.mem_cons.1 hc).elim (fun q => hqe q) (fun z => hqr z)) L' hL' e
      · rw [see_sem (mk_nos z1), Oper.semAt_eq _ _ _ (mk_no z1)]
        exact y1

-- blocks are laid
theorem lay_get : ∀ {pd : List (Nat × Bn × AO)} {ms : List Nat} {h : Tr AO} {x : Bn} {o : AO}, (lay ms h pd).1.get x = some o → h.get x = some o ∨ ∃ p ∈ pd, natIn p.1 ms = true ∧ p.2 = (x, o)
  | [], ms, h, x, o, hg => .inl hg
  | (i, a, q) :: l, ms, h, x, o, hg => by
    simp only [lay] at hg
    split at hg
    · rename_i hin
      rcases lay_get hg with hm | ⟨p, hp, h1, h2⟩
      · rw [Tr.get_set] at hm
        split at hm
        · rename_i e; subst e; simp only [Option.some.injEq] at hm; subst hm
          exact .inr ⟨_, List.mem_cons_self .., hin, rfl⟩
        · exact .inl hm
      · exact .inr ⟨p, List.mem_cons_of_mem _ hp, h1, h2⟩
    · rcases lay_get hg with hm | ⟨p, hp, h1, h2⟩
      · exact .inl hm
      · exact .inr ⟨p, List.mem_cons_of_mem _ hp, h1, h2⟩

theorem lay_rest : ∀ {pd : List (Nat × Bn × AO)} {ms : List Nat} {h : Tr AO} {p : Nat × Bn × AO}, p ∈ (lay ms h pd).2 ↔ p ∈ pd ∧ natIn p.1 ms = false
  | [], ms, h, p => by simp [lay]
  | (i, a, q) :: l, ms, h, p => by
    simp only [lay]
    split
    · rename_i hin
      rw [lay_rest]
      constructor
      · rintro ⟨h1, h2⟩; exact ⟨List.mem_cons_of_mem _ h1, h2⟩
      · rintro ⟨h1, h2⟩
        rcases List.mem_cons.1 h1 with rfl | h1
        · simp only at h2; rw [hin] at h2; cases h2
        · exact ⟨h1, h2⟩
    · rename_i hin
      simp only [List.mem_cons, lay_rest]
      constructor
      · rintro (rfl | ⟨h1, h2⟩)
        · exact ⟨.inl rfl, by simpa using hin⟩
        · exact ⟨.inr h1, h2⟩
      · rintro ⟨rfl | h1, h2⟩
        · exact .inl rfl
        · exact .inr ⟨h1, h2⟩

theorem lay_nil : ∀ (pd : List (Nat × Bn × AO)) (h : Tr AO), lay [] h pd = (h, pd)
  | [], h => rfl
  | (i, a, q) :: l, h => by simp [lay, natIn, lay_nil l h]

theorem layAll_get : ∀ {pd : List (Nat × Bn × AO)} {h : Tr AO} {x : Bn} {o : AO}, (layAll h pd).get x = some o → h.get x = some o ∨ ∃ p ∈ pd, p.2 = (x, o)
  | [], h, x, o, hg => .inl hg
  | (i, a, q) :: l, h, x, o, hg => by
    simp only [layAll] at hg
    rcases layAll_get hg with hm | ⟨p, hp, h2⟩
    · rw [Tr.get_set] at hm
      split at hm
      · rename_i e; subst e; simp only [Option.some.injEq] at hm; subst hm
        exact .inr ⟨_, List.mem_cons_self .., rfl⟩
      · exact .inl hm
    · exact .inr ⟨p, List.mem_cons_of_mem _ hp, h2⟩

theorem get_none_lows {x : Bn} (h : s.get x = none) : lows s.lo x = none := by
  unfold St.get at h
  split at h
  · cases h
  · exact h

theorem laid_rel (hrel : Rel E ρ s w) (hext : Ext s0 ρ0 w0 s ρ w) {h' : Tr AO} {Q : List (Nat × Bn × AO)} (hh : ∀ x o, h'.get x = some o → s.h.get x = some o ∨ ∃ p ∈ Q, p.2 = (x, o)) (hn : ∀ p ∈ Q, s.get p.2.1 = none)
    (hq : ∀ p ∈ Q, ∃ L, ρ p.2.1 = some L ∧ OR E ρ p.2.2 L w ∧ w0.heap.size ≤ L.b ∧ (∀ a' o' L', s.get a' = some o' → ρ a' = some L' → L'.b ≠ L.b) ∧ (∀ q ∈ Q, ∀ L', ρ q.2.1 = some L' → L'.b = L.b → q = p)) :
    Rel E ρ ⟨h', s.lo, s.nx⟩ w ∧ Ext s0 ρ0 w0 ⟨h', s.lo, s.nx⟩ ρ w := by
  have split' : ∀ x o, (⟨h', s.lo, s.nx⟩ : St).get x = some o → s.get x = some o ∨ ∃ p ∈ Q, p.2 = (x, o) := by
    intro x o hg
    unfold St.get at hg
    simp only at hg
    split at hg
    · rename_i o' ho'
      simp only [Option.some.injEq] at hg
      subst hg
      rcases hh x _ ho' with h | h
      · exact .inl (St.get_of_h h)
      · exact .inr h
    · left
      unfold St.get
      split
      · rename_i o' ho'
        have := hrel.sep x o' ho'
        rw [this] at hg; cases hg
      · exact hg
  refine ⟨⟨hrel.fresh, fun x o hg => ?_, fun x x' o o' L L' hg hg' hL hL' e => ?_, hrel.glob, fun x o hg => ?_⟩, { hext with wr := fun bb hb ⟨x, o, L, hg, hL, hbb⟩ => ?_ }⟩
  · rcases split' x o hg with h | ⟨p, hp, e⟩
    · exact hrel.obj x o h
    · obtain ⟨L, q1, q2, _⟩ := hq p hp
      rw [e] at q1 q2
      exact ⟨L, q1, q2⟩
  · rcases split' x o hg with h | ⟨p, hp, e1⟩ <;> rcases split' x' o' hg' with h' | ⟨p', hp', e1'⟩
    · exact hrel.inj x x' o o' L L' h h' hL hL' e
    · obtain ⟨M, q1, q2, q3, q4, q5⟩ := hq p' hp'
      rw [e1'] at q1
      rw [hL'] at q1; cases q1
      exact absurd e (q4 x o L h hL)
    · obtain ⟨M, q1, q2, q3, q4, q5⟩ := hq p hp
      rw [e1] at q1
      rw [hL] at q1; cases q1
      exact absurd e.symm (q4 x' o' L' h' hL')
    · obtain ⟨M, q1, q2, q3, q4, q5⟩ := hq p hp
      rw [e1] at q1
      rw [hL] at q1; cases q1
      have := q5 p' hp' L' (by rw [e1']; exact hL') e.symm
      subst this
      rw [e1] at e1'
      simp only [Prod.mk.injEq] at e1'
      exact e1'.1
  · simp only at hg
    rcases hh x o hg with h | ⟨p, hp, e⟩
    · exact hrel.sep x o h
    · have := get_none_lows (hn p hp)
      rw [e] at this
      exact this
  · simp only at hg
    rcases hh x o hg with h | ⟨p, hp, e⟩
    · exact hext.wr bb hb ⟨x, o, L, h, hL, hbb⟩
    · obtain ⟨M, q1, q2, q3, _⟩ := hq p hp
      rw [e] at q1
      rw [hL] at q1; cases q1
      omega

theorem allIn_spec {m : Nat} : ∀ {ms : List Nat} {i : Nat}, allIn m ms = true → natIn i ms = true → m.testBit i = true
  | [], i, _, h => by simp [natIn] at h
  | x :: l, i, ha, h => by
    simp only [allIn, Bool.and_eq_true] at ha
    simp only [natIn, Bool.or_eq_true, beq_iff_eq] at h
    rcases h with rfl | h
    · exact ha.1
    · exact allIn_spec ha.2 h

theorem mayFollow_mem {m : Nat} : ∀ {met : List Met} {n : Nat} {x : Met}, nth met n = some x → x.r = true → m.testBit x.i = false → x.i ∈ mayFollow m met
  | [], n, x, h, _, _ => by cases n <;> simp [nth] at h
  | y :: l, 0, x, h, hr, hm => by
    simp only [nth, Option.some.injEq] at h
    subst h
    simp [mayFollow, hr, hm]
  | y :: l, n + 1, x, h, hr, hm => by
    simp only [nth] at h
    simp only [mayFollow]
    split
    · exact List.mem_cons_of_mem _ (mayFollow_mem h hr hm)
    · exact mayFollow_mem h hr hm

/-- ahead of an effect: the blocks that it may see are laid -/
theorem DrI.lay {j m : Nat} {ms : List Nat} (h : DrI E X ops bs tmps0 s0 ρ0 w0 m0 b k cs0 (j :: rest) met [] pd scr ke f s ρ w a) (hm : nth bs j = some m) (hms : allIn m ms = true) :
    Rel E ρ ⟨(Ex.lay ms s.h pd).1, s.lo, s.nx⟩ w ∧ Ext s0 ρ0 w0 ⟨(Ex.lay ms s.h pd).1, s.lo, s.nx⟩ ρ w := by
  have hdone : ∀ p ∈ pd, natIn p.1 ms = true → p.1 ∉ j :: rest := fun p _ hp => h.ord.1 m hm p.1 (allIn_spec hms hp)
  refine laid_rel (Q := pd.filter fun p => natIn p.1 ms) h.rel h.ext (fun x o hg => ?_) (fun p hp => (h.pdn p (List.mem_filter.1 hp).1).1) (fun p hp => ?_)
  · rcases lay_get hg with h1 | ⟨p, hp, h1, h2⟩
    · exact .inl h1
    · exact .inr ⟨p, List.mem_filter.2 ⟨hp, h1⟩, h2⟩
  · obtain ⟨hp1, hp2⟩ := List.mem_filter.1 hp
    obtain ⟨L, q1, q2, q3, q4, q5⟩ := h.pdx p hp1 (hdone p hp1 hp2)
    exact ⟨L, q1, q2, q3, q4, fun q hq => q5 q (List.mem_filter.1 hq).1 (hdone q (List.mem_filter.1 hq).1 (List.mem_filter.1 hq).2)⟩

/-- behind an effect -/
theorem DrI.after {j m : Nat} {ms : List Nat} (h : DrI E X ops bs tmps0 s0 ρ0 w0 m0 b k cs0 (j :: rest) met [] pd scr ke f s ρ w a) {o : Oper} {d : Option Bn} {v : AV} {cv : Value} (ho : ops[j]? = some o) (hm : nth bs j = some m)
    (hni : j ∉ orderOf met) (hap : apartAll m o.dst (looks ops o) met = true) (hd : X.dst o.dst d = true) (hms : allIn m ms = true) {f' : Fr} {s' : St} {ρ' : Rho} {w' : World} {a' : Act} (hrel : Rel E ρ' s' w')
    (hext : Ext ⟨(Ex.lay ms s.h pd).1, s.lo, s.nx⟩ ρ w s' ρ' w') (hfr : FrR E X ρ' (bare f') a' b cs0) (htm : a'.tmps = a.tmps) (hVR : VR E.σ ρ' v cv)
    (hst : Steps E.P (lone (b.atR a (.inRegion ops (j :: rest) :: k)) (marked f.rc cs0) w) (lone (b.atR (a'.put o.dst cv) (.inRegion ops rest :: k)) (marked f'.rc cs0) w')) :
    DrI E X ops bs tmps0 s0 ρ0 w0 m0 b k cs0 rest (⟨j, o.dst, looks ops o, false⟩ :: met) (mayFollow m met) (Ex.lay ms s.h pd).2 (v :: scr) (kp ke d v) { f' with env := f.env } s' ρ' w' (a'.put o.dst cv) := by
  have hlt : j < ops.size := (Array.getElem?_eq_some_iff.1 ho).1
  have hjr : j ∉ rest := (List.nodup_cons.1 h.nodup).1
  obtain ⟨l1, l2⟩ := h.lay hm hms
  have hsub : ∀ p, p ∈ (Ex.lay ms s.h pd).2 → p ∈ pd ∧ natIn p.1 ms = false := fun p hp => lay_rest.1 hp
  have hpj : ∀ p ∈ pd, p.1 ≠ j := fun p hp e => hni (by rw [← e]; exact h.pdm p hp)
  have hmj : ∀ {n x}, nth met n = some x → x.i ≠ j := fun hx e => hni (by rw [← e]; exact mem_order hx)
  have hle := hext.le
  have hnw : ∀ p ∈ pd, natIn p.1 ms = false → p.1 ∉ j :: rest → ∀ L, ρ p.2.1 = some L → ¬ Wr ⟨(Ex.lay ms s.h pd).1, s.lo, s.nx⟩ ρ L.b := by
    rintro p hp hpm hpr L hL ⟨x, q, L', hg, hL', hbb⟩
    obtain ⟨M, q1, q2, q3, q4, q5⟩ := h.pdx p hp hpr
    rw [hL] at q1; cases q1
    rcases lay_get hg with h1 | ⟨p', hp', h1, h2⟩
    · exact q4 x q L' (St.get_of_h h1) hL' hbb
    · have := q5 p' hp' (h.ord.1 m hm _ (allIn_spec hms h1)) L' (by rw [h2]; exact hL') hbb
      subst this
      rw [hpm] at h1; cases h1
  have hWup : ∀ {t n}, Wt rest met t n ↔ Wt (j :: rest) met t n := by
    intro t n
    constructor
    · rintro ⟨y, h1, h2, h3⟩
      exact ⟨y, h1, fun hc => by exact (List.mem_cons.1 hc).elim (fun q => hmj h1 q) (fun q => h2 q), h3⟩
    · rintro ⟨y, h1, h2, h3⟩
      exact ⟨y, h1, fun hc => h2 (List.mem_cons_of_mem _ hc), h3⟩
  have hW0 : ∀ {t}, o.dst = some t → Wt rest (⟨j, o.dst, looks ops o, false⟩ :: met) t 0 := fun ht => ⟨_, rfl, hjr, ht⟩
  have hN : X.N ≤ a'.tmps.size := hfr.size
  refine { mok := h.mok.push false ho hm hni hap (dst_ltN hd), len := by simp [h.len], ord := h.ord.2, nodup := (List.nodup_cons.1 h.nodup).2, lt := fun i hi => h.lt i (List.mem_cons_of_mem _ hi), done := ?_, down := ?_,
           t1 := ?_, t0 := ?_, env0 := h.env0.mono hle, size0 := by rw [put_size, htm]; exact h.size0, rel := hrel, ext := l2.trans hext, fr := hfr.putb _ _, ke := ke_push h.ke hd, pdm := ?_, pdi := ?_, pdd := ?_, pdn := ?_, pdu := ?_, pdx := ?_,
           debt := ?_, steps := h.steps.trans hst }
  · intro i hi hir
    by_cases e : i = j
    · subst e; exact List.mem_cons_self ..
    · exact List.mem_cons_of_mem _ (h.done i hi fun hc => by exact (List.mem_cons.1 hc).elim (fun q => e q) (fun q => hir q))
  · intro i hi hir m' hm' j' hj'
    by_cases e : i = j
    · subst e
      exact fun hc => h.ord.1 m' hm' j' hj' (List.mem_cons_of_mem _ hc)
    · have := h.down i hi (fun hc => by exact (List.mem_cons.1 hc).elim (fun q => e q) (fun q => hir q)) m' hm' j' hj'
      exact fun hc => this (List.mem_cons_of_mem _ hc)
  · intro t n u hW hnew hu
    cases n with
    | zero =>
      obtain ⟨y, h1, h2, h3⟩ := hW
      simp only [nth, Option.some.injEq] at h1 hu
      subst h1; subst hu
      simp only at h3
      rw [h3, put_same (by have := dst_ltN hd t h3; omega)]
      exact hVR
    | succ n =>
      have hne : o.dst ≠ some t := fun e => hnew 0 (by omega) (hW0 e)
      simp only [nth] at hu
      rw [put_other hne, htm]
      exact VR.mono hle _ _ (h.t1 t n u (hWup.1 hW) (fun n' hn' hW' => hnew (n' + 1) (by omega) (hWup.2 hW')) hu)
  · intro bb u hc hg hW
    have hne : o.dst ≠ some bb.val := fun e => hW 0 (hW0 e)
    rw [put_other hne, htm]
    exact VR.mono hle _ _ (h.t0 bb u hc hg fun n hW' => hW (n + 1) (hWup.2 hW'))
  · exact fun p hp => List.mem_cons_of_mem _ (h.pdm p (hsub p hp).1)
  · exact fun p hp q hq => h.pdi p (hsub p hp).1 q (hsub q hq).1
  · exact fun p hp q hq => h.pdd p (hsub p hp).1 q (hsub q hq).1
  · intro p hp
    obtain ⟨hp1, hp2⟩ := hsub p hp
    obtain ⟨q1, q2, q3⟩ := h.pdn p hp1
    refine ⟨?_, Nat.lt_of_lt_of_le q2 hext.nx, q3⟩
    cases hg : s'.get p.2.1 with
    | none => rfl
    | some o' =>
      exfalso
      obtain ⟨L, hL, hO⟩ := hrel.obj _ _ hg
      have hold : ρ' p.2.1 = ρ p.2.1 := hext.old _ q2
      by_cases hpr : p.1 ∈ j :: rest
      · rw [hold, h.pdu p hp1 hpr] at hL; cases hL
      · rw [hold] at hL
        obtain ⟨M, r1, r2, _⟩ := h.pdx p hp1 hpr
        rw [hL] at r1; cases r1
        unfold St.get at hg
        split at hg
        · rename_i o2 ho2
          exact hnw p hp1 hp2 hpr L hL (hext.wr _ r2.lt ⟨_, _, L, ho2, by rw [hold]; exact hL, rfl⟩)
        · rw [hext.lo] at hg
          simp only at hg
          rw [get_none_lows q1] at hg; cases hg
  · intro p hp hpr
    obtain ⟨hp1, hp2⟩ := hsub p hp
    rw [hext.old _ (h.pdn p hp1).2.1]
    exact h.pdu p hp1 (List.mem_cons_of_mem _ hpr)
  · intro p hp hpr
    obtain ⟨hp1, hp2⟩ := hsub p hp
    have nin : ∀ q ∈ pd, q.1 ∉ rest → q.1 ∉ j :: rest := fun q hq hqr hc => by exact (List.mem_cons.1 hc).elim (fun z => hpj q hq z) (fun z => hqr z)
    obtain ⟨L, q1, q2, q3, q4, q5⟩ := h.pdx p hp1 (nin p hp1 hpr)
    have hw' := hnw p hp1 hp2 (nin p hp1 hpr) L q1
    refine ⟨L, hle _ _ q1, q2.mono hle (hext.same _ q2.lt hw'), q3, fun x q L' hg hL' e => ?_, fun q hq hqr L' hL' e => ?_⟩
    · unfold St.get at hg
      split at hg
      · rename_i o2 ho2
        exact hw' (hext.wr _ q2.lt ⟨x, o2, L', ho2, hL', e⟩)
      · rw [hext.lo] at hg
        simp only at hg
        have ⟨o3, h3⟩ : ∃ o3, s.get x = some o3 := by
          unfold St.get
          split
          · exact ⟨_, rfl⟩
          · exact ⟨_, hg⟩
        obtain ⟨L2, hL2, _⟩ := h.rel.obj x o3 h3
        have := hle _ _ hL2
        rw [hL'] at this; cases this
        exact q4 x o3 L' h3 hL2 e
    · obtain ⟨hq1, hq2⟩ := hsub q hq
      obtain ⟨L2, r1, _⟩ := h.pdx q hq1 (nin q hq1 hqr)
      have := hle _ _ r1
      rw [hL'] at this; cases this
      exact q5 q hq1 (nin q hq1 hqr) L' r1 e
  · intro n x u hx hxr hu
    cases n with
    | zero =>
      simp only [nth, Option.some.injEq] at hx
      subst hx
      exact absurd hxr hjr
    | succ n =>
      simp only [nth] at hx hu
      have hxr' : x.i ∈ j :: rest := List.mem_cons_of_mem _ hxr
      have hmb : m.testBit x.i = false := by
        cases hq : m.testBit x.i with
        | false => rfl
        | true => exact absurd hxr' (h.ord.1 m hm _ hq)
      rcases h.debt n x u hx hxr' hu with ⟨hq, _⟩ | ⟨o', m', c, g, e1, e2, e3, e4, e5⟩
      · cases hq
      · have hne : (∀ p ∈ pd, p.1 ≠ x.i) → ∀ p ∈ (Ex.lay ms s.h pd).2, p.1 ≠ x.i := fun hh p hp => hh p (hsub p hp).1
        have mk : (((∀ p ∈ (Ex.lay ms s.h pd).2, p.1 ≠ x.i) ∧ want g (scr.drop c) f.env = some false ∧ u = undefA) ∨ (want g (scr.drop c) f.env = some true ∧
            (((∀ p ∈ (Ex.lay ms s.h pd).2, p.1 ≠ x.i) ∧ ∃ k, X.pk E.P (ctxL m' (looks ops o') (met.drop c)) o'.op k = true ∧ pureOp k (scr.drop c) f.env = some u) ∨
             ((∀ p ∈ (Ex.lay ms s.h pd).2, p.1 ≠ x.i) ∧ x.r = true ∧ ∃ k, X.rk (ctxL m' (looks ops o') (met.drop c)) o'.op k = true ∧ readOp k s' (scr.drop c) f.env = some u) ∨
             (∃ k nm ob, X.mk' (ctxL m' (looks ops o') (met.drop c)) o'.op k = true ∧ makeOp k nm (scr.drop c) f.env = some (u, ob) ∧ (x.i, nm, ob) ∈ (Ex.lay ms s.h pd).2)))) →
            Debt X E.P ops bs (⟨j, o.dst, looks ops o, false⟩ :: met) (Ex.lay ms s.h pd).2 (v :: scr) f.env s' (n + 1) x u := fun hh => by
          refine ⟨o', m', c + 1, g, e1, e2, by omega, by simpa using e4, ?_⟩
          simp only [List.drop_succ_cons]
          exact hh
        rcases e5 with ⟨z1, z2⟩ | ⟨z0, ⟨z1, z2⟩ | ⟨z1, z2, _⟩ | ⟨kk, nm, ob, z1, z2, z3⟩⟩
        · exact .inr (mk (.inl ⟨hne z1, z2⟩))
        · exact .inr (mk (.inr ⟨z0, .inl ⟨hne z1, z2⟩⟩))
        · exact .inl ⟨mayFollow_mem hx z2 hmb, z2, hne z1⟩
        · refine .inr (mk (.inr ⟨z0, .inr (.inr ⟨kk, nm, ob, z1, z2, lay_rest.2 ⟨z3, ?_⟩⟩)⟩))
          cases hq : natIn x.i ms with
          | false => rfl
          | true => rw [allIn_spec hms hq] at hmb; cases hmb

/-- a read is read again -/
theorem DrI.rc {r : Nat} {need' : List Nat} (h : DrI E X ops bs tmps0 s0 ρ0 w0 m0 b k cs0 rest met (r :: need') pd scr ke f s ρ w a) {o : Oper} {m n : Nat} {g : Option (AOpd × Bool)} {kk : RK} {u : AV} (ho : ops[r]? = some o)
    (hm : nth bs r = some m) (hk : X.rk (ctxL m (looks ops o) met) o.op kk = true) (hg : X.guard (ctxL m (looks ops o) met) ops o.guard g = true) (hn : nth (orderOf met) n = some r) (hu : nth scr n = some u)
    (hv : (want g scr f.env = some false ∧ u = undefA) ∨ (want g scr f.env = some true ∧ readOp kk s scr f.env = some u)) :
    DrI E X ops bs tmps0 s0 ρ0 w0 m0 b k cs0 rest met need' pd scr ke f s ρ w a := by
  refine { h with debt := fun n1 x v1 hx hxr hv1 => ?_ }
  rcases h.debt n1 x v1 hx hxr hv1 with ⟨h1, h2, h3⟩ | h1
  · rcases List.mem_cons.1 h1 with e | h1
    · obtain ⟨x', hx', hxi'⟩ := nth_order hn
      have := h.mok.inj n1 n x x' hx hx' (by rw [e, hxi'])
      subst this
      rw [hu] at hv1
      cases hv1
      refine .inr ⟨o, m, 0, g, by rw [e]; exact ho, by rw [e]; exact hm, by omega, by simpa using hg, ?_⟩
      simp only [List.drop_zero]
      rcases hv with ⟨q1, q2⟩ | ⟨q1, q2⟩
      · exact .inl ⟨h3, q1, q2⟩
      · exact .inr ⟨q1, .inr (.inl ⟨h3, h2, kk, hk, q2⟩)⟩
    · exact .inl ⟨h1, h2, h3⟩
  · exact .inr h1

/-- all is done -/
theorem DrI.finish (h : DrI E X ops bs tmps0 s0 ρ0 w0 m0 b k cs0 [] met [] pd scr ke f s ρ w a) : Ld E X ρ0 s0 w0 m0 b k cs0 (.n { f with env := ke } ⟨layAll s.h pd, s.lo, s.nx⟩) := by
  obtain ⟨r1, r2⟩ := laid_rel (Q := pd) (h' := layAll s.h pd) h.rel h.ext (fun x o hg => layAll_get hg) (fun p hp => (h.pdn p hp).1) (fun p hp => by
    obtain ⟨L, q1, q2, q3, q4, q5⟩ := h.pdx p hp (by simp)
    exact ⟨L, q1, q2, q3, q4, fun q hq => q5 q hq (by simp)⟩)
  have hf : FrR E X ρ { f with env := ke } a b cs0 := by
    refine FrR.full (f := { f with env := ke }) h.fr fun bb v hc hg => ?_
    obtain ⟨q1, q2⟩ := h.ke bb v hc hg
    refine ⟨q1, ?_⟩
    cases hi : idx (dsts met) bb.val with
    | none =>
      rw [hi] at q2
      refine h.t0 bb v hc q2 fun n ⟨y, h1, h2, h3⟩ => ?_
      exact idx_none hi n (nth_dsts.2 ⟨y, h1, h3⟩)
    | some n =>
      rw [hi] at q2
      obtain ⟨p1, p2⟩ := idx_some hi
      obtain ⟨y, h1, h3⟩ := nth_dsts.1 p1
      exact h.t1 _ n v ⟨y, h1, by simp, h3⟩ (fun n' hn' ⟨y', h1', _, h3'⟩ => p2 n' hn' (nth_dsts.2 ⟨y', h1', h3'⟩)) q2
  exact ⟨ρ, w, a, r1, r2, hf, h.steps.trans (.one stepR_region_end)⟩

theorem lastE_spec {m j : Nat} (h : lastE m (some j) = true) : m.testBit j = true := h

/-- what is met behind an effect must come behind it -/
theorem later {P : Program} : ∀ {ds : List DE} {met : List Met} {j : Nat} {need : List Nat}, X.dr P ops bs ds met (some j) need = true → ∀ {i : Nat}, i < ops.size → i ∉ orderOf met →
    ∃ q m, nth bs i = some m ∧ m.testBit q = true ∧ (q = j ∨ (q < ops.size ∧ q ∉ orderOf met))
  | [], met, j, need, h, i, hi, hn => by
    simp only [Cx.dr, Bool.and_eq_true] at h
    exact absurd (covers_spec h.2 hi) hn
  | .rc n g kk :: l, met, j, need, h, i, hi, hn => by
    cases need with
    | nil => simp [Cx.dr] at h
    | cons r need' =>
      simp only [Cx.dr, Bool.and_eq_true] at h
      exact later h.2 hi hn
  | .p i' x :: l, met, j, need, h, i, hi, hn => by
    simp only [Cx.dr, Bool.and_eq_true] at h
    obtain ⟨_, h⟩ := h
    split at h
    · rename_i o m ho hm
      simp only [Bool.and_eq_true] at h
      obtain ⟨⟨_, hl⟩, h⟩ := h
      by_cases e : i = i'
      · subst e; exact ⟨j, m, hm, lastE_spec hl, .inl rfl⟩
      · obtain ⟨q, m', h1, h2, h3⟩ := later h hi (fun hc => by exact (List.mem_cons.1 hc).elim (fun q => e q) (fun q => hn q))
        exact ⟨q, m', h1, h2, h3.imp id fun ⟨u1, u2⟩ => ⟨u1, fun hc => u2 (List.mem_cons_of_mem _ hc)⟩⟩
    · cases h
  | .m i' x :: l, met, j, need, h, i, hi, hn => by
    simp only [Cx.dr, Bool.and_eq_true] at h
    obtain ⟨_, h⟩ := h
    split at h
    · rename_i o m ho hm
      simp only [Bool.and_eq_true] at h
      obtain ⟨⟨_, hl⟩, h⟩ := h
      by_cases e : i = i'
      · subst e; exact ⟨j, m, hm, lastE_spec hl, .inl rfl⟩
      · obtain ⟨q, m', h1, h2, h3⟩ := later h hi (fun hc => by exact (List.mem_cons.1 hc).elim (fun q => e q) (fun q => hn q))
        exact ⟨q, m', h1, h2, h3.imp id fun ⟨u1, u2⟩ => ⟨u1, fun hc => u2 (List.mem_cons_of_mem _ hc)⟩⟩
    · cases h
  | .e i' ms x :: l, met, j, need, h, i, hi, hn => by
    simp only [Cx.dr, Bool.and_eq_true] at h
    obtain ⟨_, h⟩ := h
    split at h
    · rename_i o m ho hm
      simp only [Bool.and_eq_true, Bool.not_eq_true'] at h
      obtain ⟨⟨⟨⟨⟨_, hni⟩, _⟩, hl⟩, _⟩, h⟩ := h
      by_cases e : i = i'
      · subst e; exact ⟨j, m, hm, lastE_spec hl, .inl rfl⟩
      · obtain ⟨q, m', h1, h2, h3⟩ := later h hi (fun hc => by exact (List.mem_cons.1 hc).elim (fun q => e q) (fun q => hn q))
        refine ⟨q, m', h1, h2, .inr ?_⟩
        rcases h3 with rfl | ⟨u1, u2⟩
        · refine ⟨(Array.getElem?_eq_some_iff.1 ho).1, fun hc => ?_⟩
          rw [natIn_iff.2 hc] at hni; cases hni
        · exact ⟨u1, fun hc => u2 (List.mem_cons_of_mem _ hc)⟩
    · cases h

theorem noPan_spec {v : AV} {f : Fr} {s : St} : ∀ {outs : List EOut}, noPan outs = true → EOut.p v f s ∉ outs
  | [], _, h => by cases h
  | x :: l, hp, h => by
    cases x with
    | p _ _ _ => simp [noPan] at hp
    | v _ _ _ =>
      simp only [noPan] at hp
      rcases List.mem_cons.1 h with h | h
      · cases h
      · exact noPan_spec hp h
    | x _ =>
      simp only [noPan] at hp
      rcases List.mem_cons.1 h with h | h
      · cases h
      · exact noPan_spec hp h

theorem skip_rel {o : Bn} (ho : s.nx.val ≤ o.val) (hrel : Rel E ρ s w) (hext : Ext s0 ρ0 w0 s ρ w) : Rel E ρ ⟨s.h, s.lo, o⟩ w ∧ Ext s0 ρ0 w0 ⟨s.h, s.lo, o⟩ ρ w :=
  ⟨⟨fun a ha => hrel.fresh a (Nat.le_trans ho ha), hrel.obj, hrel.inj, hrel.glob, hrel.sep⟩, { hext with nx := Nat.le_trans hext.nx ho }⟩

theorem dr_main (hx : XOk E X) {e : Ev} (he : EvOk E e) : ∀ (N : Nat) (ds : List DE) (rest : List Nat) (met : List Met) (eff : Option Nat) (need : List Nat) (pd : List (Nat × Bn × AO)) (scr : List AV) (ke : Tr AV) (f : Fr)
    (s : St) (ρ : Rho) (w : World) (a : Act), ds.length + rest.length = N → X.dr E.P ops bs ds met eff need = true → DrI E X ops bs tmps0 s0 ρ0 w0 m0 b k cs0 rest met need pd scr ke f s ρ w a →
    Lands E X ρ0 s0 w0 m0 b k cs0 (runDr e ds pd scr ke f s) := by
  intro N
  induction N using Nat.strongRecOn with
  | _ N ih =>
    intro ds rest met eff need pd scr ke f s ρ w a hN hdr h
    cases need with
    | cons r need' =>
      cases ds with
      | nil => simp [Cx.dr] at hdr
      | cons d l =>
        cases d with
        | p i x => simp [Cx.dr] at hdr
        | m i x => simp [Cx.dr] at hdr
        | e i ms x => simp [Cx.dr] at hdr
        | rc n g kk =>
          simp only [Cx.dr, Bool.and_eq_true] at hdr
          obtain ⟨h1, hdr⟩ := hdr
          split at h1
          · rename_i o m ho hm
            simp only [Bool.and_eq_true] at h1
            obtain ⟨⟨hk, hg⟩, hn⟩ := h1
            have hn' : nth (orderOf met) n = some r := by
              unfold isNat at hn
              split at hn
              · rename_i q hq _
                simp only [Nat.beq_eq] at hn
                subst hn
                assumption
              · cases hn
            have hlen : l.length + rest.length < N := by simp at hN; omega
            unfold runDr
            split
            · exact Lands.bad
            · rename_i hw
              split
              · rename_i u hu
                split
                · rename_i hb
                  exact ih _ hlen l rest met eff need' pd scr ke f s ρ w a rfl hdr (h.rc ho hm hk hg hn' hu (.inl ⟨hw, AV.beq_eq hb⟩))
                · exact Lands.bad
              · exact Lands.bad
            · rename_i hw
              split
              · rename_i v hv
                split
                · rename_i u hu
                  split
                  · rename_i hb
                    have := AV.beq_eq hb
                    subst this
                    exact ih _ hlen l rest met eff need' pd scr ke f s ρ w a rfl hdr (h.rc ho hm hk hg hn' hu (.inr ⟨hw, hv⟩))
                  · exact Lands.bad
                · exact Lands.bad
              · exact Lands.bad
          · cases h1
    | nil =>
      by_cases hin : ∃ i rest', rest = i :: rest' ∧ i ∈ orderOf met
      · obtain ⟨i, rest', rfl, hi⟩ := hin
        obtain ⟨ρ', w', a', h'⟩ := h.step hx hi
        exact ih _ (by simp at hN; omega) ds rest' met eff [] pd scr ke f s ρ' w' a' rfl hdr h'
      · cases ds with
        | nil =>
          simp only [Cx.dr, Bool.and_eq_true] at hdr
          cases rest with
          | nil => exact Lands.single h.finish
          | cons i rest' => exact absurd ⟨i, rest', rfl, covers_spec hdr.2 (h.lt i (List.mem_cons_self ..))⟩ hin
        | cons d l =>
          have hlen : l.length + rest.length < N := by simp at hN; omega
          cases d with
          | rc n g kk => simp [Cx.dr] at hdr
          | p i x =>
            simp only [Cx.dr, Bool.and_eq_true] at hdr
            obtain ⟨_, hdr⟩ := hdr
            split at hdr
            · rename_i o m ho hm
              simp only [Bool.and_eq_true, Bool.not_eq_true', Cx.ap] at hdr
              obtain ⟨⟨⟨⟨⟨⟨⟨hak, hg⟩, hd⟩, _⟩, hni⟩, hap⟩, _⟩, hdr⟩ := hdr
              have hni' : i ∉ orderOf met := fun hc => by rw [natIn_iff.2 hc] at hni; cases hni
              have hpd : ∀ p ∈ pd, p.1 ≠ i := fun p hp e => hni' (by rw [← e]; exact h.pdm p hp)
              have go : ∀ v, Debt X E.P ops bs (⟨i, o.dst, looks ops o, isR x.k⟩ :: met) pd (v :: scr) f.env s 0 ⟨i, o.dst, looks ops o, isR x.k⟩ v → Lands E X ρ0 s0 w0 m0 b k cs0 (runDr e l pd (v :: scr) (kp ke x.d v) f s) := fun v hdeb =>
                ih _ hlen l rest _ eff [] pd (v :: scr) _ f s ρ w a rfl hdr (h.push ho hm hni' hap hd (fun _ => rfl) h.rel h.ext (Nat.le_refl _) (.inl rfl) hdeb)
              unfold runDr
              split
              · exact Lands.bad
              · rename_i hw
                exact go _ ⟨o, m, 1, x.g, ho, hm, by omega, hg, .inl ⟨hpd, hw, rfl⟩⟩
              · rename_i hw
                split
                · rename_i kk hkk
                  split
                  · rename_i v hv
                    rw [hkk] at hak
                    exact go _ ⟨o, m, 1, x.g, ho, hm, by omega, hg, .inr ⟨hw, .inl ⟨hpd, kk, hak, hv⟩⟩⟩
                  · exact Lands.bad
                · rename_i kk hkk
                  split
                  · rename_i v hv
                    rw [hkk] at hak
                    exact go _ ⟨o, m, 1, x.g, ho, hm, by omega, hg, .inr ⟨hw, .inr (.inl ⟨hpd, by simp only [hkk]; rfl, kk, hak, hv⟩)⟩⟩
                  · exact Lands.bad
                · exact Lands.bad
            · cases hdr
          | m i x =>
            simp only [Cx.dr, Bool.and_eq_true] at hdr
            obtain ⟨_, hdr⟩ := hdr
            split at hdr
            · rename_i o m ho hm
              simp only [Bool.and_eq_true, Bool.not_eq_true', Cx.ap] at hdr
              obtain ⟨⟨⟨⟨⟨⟨⟨hak, hg⟩, hd⟩, _⟩, hni⟩, hap⟩, _⟩, hdr⟩ := hdr
              have hni' : i ∉ orderOf met := fun hc => by rw [natIn_iff.2 hc] at hni; cases hni
              have hpd : ∀ p ∈ pd, p.1 ≠ i := fun p hp e => hni' (by rw [← e]; exact h.pdm p hp)
              unfold runDr
              split
              · exact Lands.bad
              · rename_i hw
                exact ih _ hlen l rest _ eff [] pd (undefA :: scr) _ f s ρ w a rfl hdr
                  (h.push ho hm hni' hap hd (fun _ => rfl) h.rel h.ext (Nat.le_refl _) (.inl rfl) ⟨o, m, 1, x.g, ho, hm, by omega, hg, .inl ⟨hpd, hw, rfl⟩⟩)
              · rename_i hw
                split
                · rename_i kk hkk
                  split
                  · rename_i v ob hv
                    rw [hkk] at hak
                    obtain ⟨r1, r2⟩ := skip_rel (o := s.nx.succ) (by rw [Bn.val_succ]; omega) h.rel h.ext
                    exact ih _ hlen l rest _ eff [] ((i, s.nx, ob) :: pd) (v :: scr) _ f ⟨s.h, s.lo, s.nx.succ⟩ ρ w a rfl hdr
                      (h.push ho hm hni' hap hd (fun _ => rfl) r1 r2 (by simp only [Bn.val_succ]; omega) (.inr ⟨ob, rfl, rfl⟩)
                        ⟨o, m, 1, x.g, ho, hm, by omega, hg, .inr ⟨hw, .inr (.inr ⟨kk, s.nx, ob, hak, hv, List.mem_cons_self ..⟩)⟩⟩)
                  · exact Lands.bad
                · exact Lands.bad
            · cases hdr
          | e i ms x =>
            simp only [Cx.dr, Bool.and_eq_true] at hdr
            obtain ⟨_, hdr⟩ := hdr
            split at hdr
            · rename_i o m ho hm
              simp only [Bool.and_eq_true, Bool.not_eq_true', Cx.ap] at hdr
              obtain ⟨⟨⟨⟨⟨⟨⟨⟨hak, hg⟩, hd⟩, _⟩, hni⟩, hap⟩, _⟩, hms⟩, hdr⟩ := hdr
              have hni' : i ∉ orderOf met := fun hc => by rw [natIn_iff.2 hc] at hni; cases hni
              have hlt : i < ops.size := (Array.getElem?_eq_some_iff.1 ho).1
              -- the machine's next operation is this one
              have ⟨rest', hr⟩ : ∃ rest', rest = i :: rest' := by
                cases rest with
                | nil => exact absurd (h.done i hlt (by simp)) hni'
                | cons i' rest' =>
                  by_cases e : i' = i
                  · exact ⟨rest', by rw [e]⟩
                  · exfalso
                    have hn' : i' ∉ orderOf met := fun hc => hin ⟨i', rest', rfl, hc⟩
                    obtain ⟨q, m', h1, h2, h3⟩ := later hdr (h.lt i' (List.mem_cons_self ..)) (fun hc => by exact (List.mem_cons.1 hc).elim (fun q => e q) (fun q => hn' q))
                    have hq := h.ord.1 m' h1 q h2
                    rcases h3 with rfl | ⟨u1, u2⟩
                    · exact hni' (h.done q hlt hq)
                    · exact u2 (List.mem_cons_of_mem _ (h.done q u1 hq))
              subst hr
              have hlen' : l.length + rest'.length < N := by simp at hlen; omega
              have H : ∀ n' y t, nth met n' = some y → y.i ∉ i :: rest' → y.d = some t → natIn t (looks ops o) = true → m.testBit y.i = true ∧ 0 ≤ n' := by
                intro n' y t hy _ hyd ht
                rcases apartAll_spec hap hy with hb | ⟨hb, _, _⟩
                · exact ⟨hb, Nat.zero_le _⟩
                · rw [hyd] at hb; exact absurd ht (fun ht => notIn_spec hb ht)
              have hev := see hx h.rel (L := looks ops o) (m := m) (c := 0) h.t1 h.t0 h.env0 h.size0 (fun j hj => h.ord.1 m hm j hj) H
              simp only [List.drop_zero] at hev
              have hwant : ∀ r, want x.g scr f.env = some r → Region.wanted o (yielded ops a.tmps) = r := fun r hr => by
                have := want_sound (a := { a with tmps := seeT (looks ops o) a.tmps tmps0 }) hev hg hr
                rw [← this]
                exact see_wanted.symm
              unfold runDr
              split
              · exact Lands.bad
              · rename_i hw
                have h' := h.after (ms := []) (v := undefA) (cv := undef) (f' := f) (s' := s) (ρ' := ρ) (w' := w) (a' := a) ho hm hni' hap hd rfl h.rel (by rw [lay_nil]; exact .refl _ _ _) h.fr rfl undefA_sound (.one (st_unwanted ho (hwant _ hw)))
                rw [lay_nil] at h'
                exact ih _ hlen' l rest' _ (some i) _ pd (undefA :: scr) _ f s ρ w _ rfl hdr h'
              · rename_i hw
                split
                · rename_i kk hkk
                  rw [hkk] at hak
                  simp only
                  split
                  · rename_i hnp
                    obtain ⟨r1, r2⟩ := h.lay hm hms
                    obtain ⟨q, hq, hl⟩ := ek_sound (a0 := { a with tmps := seeT (looks ops o) a.tmps tmps0 }) (k := k) (rest := rest') hx he r1 h.fr hev (see_sem (ek_nos hak)) ho (hwant _ hw) hak
                    cases q with
                    | x y => exact ⟨_, mem_bindE_x hq, trivial⟩
                    | p v f' s' => exact absurd hq (noPan_spec hnp)
                    | v v f' s' =>
                      obtain ⟨ρ', w', a', cv, h1, h2, h3, ⟨h4, h4'⟩, h5, h6⟩ := hl
                      have h' := h.after ho hm hni' hap hd hms h1 h2 h3 h4' h5 h6
                      obtain ⟨o', ho', hl'⟩ := ih _ hlen' l rest' _ (some i) _ _ _ _ _ s' ρ' w' _ rfl hdr h'
                      exact ⟨o', mem_bindE hq ho', hl'⟩
                  · exact Lands.bad
                · exact Lands.bad
            · cases hdr
end
end Go.Ex
/- All code; the evaluators are sound; what a call of a closed run comes to. -/
namespace Go.Ex
section
variable {E : Env} {X : Cx} {ρ : Rho} {s : St} {w : World} {f : Fr} {a : Act} {b : Frame} {cs0 : List Frame} {k : List Item} {e : Ev}

theorem Rel.drawn (h : Rel E ρ s w) (n : Nat) : Rel E ρ s { w with drawn := n } :=
  ⟨h.fresh, fun a o hg => let ⟨L, h1, h2⟩ := h.obj a o hg; ⟨L, h1, h2.mono (.refl _) rfl⟩, h.inj, h.glob, h.sep⟩

theorem dr_sound (hx : XOk E X) (he : EvOk E e) {id : Nat} {ops : Array Oper} {l : List DE} (h1 : X.dr E.P ops (befs ops.toList []) l [] none [] = true) (h2 : listed .any ops = true) (h3 : listed .text ops = true) (h4 : listed .gc ops = true)
    (hrel : Rel E ρ s w) (hf : FrR E X ρ f a b cs0) :
    Lands E X ρ s w (lone (b.atR a (.code (.region id ops true) :: k)) (marked f.rc cs0) w) b k cs0 (runDr e l [] [] f.env f s) := by
  obtain ⟨q1, q2, q3⟩ := sched_spec h2 h3 h4 (E.P.follows .mixedOrders) (w.tape w.drawn (.order b.fn id))
  have hext : Ext s ρ w s ρ { w with drawn := w.drawn + 1 } := ⟨.refl _, rfl, rfl, rfl, rfl, Nat.le_refl _, fun _ _ _ => rfl, fun _ _ h => h, fun _ _ => rfl, Nat.le_refl _⟩
  have noW : ∀ {rest : List Nat} {t n : Nat}, ¬ Wt rest [] t n := by
    rintro rest t n ⟨x, hx, _⟩
    cases n <;> simp [nth] at hx
  have nonth : ∀ {n : Nat} {x : Met}, nth ([] : List Met) n ≠ some x := by
    intro n x h
    cases n <;> simp [nth] at h
  refine dr_main (b := b) (k := k) (cs0 := cs0) (tmps0 := a.tmps) hx he _ l (Region.schedule (E.P.follows .mixedOrders) ops (w.tape w.drawn (.order b.fn id))) [] none [] [] [] f.env f s ρ { w with drawn := w.drawn + 1 } a rfl h1
    { mok := ⟨fun n x h => absurd h nonth, fun n n' x y m h => absurd h nonth, fun n n' x y h => absurd h nonth⟩, len := rfl, ord := ord_of q3 q1 [] _ rfl, nodup := q1, lt := fun i hi => (q2 i).1 hi,
      done := fun i hi hn => absurd ((q2 i).2 hi) hn, down := fun i hi hn => absurd ((q2 i).2 hi) hn, t1 := fun t n v h => absurd h noW, t0 := fun bb v hc hg _ => (hf.env bb v hc hg).2, env0 := hf.env, size0 := rfl,
      rel := hrel.drawn _, ext := hext, fr := hf.bare, ke := fun bb v hc hg => ⟨(hf.env bb v hc hg).1, hg⟩, pdm := by simp, pdi := by simp, pdd := by simp, pdn := by simp, pdu := by simp, pdx := by simp,
      debt := fun n x v h => absurd h nonth, steps := .one stepR_region_draw }

theorem code_sound (hx : XOk E X) (he : EvOk E e) {c : Code} {c' : AC} (hc : X.code E.P c c' = true) (hrel : Rel E ρ s w) (hf : FrR E X ρ f a b cs0) :
    Lands E X ρ s w (lone (b.atR a (.code c :: k)) (marked f.rc cs0) w) b k cs0 (runCode e c' f s) := by
  unfold Cx.code at hc
  split at hc
  · exact Lands.single ⟨ρ, w, a, hrel, .refl _ _ _, hf, .one stepR_skip⟩
  · exact Lands.single ⟨ρ, w, a, hrel, .refl _ _ _, hf, .one stepR_label⟩
  · rename_i id ops l
    have := ops_sound (k := k) hx he ops.toList l 0 [] [] f s ρ w a (by simp) hc hrel hf ScrR.nil
    refine Lands.pre (.refl _ _ _) (.one stepR_region) ?_
    have hr : List.range ops.size = List.range' 0 ops.toList.length := by simp [List.range_eq_range']
    rw [hr]
    exact this
  · rename_i id ops l
    simp only [Bool.and_eq_true] at hc
    exact dr_sound hx he hc.1.1.1 hc.1.1.2 hc.1.2 hc.2 hrel hf
  · simp only [Bool.and_eq_true] at hc
    exact seq_sound he hx hc.1 hc.2 hrel hf
  · rename_i c0 x y c1 x' y'
    simp only [Bool.and_eq_true] at hc
    have hev := evR_of (ctx := []) (scr := []) hx hrel hf.env ScrR.nil
    simp only [runCode]
    split
    · rename_i hv
      have h1 := hev _ _ _ hc.1.1 hv
      simp only [VR] at h1
      exact (he.cd k hx hc.1.2 hrel hf).pre (.refl _ _ _) (.one (stepR_cond h1))
    · rename_i hv
      have h1 := hev _ _ _ hc.1.1 hv
      simp only [VR] at h1
      exact (he.cd k hx hc.2 hrel hf).pre (.refl _ _ _) (.one (stepR_cond h1))
    · exact Lands.bad
  · simp only [Bool.and_eq_true, Nat.beq_eq] at hc
    obtain ⟨rfl, hc⟩ := hc
    exact block_sound he hx hc hrel hf
  · exact loop_sound he hx hc hrel hf (.one stepR_loop)
  · simp only [Bool.and_eq_true] at hc
    exact rf_sound hx he hc.1.1.1 hc.1.1.2 hc.1.2 hc.2 hrel hf
  · simp only [Nat.beq_eq] at hc
    subst hc
    exact Lands.single ⟨ρ, w, a, k, hrel, .refl _ _ _, hf, Keeps.refl _ _, .refl _ _⟩
  · exact scope_sound he hx hc hc hrel hf (.one st_scope)
  · simp only [Nat.beq_eq] at hc
    subst hc
    exact Lands.single ⟨ρ, w, a, k, hrel, .refl _ _ _, hf, Keeps.refl _ _, .refl _ _⟩
  · exact Lands.single ⟨ρ, w, a, k, hrel, .refl _ _ _, hf, Keeps.refl _ _, .refl _ _⟩
  · cases hc

theorem mkEv_ok (hok : TyOk E.P E.ty) {tbl : Bn → Option AF} (htbl : TblOk E tbl) (he : EvOk E e) : EvOk E (mkEv tbl e) where
  cd := fun _ _ hx hc hrel hf => code_sound hx he hc hrel hf
  lp := fun _ _ hx hc hrel hf => loop_sound he hx hc hrel hf (.one stepR_inLoop)
  sg := fun _ _ hx hc hd hrel hf => scope_sound he hx hc hd hrel hf (.refl _ _)
  cl := fun hrel hargs hk => call_sound hok htbl he hrel hargs hk
  yl := fun hrel hargs hL => yield_sound hok he hrel hargs hL

theorem evN_ok (hok : TyOk E.P E.ty) {tbl : Bn → Option AF} (htbl : TblOk E tbl) : ∀ n, EvOk E (evN tbl n)
  | 0 => { cd := fun _ _ _ _ _ _ => Lands.bad, lp := fun _ _ _ _ _ _ => Lands.bad, sg := fun _ _ _ _ _ _ _ => Lands.bad, cl := fun _ _ _ => .inl ⟨_, List.mem_singleton.2 rfl⟩, yl := fun _ _ _ => .inl ⟨_, List.mem_singleton.2 rfl⟩ }
  | n + 1 => mkEv_ok hok htbl (evN_ok hok htbl n)

/-- what a call comes to, of all whose outcomes are returns -/
theorem calls_of (he : EvOk E e) {g : Bn} {args : List AV} {cargs : Array Value} (hrel : Rel E ρ s w) (hargs : VRs E.σ ρ args cargs.toList) {Good : AV → St → Prop} (hall : ∀ o ∈ e.cl g args none s, ∃ v s', o = .r v s' false ∧ Good v s') :
    Calls E.P g.val cargs w fun en w' => ∃ v s' ρ' cv, Good v s' ∧ en = .returned cv ∧ VR E.σ ρ' v cv ∧ Rel E ρ' s' w' ∧ Ext s ρ w s' ρ' w' := by
  intro cs
  rcases he.cl (cs := cs) hrel hargs kind_normal with ⟨m, hm⟩ | ⟨hb, o, ho, hl⟩
  · obtain ⟨v, s', e1, _⟩ := hall _ hm
    cases e1
  · obtain ⟨v, s', rfl, hgood⟩ := hall o ho
    obtain ⟨ρ', w', fr, v', a1, a2, a3, a4, a5, a6, a7, a8, fn, a9, a10⟩ := hl
    exact ⟨.returned v', w', fr, ⟨v, s', ρ', v', hgood, rfl, a3, a1, a2⟩, a4, a8, a6, a7, a5, fn, by rw [a8]; exact a9, a10⟩
end
end Go.Ex
