/- 'waywardenlaw20.WorldNone', THE TIED CARD: for every event and every router's number the law answers true, and its arguments read as they did. Its conditions are the row's own: the six listed package-level variables hold what the program's text lays in them. -/
import Derived.Test.YteblalbifpkdcaaGreatDoorL
import Derived.Test.YteblalbifpkdcaaGreatDoorCards
import Derived.Test.YteblalbifpkdcaaGreatDoorTie
import Derived.ProofKit
import Derived.LaidMore
import Derived.Carry
import Derived.Stop.Joined
import Derived.Lib.SmallJoins
import Derived.SevenTiedAt
namespace Go.Proofs.YteblalbifpkdcaaGreatDoor
open Go.Joins Go.ChangeShapes Go.WideShapes Go.ChangeAt Go.WideMaps Go.WideElems Go.RowKit Go.Deep

theorem own : ownKnob Tryz.prog.godebug = none := by kernel_rfl
theorem laidOut : laidOutB Tryz.prog = true := by kernel_rfl
theorem gn0 : Tryz.prog.globalNamed "waywarden/config.capBounds" = some 0 := by kernel_rfl
theorem gn1 : Tryz.prog.globalNamed "waywarden/rib.faceBounds" = some 1 := by kernel_rfl
theorem gn2 : Tryz.prog.globalNamed "waywarden/prefix.rels" = some 2 := by kernel_rfl
theorem gn3 : Tryz.prog.globalNamed "waywarden/neigh.faceBounds" = some 3 := by kernel_rfl
theorem gn4 : Tryz.prog.globalNamed "waywarden/respond.faceBounds" = some 4 := by kernel_rfl
theorem gn5 : Tryz.prog.globalNamed "waywarden/octet.widths" = some 5 := by kernel_rfl
theorem gt0 : (Tryz.prog.globals[0]?).map (·.type) = some 100 := by kernel_rfl
theorem gt1 : (Tryz.prog.globals[1]?).map (·.type) = some 100 := by kernel_rfl
theorem gt2 : (Tryz.prog.globals[2]?).map (·.type) = some 380 := by kernel_rfl
theorem gt3 : (Tryz.prog.globals[3]?).map (·.type) = some 100 := by kernel_rfl
theorem gt4 : (Tryz.prog.globals[4]?).map (·.type) = some 100 := by kernel_rfl
theorem gt5 : (Tryz.prog.globals[5]?).map (·.type) = some 499 := by kernel_rfl
theorem cs3 : Tryz.prog.cellsOf 3 = 1 := by kernel_rfl
theorem cs318 : Tryz.prog.cellsOf 318 = 1 := by kernel_rfl
theorem cs379 : Tryz.prog.cellsOf 379 = 2 := by kernel_rfl

theorem var_heap {P : Program} {w : World} {name : String} {g : Nat} {cs : Array Value} (hg : P.globalNamed name = some g) (h : w.var? P name = some cs) : ∃ e fr, w.heap[g]? = some (.cells cs e fr) := by
  unfold World.var? at h
  rw [hg] at h
  simp only [Option.bind_some] at h
  split at h
  · rename_i c e fr hq
    simp only [Option.some.injEq] at h
    subst h
    exact ⟨e, fr, hq⟩
  · cases h

theorem of_laid {W : World} (h : laidMetH Tryz.prog Rows.worldNoneRow.laid W) : Ex.GlobsIn G W := by
  rw [MakeChecks.laidMetH_plain _ _ _ (by kernel_rfl)] at h
  obtain ⟨ps, ⟨g3, t3, cs3', f3', p3, q3, hg3, ht3, hv3, hd3, ⟨g5, t5, cs5', f5', p5, q5, hg5, ht5, hv5, hd5, ⟨g2, t2, cs2', f2', p2, q2, hg2, ht2, hv2, hd2, ⟨g0, t0, cs0', f0', p0, q0, hg0, ht0, hv0, hd0,
    ⟨g1, t1, cs1', f1', p1, q1, hg1, ht1, hv1, hd1, ⟨g4, t4, cs4', f4', p4, q4, hg4, ht4, hv4, hd4, _, _⟩, _⟩, _⟩, _⟩, _⟩, _⟩, _, _⟩ := h
  obtain rfl := Option.some.inj (gn0.symm.trans hg0)
  obtain rfl := Option.some.inj (gn1.symm.trans hg1)
  obtain rfl := Option.some.inj (gn2.symm.trans hg2)
  obtain rfl := Option.some.inj (gn3.symm.trans hg3)
  obtain rfl := Option.some.inj (gn4.symm.trans hg4)
  obtain rfl := Option.some.inj (gn5.symm.trans hg5)
  obtain rfl := Option.some.inj (gt0.symm.trans ht0)
  obtain rfl := Option.some.inj (gt1.symm.trans ht1)
  obtain rfl := Option.some.inj (gt2.symm.trans ht2)
  obtain rfl := Option.some.inj (gt3.symm.trans ht3)
  obtain rfl := Option.some.inj (gt4.symm.trans ht4)
  obtain rfl := Option.some.inj (gt5.symm.trans ht5)
  have arr : ∀ {l : List Int} {cs : Array Value}, (∀ (i : Nat) z, l[i]? = some z → cs.toList[i]? = some (.int .i64 z)) → ∀ (i : Nat) n, l[i]? = some n → cs[i]? = some (.int .i64 n) := fun h i n hn => by have := h i n hn; simpa using this
  have k0 := arr (l := [1, 256]) (Ex.trod_ints Tryz.underlying100 Tryz.underlying3 cs3 hd0)
  have k1 := arr (l := [0, 15]) (Ex.trod_ints Tryz.underlying100 Tryz.underlying3 cs3 hd1)
  have k3 := arr (l := [0, 15]) (Ex.trod_ints Tryz.underlying100 Tryz.underlying3 cs3 hd3)
  have k4 := arr (l := [0, 15]) (Ex.trod_ints Tryz.underlying100 Tryz.underlying3 cs3 hd4)
  have k5 := arr (l := [1, 2, 4]) (Ex.trod_ints Tryz.underlying499 Tryz.underlying3 cs3 hd5)
  have r2 := Ex.trod_rows (l := [[4, 2], [3, 1]]) Tryz.underlying380 Tryz.underlying379 Tryz.underlying318 cs318 cs379 hd2
  have k2 : ∀ (i : Nat) n, ([4, 2, 3, 1] : List Int)[i]? = some n → cs2'[i]? = some (.int .i64 n) := by
    intro i n hn
    have a0 := r2 0 0 _ 4 rfl rfl (by decide)
    have a1 := r2 0 1 _ 2 rfl rfl (by decide)
    have a2 := r2 1 0 _ 3 rfl rfl (by decide)
    have a3 := r2 1 1 _ 1 rfl rfl (by decide)
    match i, hn with
    | 0, hn => simp at hn; subst hn; simpa using a0
    | 1, hn => simp at hn; subst hn; simpa using a1
    | 2, hn => simp at hn; subst hn; simpa using a2
    | 3, hn => simp at hn; subst hn; simpa using a3
    | _ + 4, hn => simp at hn
  obtain ⟨e0, x0, w0⟩ := var_heap gn0 hv0
  obtain ⟨e1, x1, w1⟩ := var_heap gn1 hv1
  obtain ⟨e2, x2, w2⟩ := var_heap gn2 hv2
  obtain ⟨e3, x3, w3⟩ := var_heap gn3 hv3
  obtain ⟨e4, x4, w4⟩ := var_heap gn4 hv4
  obtain ⟨e5, x5, w5⟩ := var_heap gn5 hv5
  intro p hp
  simp only [G, List.mem_cons, List.not_mem_nil, or_false] at hp
  rcases hp with rfl | rfl | rfl | rfl | rfl | rfl
  · exact ⟨_, _, _, w0, k0⟩
  · exact ⟨_, _, _, w1, k1⟩
  · exact ⟨_, _, _, w2, k2⟩
  · exact ⟨_, _, _, w3, k3⟩
  · exact ⟨_, _, _, w4, k4⟩
  · exact ⟨_, _, _, w5, k5⟩

theorem door_met (os : Os) (args : Array Value) : laidMetH Tryz.prog Rows.worldNoneRow.laid ((World.doorLaid Tryz.prog 400 os).forCall (fun _ _ => 0) ⟨#[], args, []⟩).memory :=
  laidMetH_of_parts3 (fuel := 8) (laidMet_of_run' 8 (by kernel_rfl) (by kernel_rfl)) (by kernel_rfl) (by kernel_rfl)

section
variable {H : Type} {enc : TypeId × Value → H} {P : Program} {w : World} {base : Nat} {spare : Nat → Bool} {held : Bool}
theorem open_agg7 {r : Reach} {b0 : Nat} {t : TypeId} {f0 f1 f2 f3 f4 f5 f6 : Field} {v : Value} {d : DataW H} {p : List MemPlace} (hs : P.underlying t = some (.struct #[f0, f1, f2, f3, f4, f5, f6])) (hone : oneCellFields P #[f0, f1, f2, f3, f4, f5, f6] = true) (hC : P.cellsOf t = 7)
    (hv : Value.okWide P w r b0 t v) (h : DataW.Trod enc P w base spare held t v d p) :
    ∃ (v0 v1 v2 v3 v4 v5 v6 : Value) (y0 y1 y2 y3 y4 y5 y6 : DataW H × List MemPlace) (n : Nat), v = .agg #[v0, v1, v2, v3, v4, v5, v6] ∧
      DataW.trod enc P w base spare held n f0.type [v0] = some y0 ∧ DataW.trod enc P w base spare held n f1.type [v1] = some y1 ∧ DataW.trod enc P w base spare held n f2.type [v2] = some y2 ∧ DataW.trod enc P w base spare held n f3.type [v3] = some y3 ∧
      DataW.trod enc P w base spare held n f4.type [v4] = some y4 ∧ DataW.trod enc P w base spare held n f5.type [v5] = some y5 ∧ DataW.trod enc P w base spare held n f6.type [v6] = some y6 := by
  obtain ⟨cs, rfl, hsz⟩ := okWide_struct hs hv
  obtain ⟨l⟩ := cs
  match l, hsz.trans hC with
  | [c0, c1, c2, c3, c4, c5, c6], _ =>
    obtain ⟨fuel, hf⟩ := h
    obtain ⟨xs, n, _, hx, _, hlen, hg⟩ := DataW.trod_struct hs hf
    obtain ⟨o0, k0⟩ := hone_of hone 0 f0 rfl
    obtain ⟨o1, k1⟩ := hone_of hone 1 f1 rfl
    obtain ⟨o2, k2⟩ := hone_of hone 2 f2 rfl
    obtain ⟨o3, k3⟩ := hone_of hone 3 f3 rfl
    obtain ⟨o4, k4⟩ := hone_of hone 4 f4 rfl
    obtain ⟨o5, k5⟩ := hone_of hone 5 f5 rfl
    obtain ⟨o6, k6⟩ := hone_of hone 6 f6 rfl
    match xs, hlen with
    | [y0, y1, y2, y3, y4, y5, y6], _ =>
      exact ⟨c0, c1, c2, c3, c4, c5, c6, y0, y1, y2, y3, y4, y5, y6, n, rfl, by simpa [Value.cells, o0, k0] using hg 0 f0 rfl, by simpa [Value.cells, o1, k1] using hg 1 f1 rfl, by simpa [Value.cells, o2, k2] using hg 2 f2 rfl,
        by simpa [Value.cells, o3, k3] using hg 3 f3 rfl, by simpa [Value.cells, o4, k4] using hg 4 f4 rfl, by simpa [Value.cells, o5, k5] using hg 5 f5 rfl, by simpa [Value.cells, o6, k6] using hg 6 f6 rfl⟩

theorem post_of_below {f : Func} {s : ChangeSpec} {apart fresh handsOn again : Bool} {W W' : World} {args : Array Value} {v : Value} {ds gs : List (DataW H)} {before pa pv : List MemPlace}
    (hW : DataW.Whole enc P f.params.toList s.vars apart W args.toList ds gs before)
    (hres : ∀ (b : Nat) (sp : Nat → Bool) (hd : Bool), DataW.TrodAll enc P W' b sp hd f.resultTypes.toList (v.resultList f.resultTypes.size) (s.fn H (ds ++ gs)).results [])
    (hargs : ∀ sp : Nat → Bool, (∀ p ∈ before, sp p.block = true) → DataW.TrodAll enc P W' 0 sp true f.params.toList args.toList (s.fn H (ds ++ gs)).args pa)
    (hvars : ∀ sp : Nat → Bool, (∀ p ∈ before, sp p.block = true) → DataW.TrodVars enc P W' sp s.vars (s.fn H (ds ++ gs)).vars pv)
    (hps : before = pa ++ pv) (hb : Below W.heap.size W W')
    (hok : ∀ (j : Nat) (t : TypeId) (r : Value), f.resultTypes[j]? = some t → (v.resultList f.resultTypes.size)[j]? = some r → Value.okWide P W' .any 0 t r) :
    s.post enc P f apart fresh handsOn again W args v W' := by
  have hlt : ∀ p ∈ before, p.block < W.heap.size := fun p hp => hW.lt p hp
  have hold : ∀ p ∈ before, (fun b => decide (b < W.heap.size)) p.block = true := fun p hp => by simpa using hlt p hp
  refine ⟨ds, gs, before, [], pa, pv, hW, hres _ _ _, hargs _ hold, hvars _ hold, World.keptBut_mono (fun p hp => ⟨hp, ?_⟩) (hb.frame (· ∈ before)), fun _ => ?_⟩
  · rw [hps, List.mem_append] at hp
    exact Or.inr hp
  · obtain ⟨_, _, _, _, _, hz, hn⟩ := hW
    refine ⟨hok, _, _, ([] ++ pa) ++ pv, ⟨[] ++ pa, pv, trodAll_append (hargs _ (fun _ _ => rfl)) (hres _ _ _), hvars _ (fun _ _ => rfl), rfl, ?_, ?_⟩, ?_⟩
    · intro b off hp
      have hin : MemPlace.cell b off ∈ before := by rw [hps]; simpa using hp
      rw [hb.frozen (hlt _ hin)]
      exact hz b off hin
    · intro ha
      have := hn ha
      rw [hps] at this
      simpa using this
    · intro p hp _
      rw [hps]
      simpa using hp
end

set_option maxRecDepth 100000 in
theorem lifted (os : Os) (started : os.Started) (H : Type) (enc : TypeId × Value → H) :
    ReturnsInHanded {} Tryz.checked os 3 .any (fun w args => (Rows.worldNoneSpec.pre enc Tryz.prog Tryz.f3 [] false w args ∧ laidMetH Tryz.prog Rows.worldNoneRow.laid w) ∧ sizedMet enc Tryz.prog Tryz.f3 (OpenSpec.ofChange Rows.worldNoneSpec) false w args)
      (Rows.worldNoneSpec.post enc Tryz.prog Tryz.f3 false true false false) := by
  refine returnsInHanded_of_change_and (C := Tryz.checked) (X := fun w _ => laidMetH Tryz.prog Rows.worldNoneRow.laid w) (fun _ _ _ hh h => h.of_heap hh) own started (by kernel_rfl) Tryz.func3
    (ChangeSpec.witness_shaped (enc := enc) (C := Tryz.checked) (os := os) (X := fun w _ => laidMetH Tryz.prog Rows.worldNoneRow.laid w) false (World.doorLaid Tryz.prog 400 os)
      #[.agg #[.int .i64 0, .int .i64 0, .int .i64 0, .int .i64 0, .int .i64 0, .int .u32 0, .slice none 0 0], .int .i64 0] 8 rfl (World.shaped_of_RefB (by kernel_rfl) (by kernel_rfl)) (by kernel_rfl) (by kernel_rfl) (by kernel_rfl) (door_met os _)) ?_
  intro W base args ds gs before hval0 hW _ _ hL _
  have hval : ∀ (j : Nat) t v, Tryz.f3.params[j]? = some t → args[j]? = some v → Value.okWide Tryz.prog W .any base t v := hval0
  have hW' := hW
  obtain ⟨p, q, hA0, hV, rfl, hfz, hnd⟩ := hW
  have hA : DataW.TrodAll enc Tryz.prog W 0 (fun _ => true) true Tryz.f3.params.toList args.toList ds p := hA0
  rw [Tryz.params3] at hA hval
  obtain ⟨v0, v1, d0, d1, p0, p1, rfl, rfl, rfl, h0, h1⟩ := trodAll_two hA
  obtain ⟨rfl, rfl⟩ := trodVars_none hV
  have hlt : ∀ x ∈ p0, x.block < W.heap.size := fun x hx => by
    refine hW'.lt x ?_
    simp only [List.append_nil, List.mem_append]
    exact .inl hx
  obtain ⟨a0, a1, a2, a3, a4, a5, a6, y0, y1, y2, y3, y4, y5, y6, n, rfl, t0, t1, t2, t3, t4, t5, t6⟩ := open_agg7 Tryz.underlying27 (by kernel_rfl) (by kernel_rfl) (hval 0 27 _ rfl rfl) h0
  obtain ⟨z, rfl, rfl, rfl, wz⟩ := open_int Tryz.underlying3 (hval 1 3 v1 rfl rfl) h1
  obtain ⟨k0, e0, _, _⟩ := DataW.trod_int Tryz.underlying22 t0
  obtain ⟨k1, e1, _, _⟩ := DataW.trod_int Tryz.underlying3 t1
  obtain ⟨k2, e2, _, _⟩ := DataW.trod_int Tryz.underlying3 t2
  obtain ⟨k3, e3, _, _⟩ := DataW.trod_int Tryz.underlying3 t3
  obtain ⟨k4, e4, _, _⟩ := DataW.trod_int Tryz.underlying2 t4
  obtain ⟨k5, e5, _, _⟩ := DataW.trod_int Tryz.underlying24 t5
  simp only [List.cons.injEq, and_true] at e0 e1 e2 e3 e4 e5
  subst e0; subst e1; subst e2; subst e3; subst e4; subst e5
  have hs : a6 = .slice none 0 0 ∨ (∃ a k, a6 = .slice (some a) 0 k) ∨ ∃ bl off n cap, a6 = .slice (some ⟨bl, off, none⟩) n cap ∧ n ≤ cap := by
    rcases DataW.trod_slice Tryz.underlying25 t6 with ⟨e, _⟩ | ⟨a, len, cap, elems, rest, m, _, e, _, hb, hl, _, hlen, hel, _, _⟩
    · simp only [List.cons.injEq, and_true] at e
      exact .inl e
    · simp only [List.cons.injEq, and_true] at e
      subst e
      rcases Nat.eq_zero_or_pos len with rfl | hpos
      · exact .inr (.inl ⟨a, cap, rfl⟩)
      · refine .inr (.inr ?_)
        have hsp : a.spot = none := by
          have h1 := hel 0 hpos
          have h2 : elems[0]? = some (elems[0]'(by omega)) := List.getElem?_eq_getElem (by omega)
          rw [h2, Option.bind_eq_some_iff] at h1
          obtain ⟨cs, hc, _⟩ := h1
          have hcell : Tryz.prog.cellsOf 5 = 1 := by kernel_rfl
          rw [hcell] at hc
          obtain ⟨_, hcl, hat⟩ := World.cells?_some hc
          have h3 := hat 0 (by omega)
          have h4 : cs[0]? = some (cs[0]'(by omega)) := List.getElem?_eq_getElem (by omega)
          rw [h4] at h3
          have h5 : (a.add (0 * Tryz.prog.cellsOf 5)).add 0 = a := by simp [Addr.add]
          first | rw [h5] at h3 | rw [show (a.add (0 * 1)).add 0 = a by simp [Addr.add]] at h3
          unfold World.cell? at h3
          split at h3
          · split at h3
            · cases h3
            · rename_i hns
              cases hq : a.spot with
              | none => rfl
              | some x => rw [hq] at hns; simp at hns
          · cases h3
        obtain ⟨bl, off, sp⟩ := a
        simp only at hsp
        subst hsp
        exact ⟨bl, off, len, cap, rfl, hl⟩
  clear hA0 hval0
  have hW2 := hW'
  simp only [List.append_nil] at hW2
  refine (law_any k0 k1 k2 k3 k4 k5 z a6 hs W (of_laid hL)).mono fun e W' ⟨he, hb⟩ => ?_
  subst he
  refine ⟨_, rfl, post_of_below (pa := p0 ++ []) (pv := []) hW' (fun _ _ _ => trodAll_mk1 (shut_bool Tryz.underlying4 _)) (fun sp hsp => ?_) (fun _ _ => rfl) (by simp) hb (ok_one (by kernel_rfl) rfl (okWide_bool_mk Tryz.underlying4 _))⟩
  exact trodAll_mk2 (Trod_stays laidOut (by kernel_rfl) (of_decide_eq_true (by kernel_rfl)) h0 (fun x hx => hb.same (hlt x hx)) (fun x hx => hsp x (by simp [hx]))) (shut_int Tryz.underlying3 wz)
end Go.Proofs.YteblalbifpkdcaaGreatDoor
