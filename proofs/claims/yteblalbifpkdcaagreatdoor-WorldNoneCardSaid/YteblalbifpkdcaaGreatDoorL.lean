/- The law's own run, whatever its arguments. -/
import Derived.Test.YteblalbifpkdcaaGreatDoorA10
import Derived.Test.YteblalbifpkdcaaGreatDoorWS
namespace Go.Proofs.YteblalbifpkdcaaGreatDoor
open Go.Ex Go

def sums (g : Bn) : Option Bool := if g.beq b4 then some true else none
theorem sumsOk : ∀ g v, sums g = some v → SumOk E0 G g v := by
  intro g v h
  unfold sums at h
  split at h
  · rename_i e
    have := Bn.beq_eq e
    subst this
    simp only [Option.some.injEq] at h
    subst h
    exact Wsum
  · cases h
def eS : Ev := evS sums G tblT.get 3000
theorem eSOk : EvOk E0 eS := by unfold eS; exact @evS_ok E0 tyOk tblT.get tblOk sums G b64 rfl gcanOk sumsOk 3000

def evA (k0 k1 k2 k3 k4 k5 : Int) (s : AV) : AV := .ag [.i .i64 k0, .i .i64 k1, .i .i64 k2, .i .i64 k3, .i .i64 k4, .i .u32 k5, s]
def envL (x r : AV) : Tr AV := (Tr.lf.set (some x) b0).set (some r) b1
def fL (x r : AV) : Fr := ⟨envL x r, [], none, false, none⟩

theorem run_nil (k0 k1 k2 k3 k4 k5 r : Int) : fin eS f3.res 13 [false] [.c c3] (fL (evA k0 k1 k2 k3 k4 k5 .sn) (.i .i64 r)) (baseS G b65) true = true := by kernel_rfl

theorem run_se (k0 k1 k2 k3 k4 k5 r : Int) : fin eS f3.res 13 [false] [.c c3] (fL (evA k0 k1 k2 k3 k4 k5 .se) (.i .i64 r)) (baseS G b65) true = true := by kernel_rfl

def slA (n cap : Nat) : AV := .sl b64 0 n cap true 1
def f1 (x r : AV) (t : Bool) : Fr := ⟨(((envL x r).set (some (.p b65 0)) b2).set (some (.b false)) b4).set (some (.b t)) b11, [], none, false, none⟩
def s1 (k0 k1 k2 k3 k4 k5 : Int) (s : AV) : St := newH (baseS G b65) (.c [.i .i64 k0, .i .i64 k1, .i .i64 k2, .i .i64 k3, .i .i64 k4, .i .u32 k5, s])

theorem run_a (k0 k1 k2 k3 k4 k5 r : Int) (n cap : Nat) : topD eS 5 [.c c3] (fL (evA k0 k1 k2 k3 k4 k5 (slA n cap)) (.i .i64 r)) (baseS G b65) =
    some ([], f1 (evA k0 k1 k2 k3 k4 k5 (slA n cap)) (.i .i64 r) (decide (Int.ofNat 600 < Int.ofNat n)), s1 k0 k1 k2 k3 k4 k5 (slA n cap)) := by kernel_rfl
theorem run_t (k0 k1 k2 k3 k4 k5 r : Int) (n cap : Nat) : fin eS f3.res 3 [true] (goI 5 [] [.c c3]) (f1 (evA k0 k1 k2 k3 k4 k5 (slA n cap)) (.i .i64 r) true) (s1 k0 k1 k2 k3 k4 k5 (slA n cap)) true = true := by kernel_rfl
theorem run_f (k0 k1 k2 k3 k4 k5 r : Int) (n cap : Nat) : fin eS f3.res 8 [false] (goI 5 [] [.c c3]) (f1 (evA k0 k1 k2 k3 k4 k5 (slA n cap)) (.i .i64 r) false) (s1 k0 k1 k2 k3 k4 k5 (slA n cap)) true = true := by kernel_rfl

theorem law_any (k0 k1 k2 k3 k4 k5 r : Int) (sv : Value) (hs : sv = .slice none 0 0 ∨ (∃ a k, sv = .slice (some a) 0 k) ∨ ∃ bl off n cap, sv = .slice (some ⟨bl, off, none⟩) n cap ∧ n ≤ cap) (w : World) (hw : GlobsIn G w) :
    Calls Tryz.prog 3 #[.agg #[.int .i64 k0, .int .i64 k1, .int .i64 k2, .int .i64 k3, .int .i64 k4, .int .u32 k5, sv], .int .i64 r] w fun en w' => en = .returned (.bool true) ∧ Go.RowKit.Below w.heap.size w w' := by
  have hrel := rel_base (E := E0) (nx := b64) rfl gcanOk hw
  rcases hs with rfl | ⟨a, kk, rfl⟩ | ⟨bl, off, n, cap, rfl, hle⟩
  · have hrel' := rel_more hrel ⟨0, 0, 0⟩
    refine calls_top (E := E0) (g := b3) (af := f3) (e := eS) (v := true) (env := envL (evA k0 k1 k2 k3 k4 k5 .sn) (.i .i64 r)) (args := [evA k0 k1 k2 k3 k4 k5 .sn, .i .i64 r]) tyOk ok3 eSOk _ _ hrel' rfl ?_ rfl fun X b cs m0 hx ht => ?_
    · refine VRs.cons ?_ (VRs.one (by simp only [VR]))
      simp only [evA, VR, VRs]
      refine ⟨[.int .i64 k0, .int .i64 k1, .int .i64 k2, .int .i64 k3, .int .i64 k4, .int .u32 k5, .slice none 0 0], ⟨_, _, rfl, rfl, _, _, rfl, rfl, _, _, rfl, rfl, _, _, rfl, rfl, _, _, rfl, rfl, _, _, rfl, rfl, _, _, rfl, rfl, rfl⟩, rfl⟩
    · exact fin_sound hx eSOk (run_nil k0 k1 k2 k3 k4 k5 r) ht
  · have hrel' := rel_more hrel ⟨0, 0, 0⟩
    refine calls_top (E := E0) (g := b3) (af := f3) (e := eS) (v := true) (env := envL (evA k0 k1 k2 k3 k4 k5 .se) (.i .i64 r)) (args := [evA k0 k1 k2 k3 k4 k5 .se, .i .i64 r]) tyOk ok3 eSOk _ _ hrel' rfl ?_ rfl fun X b cs m0 hx ht => ?_
    · refine VRs.cons ?_ (VRs.one (by simp only [VR]))
      simp only [evA, VR, VRs]
      refine ⟨[.int .i64 k0, .int .i64 k1, .int .i64 k2, .int .i64 k3, .int .i64 k4, .int .u32 k5, .slice (some a) 0 kk], ⟨_, _, rfl, rfl, _, _, rfl, rfl, _, _, rfl, rfl, _, _, rfl, rfl, _, _, rfl, rfl, _, _, rfl, rfl, _, _, rfl, ⟨a, kk, rfl⟩, rfl⟩, rfl⟩
    · exact fin_sound hx eSOk (run_se k0 k1 k2 k3 k4 k5 r) ht
  · have hrel' := rel_more hrel ⟨bl, off, off + cap⟩
    refine calls_top (E := E0) (g := b3) (af := f3) (e := eS) (v := true) (env := envL (evA k0 k1 k2 k3 k4 k5 (slA n cap)) (.i .i64 r)) (args := [evA k0 k1 k2 k3 k4 k5 (slA n cap), .i .i64 r]) tyOk ok3 eSOk _ _ hrel' rfl ?_ rfl fun X b cs m0 hx ht => ?_
    · refine VRs.cons ?_ (VRs.one (by simp only [VR]))
      have hsl : VR E0.σ ((baseR G).add (baseS G b64).nx ⟨bl, off, off + cap⟩) (slA n cap) (.slice (some ⟨bl, off, none⟩) n cap) := by
        simp only [slA, VR]
        exact ⟨⟨bl, off, off + cap⟩, cap, Rho.add_self, rfl, hle, Nat.le_refl _, fun _ => rfl, by simp⟩
      simp only [evA, VR, VRs]
      refine ⟨[.int .i64 k0, .int .i64 k1, .int .i64 k2, .int .i64 k3, .int .i64 k4, .int .u32 k5, .slice (some ⟨bl, off, none⟩) n cap], ⟨_, _, rfl, rfl, _, _, rfl, rfl, _, _, rfl, rfl, _, _, rfl, rfl, _, _, rfl, rfl, _, _, rfl, rfl, _, _, rfl, hsl, rfl⟩, rfl⟩
    · have h1 := top_sound hx eSOk 5 _ _ _ _ _ _ (run_a k0 k1 k2 k3 k4 k5 r n cap) ht
      by_cases hn : Int.ofNat 600 < Int.ofNat n
      · rw [decide_eq_true hn] at h1
        exact fin_sound hx eSOk (run_t k0 k1 k2 k3 k4 k5 r n cap) h1
      · rw [decide_eq_false hn] at h1
        exact fin_sound hx eSOk (run_f k0 k1 k2 k3 k4 k5 r n cap) h1
end Go.Proofs.YteblalbifpkdcaaGreatDoor
