/- The row's closed facts, one by one. -/
import Derived.Test.YteblalbifpkdcaaGreatDoorY
namespace Go.Proofs.YteblalbifpkdcaaGreatDoor
theorem andT {a b : Bool} (h : a = true) (k : b = true) : (a && b) = true := by rw [h, k]; rfl
set_option maxHeartbeats 100000000 in
theorem facts : joinedFacts Tryz.pinned.checked.prog 3 Tryz.f3 Rows.worldNoneSpec Rows.worldNoneRow = true := by
  unfold joinedFacts
  iterate 31 ((with_reducible refine andT ?_ ?_); rotate_left; (as_aux_lemma => kernel_rfl))
  as_aux_lemma => kernel_rfl
theorem hname : Tryz.pinned.checked.prog.funcNamed Rows.worldNoneRow.func = some 3 := by kernel_rfl
end Go.Proofs.YteblalbifpkdcaaGreatDoor
