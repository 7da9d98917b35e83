/- A closed run: its pieces together. -/
import Derived.Test.YteblalbifpkdcaaGreatDoorK
import Derived.Test.YteblalbifpkdcaaGreatDoorW1
import Derived.Test.YteblalbifpkdcaaGreatDoorW2
import Derived.Test.YteblalbifpkdcaaGreatDoorW3
import Derived.Test.YteblalbifpkdcaaGreatDoorW4
import Derived.Test.YteblalbifpkdcaaGreatDoorW5
import Derived.Test.YteblalbifpkdcaaGreatDoorW6
import Derived.Test.YteblalbifpkdcaaGreatDoorW7
import Derived.Test.YteblalbifpkdcaaGreatDoorW8
import Derived.Test.YteblalbifpkdcaaGreatDoorW9
import Derived.Test.YteblalbifpkdcaaGreatDoorW10
import Derived.Test.YteblalbifpkdcaaGreatDoorW11
namespace Go.Proofs.YteblalbifpkdcaaGreatDoor
open Go.Ex
theorem evOk : EvOk E0 (evN tblT.get 3000) := @evN_ok E0 tyOk tblT.get tblOk 3000
theorem gcanOk : gcan G b64 = true := by kernel_rfl
theorem Wsum : SumOk E0 G b4 true := by
  refine sum_of (nx := b64) (af := f4) (v := true) tyOk rfl gcanOk ok4 evOk rfl fun X b w cs m0 hx hrel ht => ?_
  have t1 := chk_sound hx evOk hrel rfl Wk1 ht
  have t2 := chk_sound hx evOk hrel rfl Wk2 t1
  have t3 := chk_sound hx evOk hrel rfl Wk3 t2
  have t4 := chk_sound hx evOk hrel rfl Wk4 t3
  have t5 := chk_sound hx evOk hrel rfl Wk5 t4
  have t6 := chk_sound hx evOk hrel rfl Wk6 t5
  have t7 := chk_sound hx evOk hrel rfl Wk7 t6
  have t8 := chk_sound hx evOk hrel rfl Wk8 t7
  have t9 := chk_sound hx evOk hrel rfl Wk9 t8
  have t10 := chk_sound hx evOk hrel rfl Wk10 t9
  have t11 := chk_sound hx evOk hrel rfl Wk11 t10
  obtain ⟨k, hk⟩ := atRt_eq (l := WP11) (by kernel_rfl)
  refine ⟨k, _, _, ?_, retB_eq (p := WQ11) (s0 := baseS G b64) (by kernel_rfl)⟩
  rw [← hk]
  exact t11
end Go.Proofs.YteblalbifpkdcaaGreatDoor
