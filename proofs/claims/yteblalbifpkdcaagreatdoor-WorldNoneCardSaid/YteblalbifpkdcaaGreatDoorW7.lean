/- A piece of a closed run. -/
import Derived.Test.YteblalbifpkdcaaGreatDoorWD
namespace Go.Proofs.YteblalbifpkdcaaGreatDoor
open Go.Ex
theorem Wk7 : chk (evN tblT.get 3000) (baseS G b64) 77 [true, true, true, true, true, true, true] WP6 WQ6.f (WQ6.s (baseS G b64)) WQ7 = true := by kernel_rfl
end Go.Proofs.YteblalbifpkdcaaGreatDoor
