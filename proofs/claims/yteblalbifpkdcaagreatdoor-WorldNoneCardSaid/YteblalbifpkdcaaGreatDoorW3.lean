/- A piece of a closed run. -/
import Derived.Test.YteblalbifpkdcaaGreatDoorWD
namespace Go.Proofs.YteblalbifpkdcaaGreatDoor
open Go.Ex
theorem Wk3 : chk (evN tblT.get 3000) (baseS G b64) 70 [false, true, false, false, false, true, true, true] WP2 WQ2.f (WQ2.s (baseS G b64)) WQ3 = true := by kernel_rfl
end Go.Proofs.YteblalbifpkdcaaGreatDoor
