/- A piece of a closed run. -/
import Derived.Test.YteblalbifpkdcaaGreatDoorWD
namespace Go.Proofs.YteblalbifpkdcaaGreatDoor
open Go.Ex
theorem Wk8 : chk (evN tblT.get 3000) (baseS G b64) 33 [true, true, true] WP7 WQ7.f (WQ7.s (baseS G b64)) WQ8 = true := by kernel_rfl
end Go.Proofs.YteblalbifpkdcaaGreatDoor
