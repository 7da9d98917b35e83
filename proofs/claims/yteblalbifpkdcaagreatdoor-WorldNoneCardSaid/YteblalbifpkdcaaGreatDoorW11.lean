/- A piece of a closed run. -/
import Derived.Test.YteblalbifpkdcaaGreatDoorWD
namespace Go.Proofs.YteblalbifpkdcaaGreatDoor
open Go.Ex
theorem Wk11 : chk (evN tblT.get 3000) (baseS G b64) 14 [false] WP10 WQ10.f (WQ10.s (baseS G b64)) WQ11 = true := by kernel_rfl
end Go.Proofs.YteblalbifpkdcaaGreatDoor
