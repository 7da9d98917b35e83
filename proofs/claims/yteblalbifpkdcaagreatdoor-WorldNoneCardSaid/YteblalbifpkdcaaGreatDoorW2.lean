/- A piece of a closed run. -/
import Derived.Test.YteblalbifpkdcaaGreatDoorWD
namespace Go.Proofs.YteblalbifpkdcaaGreatDoor
open Go.Ex
theorem Wk2 : chk (evN tblT.get 3000) (baseS G b64) 47 [false, true, false, true, false, true] WP1 WQ1.f (WQ1.s (baseS G b64)) WQ2 = true := by kernel_rfl
end Go.Proofs.YteblalbifpkdcaaGreatDoor
