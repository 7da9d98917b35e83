/- A piece of a closed run. -/
import Derived.Test.YteblalbifpkdcaaGreatDoorWD
namespace Go.Proofs.YteblalbifpkdcaaGreatDoor
open Go.Ex
theorem Wk4 : chk (evN tblT.get 3000) (baseS G b64) 77 [true, true, true, true, true, true, true] WP3 WQ3.f (WQ3.s (baseS G b64)) WQ4 = true := by kernel_rfl
end Go.Proofs.YteblalbifpkdcaaGreatDoor
