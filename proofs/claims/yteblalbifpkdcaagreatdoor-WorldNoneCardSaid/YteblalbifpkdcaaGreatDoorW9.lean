/- A piece of a closed run. -/
import Derived.Test.YteblalbifpkdcaaGreatDoorWD
namespace Go.Proofs.YteblalbifpkdcaaGreatDoor
open Go.Ex
theorem Wk9 : chk (evN tblT.get 3000) (baseS G b64) 55 [true, true, true, true, true] WP8 WQ8.f (WQ8.s (baseS G b64)) WQ9 = true := by kernel_rfl
end Go.Proofs.YteblalbifpkdcaaGreatDoor
