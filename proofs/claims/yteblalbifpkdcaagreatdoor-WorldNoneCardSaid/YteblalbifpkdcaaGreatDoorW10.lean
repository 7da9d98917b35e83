/- A piece of a closed run. -/
import Derived.Test.YteblalbifpkdcaaGreatDoorWD
namespace Go.Proofs.YteblalbifpkdcaaGreatDoor
open Go.Ex
theorem Wk10 : chk (evN tblT.get 3000) (baseS G b64) 55 [true, true, true, true, true] WP9 WQ9.f (WQ9.s (baseS G b64)) WQ10 = true := by kernel_rfl
end Go.Proofs.YteblalbifpkdcaaGreatDoor
