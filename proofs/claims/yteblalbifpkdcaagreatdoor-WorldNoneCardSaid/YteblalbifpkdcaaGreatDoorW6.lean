/- A piece of a closed run. -/
import Derived.Test.YteblalbifpkdcaaGreatDoorWD
namespace Go.Proofs.YteblalbifpkdcaaGreatDoor
open Go.Ex
theorem Wk6 : chk (evN tblT.get 3000) (baseS G b64) 33 [true, true, true] WP5 WQ5.f (WQ5.s (baseS G b64)) WQ6 = true := by kernel_rfl
end Go.Proofs.YteblalbifpkdcaaGreatDoor
