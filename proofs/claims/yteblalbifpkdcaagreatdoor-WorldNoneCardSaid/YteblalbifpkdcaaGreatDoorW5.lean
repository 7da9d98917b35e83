/- A piece of a closed run. -/
import Derived.Test.YteblalbifpkdcaaGreatDoorWD
namespace Go.Proofs.YteblalbifpkdcaaGreatDoor
open Go.Ex
theorem Wk5 : chk (evN tblT.get 3000) (baseS G b64) 77 [true, true, true, true, true, true, true] WP4 WQ4.f (WQ4.s (baseS G b64)) WQ5 = true := by kernel_rfl
end Go.Proofs.YteblalbifpkdcaaGreatDoor
