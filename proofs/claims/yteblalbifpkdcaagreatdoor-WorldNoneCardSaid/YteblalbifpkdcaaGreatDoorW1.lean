/- A piece of a closed run. -/
import Derived.Test.YteblalbifpkdcaaGreatDoorWD
namespace Go.Proofs.YteblalbifpkdcaaGreatDoor
open Go.Ex
theorem Wk1 : chk (evN tblT.get 3000) (baseS G b64) 4 [] WP0 ⟨.lf, [], none, false, none⟩ (baseS G b64) WQ1 = true := by kernel_rfl
end Go.Proofs.YteblalbifpkdcaaGreatDoor
