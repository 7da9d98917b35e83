/- The card's closed facts, one by one. -/
import Derived.Test.YteblalbifpkdcaaGreatDoorCards
import Derived.SevenTiedAt
namespace Go.Proofs.YteblalbifpkdcaaGreatDoor
theorem cw : Rows.worldNoneRow.wfByText (OpenSpec.ofChange Rows.worldNoneSpec) = true := by kernel_rfl
theorem cm : Tryz.pinned.checked.prog.mainIs = some (true, "ec965dd75bd7e5f5bdbccf78a28be17c5b8718daaa1ebd146d0ec2f79b7330dd".toList) := by kernel_rfl
theorem want27 : Tryz.pinned.checked.prog.wantsStandIn 27 = false := by kernel_rfl
theorem want3 : Tryz.pinned.checked.prog.wantsStandIn 3 = false := by kernel_rfl
theorem cl : true = Tryz.pinned.checked.prog.looks [] := by kernel_rfl
theorem cn : Tryz.pinned.checked.prog.funcNamed "waywarden/waywardenlaw20.WorldNone" = some 3 := by kernel_rfl
theorem cg : false = Rows.worldNoneRow.goesBy Tryz.pinned.checked.prog := by kernel_rfl
end Go.Proofs.YteblalbifpkdcaaGreatDoor
