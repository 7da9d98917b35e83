/-
  DERIVED. GIVEN WITH THE SEED: THE PROGRAM's TIES (one call each: nine closed facts by the kernel) AND EACH ROW's TIE, after the 31st guide's Derived/Test/Toyas{Tie, Card}.lean. No idea stands in it: it is a product of the set-up. Laid BY PROGRAM, IN A SANDBOX (cutbox-door.mjs). By AI agents, Wed Nov 11 2026. No macro, syntax, notation, axiom, sorry.
-/
import Derived.Test.YteblalbifpkdcaaGreatDoorRows
import Derived.LaidByTextLater
import Derived.SevenTiedAt
import Derived.LaidSub
import Derived.LaidOnce
namespace Go.Proofs.YteblalbifpkdcaaGreatDoor
open Go
set_option maxRecDepth 100000
theorem seatTie1 : Tryz.prog.laidByTextLater [("waywarden/neigh.faceBounds", Rows.laid_waywarden_neigh_faceBounds), ("waywarden/octet.widths", Rows.laid_waywarden_octet_widths), ("waywarden/prefix.rels", Rows.laid_waywarden_prefix_rels), ("waywarden/config.capBounds", Rows.laid_waywarden_config_capBounds), ("waywarden/rib.faceBounds", Rows.laid_waywarden_rib_faceBounds), ("waywarden/respond.faceBounds", Rows.laid_waywarden_respond_faceBounds)] [.data, .data, .data, .data, .data, .data] true :=
  Program.laidByTextLater_by_one 41 8 5 (by kernel_rfl) (by kernel_rfl) (by kernel_rfl) (by kernel_rfl) (by kernel_rfl) (by kernel_rfl) (fun _ _ => by kernel_rfl)
theorem noOwnUnsafe : Tryz.pinned.checked.prog.headLifts.contains "ownunsafe" = false := by kernel_rfl
theorem tie : Tryz.prog.laidByTextLater [("waywarden/neigh.faceBounds", Rows.laid_waywarden_neigh_faceBounds), ("waywarden/octet.widths", Rows.laid_waywarden_octet_widths), ("waywarden/prefix.rels", Rows.laid_waywarden_prefix_rels), ("waywarden/config.capBounds", Rows.laid_waywarden_config_capBounds), ("waywarden/rib.faceBounds", Rows.laid_waywarden_rib_faceBounds), ("waywarden/respond.faceBounds", Rows.laid_waywarden_respond_faceBounds)] [.data, .data, .data, .data, .data, .data] true :=
  Program.laidByTextLater.sub seatTie1 ["waywarden/neigh.faceBounds", "waywarden/octet.widths", "waywarden/prefix.rels", "waywarden/config.capBounds", "waywarden/rib.faceBounds", "waywarden/respond.faceBounds"] (by kernel_rfl) (by kernel_rfl)
theorem worldNone_row_tie : Rows.worldNoneRow.laidByTextAt .later Tryz.pinned [.data, .data, .data, .data, .data, .data] true :=
  OpenClaim.laidByTextAt_later rfl rfl tie noOwnUnsafe
theorem worldNoneUpto_row_tie : Rows.worldNoneUptoRow.laidByTextAt .later Tryz.pinned [.data, .data, .data, .data, .data, .data] true :=
  OpenClaim.laidByTextAt_later rfl rfl tie noOwnUnsafe
end Go.Proofs.YteblalbifpkdcaaGreatDoor
