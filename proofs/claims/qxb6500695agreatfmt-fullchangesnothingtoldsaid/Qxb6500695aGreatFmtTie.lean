/-
  DERIVED. GIVEN WITH THE SEED: THE PROGRAM's TIES (one call each: nine closed facts by the kernel) AND EACH ROW's TIE, after the 31st guide's Derived/Test/Toyas{Tie, Card}.lean. No idea stands in it: it is a product of the set-up. Laid BY PROGRAM, IN A SANDBOX (cutbox-door.mjs). By AI agents, Wed Nov 11 2026. No macro, syntax, notation, axiom, sorry.
-/
import Derived.Test.Qxb6500695aGreatFmtRows
import Derived.LaidByTextLater
import Derived.SevenTiedAt
import Derived.LaidSub
import Derived.LaidOnce
namespace Go.Proofs.Qxb6500695aGreatFmt
open Go
set_option maxRecDepth 100000
theorem seatTie1 : Tryz.prog.laidByTextLater [("e2e/api.ErrFull", Rows.laid_e2e_api_ErrFull), ("e2e/api.ErrNotFound", Rows.laid_e2e_api_ErrNotFound), ("e2e/api.ErrExists", Rows.laid_e2e_api_ErrExists), ("e2e/api.ErrName", Rows.laid_e2e_api_ErrName), ("e2e/api.ErrRange", Rows.laid_e2e_api_ErrRange), ("e2e/api.ErrArg", Rows.laid_e2e_api_ErrArg), ("e2e/api.ErrDown", Rows.laid_e2e_api_ErrDown), ("io.EOF", Rows.laid_io_EOF), ("e2e/simdisk.nodeNames", Rows.laid_e2e_simdisk_nodeNames)] [.sentinel, .sentinel, .sentinel, .sentinel, .sentinel, .sentinel, .sentinel, .sentinel, .data] true :=
  Program.laidByTextLater_by_one 166 8 4 (by kernel_rfl) (by kernel_rfl) (by kernel_rfl) (by kernel_rfl) (by kernel_rfl) (by kernel_rfl) (fun _ _ => by kernel_rfl)
theorem noOwnUnsafe : Tryz.pinned.checked.prog.headLifts.contains "ownunsafe" = false := by kernel_rfl
theorem tie : Tryz.prog.laidByTextLater [("e2e/api.ErrFull", Rows.laid_e2e_api_ErrFull), ("e2e/api.ErrNotFound", Rows.laid_e2e_api_ErrNotFound), ("e2e/api.ErrExists", Rows.laid_e2e_api_ErrExists), ("e2e/api.ErrName", Rows.laid_e2e_api_ErrName), ("e2e/api.ErrRange", Rows.laid_e2e_api_ErrRange), ("e2e/api.ErrArg", Rows.laid_e2e_api_ErrArg), ("e2e/api.ErrDown", Rows.laid_e2e_api_ErrDown), ("io.EOF", Rows.laid_io_EOF), ("e2e/simdisk.nodeNames", Rows.laid_e2e_simdisk_nodeNames)] [.sentinel, .sentinel, .sentinel, .sentinel, .sentinel, .sentinel, .sentinel, .sentinel, .data] true :=
  Program.laidByTextLater.sub seatTie1 ["e2e/api.ErrFull", "e2e/api.ErrNotFound", "e2e/api.ErrExists", "e2e/api.ErrName", "e2e/api.ErrRange", "e2e/api.ErrArg", "e2e/api.ErrDown", "io.EOF", "e2e/simdisk.nodeNames"] (by kernel_rfl) (by kernel_rfl)
theorem crashKeepsSyncedOrPicked_row_tie : Rows.crashKeepsSyncedOrPickedRow.laidByTextAt .later Tryz.pinned [.sentinel, .sentinel, .sentinel, .sentinel, .sentinel, .sentinel, .sentinel, .sentinel, .data] true :=
  OpenClaim.laidByTextAt_later rfl rfl tie noOwnUnsafe
theorem renameIsAtomic_row_tie : Rows.renameIsAtomicRow.laidByTextAt .later Tryz.pinned [.sentinel, .sentinel, .sentinel, .sentinel, .sentinel, .sentinel, .sentinel, .sentinel, .data] true :=
  OpenClaim.laidByTextAt_later rfl rfl tie noOwnUnsafe
theorem publishIsWhole_row_tie : Rows.publishIsWholeRow.laidByTextAt .later Tryz.pinned [.sentinel, .sentinel, .sentinel, .sentinel, .sentinel, .sentinel, .sentinel, .sentinel, .data] true :=
  OpenClaim.laidByTextAt_later rfl rfl tie noOwnUnsafe
theorem fullChangesNothing_row_tie : Rows.fullChangesNothingRow.laidByTextAt .later Tryz.pinned [.sentinel, .sentinel, .sentinel, .sentinel, .sentinel, .sentinel, .sentinel, .sentinel, .data] true :=
  OpenClaim.laidByTextAt_later rfl rfl tie noOwnUnsafe
theorem neverOverCapacity_row_tie : Rows.neverOverCapacityRow.laidByTextAt .later Tryz.pinned [.sentinel, .sentinel, .sentinel, .sentinel, .sentinel, .sentinel, .sentinel, .sentinel, .data] true :=
  OpenClaim.laidByTextAt_later rfl rfl tie noOwnUnsafe
theorem refines_row_tie : Rows.refinesRow.laidByTextAt .later Tryz.pinned [.sentinel, .sentinel, .sentinel, .sentinel, .sentinel, .sentinel, .sentinel, .sentinel, .data] true :=
  OpenClaim.laidByTextAt_later rfl rfl tie noOwnUnsafe
theorem forkIsIndependent_row_tie : Rows.forkIsIndependentRow.laidByTextAt .later Tryz.pinned [.sentinel, .sentinel, .sentinel, .sentinel, .sentinel, .sentinel, .sentinel, .sentinel, .data] true :=
  OpenClaim.laidByTextAt_later rfl rfl tie noOwnUnsafe
end Go.Proofs.Qxb6500695aGreatFmt
