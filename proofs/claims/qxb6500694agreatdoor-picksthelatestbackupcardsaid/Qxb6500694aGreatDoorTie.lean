/-
  DERIVED. GIVEN WITH THE SEED: THE PROGRAM's TIES (one call each: nine closed facts by the kernel) AND EACH ROW's TIE, after the 31st guide's Derived/Test/Toyas{Tie, Card}.lean. No idea stands in it: it is a product of the set-up. Laid BY PROGRAM, IN A SANDBOX (cutbox-door.mjs). By AI agents, Wed Nov 11 2026. No macro, syntax, notation, axiom, sorry.
-/
import Derived.Test.Qxb6500694aGreatDoorRows
import Derived.LaidByTextLater
import Derived.SevenTiedAt
import Derived.LaidSub
import Derived.LaidOnce
namespace Go.Proofs.Qxb6500694aGreatDoor
open Go
set_option maxRecDepth 100000
theorem seatTie1 : Tryz.prog.laidByTextLater [("e2e/api.ErrNotFound", Rows.laid_e2e_api_ErrNotFound), ("e2e/api.ErrExists", Rows.laid_e2e_api_ErrExists), ("e2e/api.ErrDown", Rows.laid_e2e_api_ErrDown), ("e2e/api.ErrNoManifest", Rows.laid_e2e_api_ErrNoManifest), ("e2e/api.ErrNoTimeline", Rows.laid_e2e_api_ErrNoTimeline), ("e2e/api.ErrGap", Rows.laid_e2e_api_ErrGap), ("e2e/api.ErrNoBackup", Rows.laid_e2e_api_ErrNoBackup), ("e2e/api.ErrBadChain", Rows.laid_e2e_api_ErrBadChain), ("e2e/api.ErrCorrupt", Rows.laid_e2e_api_ErrCorrupt), ("io.EOF", Rows.laid_io_EOF)] [.sentinel, .sentinel, .sentinel, .sentinel, .sentinel, .sentinel, .sentinel, .sentinel, .sentinel, .sentinel] true :=
  Program.laidByTextLater_by_one 237 8 2 (by kernel_rfl) (by kernel_rfl) (by kernel_rfl) (by kernel_rfl) (by kernel_rfl) (by kernel_rfl) (fun _ _ => by kernel_rfl)
theorem noOwnUnsafe : Tryz.pinned.checked.prog.headLifts.contains "ownunsafe" = false := by kernel_rfl
theorem tie : Tryz.prog.laidByTextLater [("e2e/api.ErrNotFound", Rows.laid_e2e_api_ErrNotFound), ("e2e/api.ErrExists", Rows.laid_e2e_api_ErrExists), ("e2e/api.ErrNoManifest", Rows.laid_e2e_api_ErrNoManifest), ("e2e/api.ErrNoTimeline", Rows.laid_e2e_api_ErrNoTimeline), ("e2e/api.ErrGap", Rows.laid_e2e_api_ErrGap), ("e2e/api.ErrNoBackup", Rows.laid_e2e_api_ErrNoBackup), ("e2e/api.ErrBadChain", Rows.laid_e2e_api_ErrBadChain), ("e2e/api.ErrCorrupt", Rows.laid_e2e_api_ErrCorrupt), ("io.EOF", Rows.laid_io_EOF)] [.sentinel, .sentinel, .sentinel, .sentinel, .sentinel, .sentinel, .sentinel, .sentinel, .sentinel] true :=
  Program.laidByTextLater.sub seatTie1 ["e2e/api.ErrNotFound", "e2e/api.ErrExists", "e2e/api.ErrNoManifest", "e2e/api.ErrNoTimeline", "e2e/api.ErrGap", "e2e/api.ErrNoBackup", "e2e/api.ErrBadChain", "e2e/api.ErrCorrupt", "io.EOF"] (by kernel_rfl) (by kernel_rfl)
theorem refines_row_tie : Rows.refinesRow.laidByTextAt .later Tryz.pinned [.sentinel, .sentinel, .sentinel, .sentinel, .sentinel, .sentinel, .sentinel, .sentinel, .sentinel] true :=
  OpenClaim.laidByTextAt_later rfl rfl tie noOwnUnsafe
theorem tie2 : Tryz.prog.laidByTextLater [("e2e/api.ErrNotFound", Rows.laid_e2e_api_ErrNotFound), ("e2e/api.ErrExists", Rows.laid_e2e_api_ErrExists), ("e2e/api.ErrDown", Rows.laid_e2e_api_ErrDown), ("e2e/api.ErrNoManifest", Rows.laid_e2e_api_ErrNoManifest), ("e2e/api.ErrNoTimeline", Rows.laid_e2e_api_ErrNoTimeline), ("e2e/api.ErrGap", Rows.laid_e2e_api_ErrGap), ("e2e/api.ErrNoBackup", Rows.laid_e2e_api_ErrNoBackup), ("e2e/api.ErrBadChain", Rows.laid_e2e_api_ErrBadChain), ("e2e/api.ErrCorrupt", Rows.laid_e2e_api_ErrCorrupt), ("io.EOF", Rows.laid_io_EOF)] [.sentinel, .sentinel, .sentinel, .sentinel, .sentinel, .sentinel, .sentinel, .sentinel, .sentinel, .sentinel] true :=
  Program.laidByTextLater.sub seatTie1 ["e2e/api.ErrNotFound", "e2e/api.ErrExists", "e2e/api.ErrDown", "e2e/api.ErrNoManifest", "e2e/api.ErrNoTimeline", "e2e/api.ErrGap", "e2e/api.ErrNoBackup", "e2e/api.ErrBadChain", "e2e/api.ErrCorrupt", "io.EOF"] (by kernel_rfl) (by kernel_rfl)
theorem rerunGivesSameDisk_row_tie : Rows.rerunGivesSameDiskRow.laidByTextAt .later Tryz.pinned [.sentinel, .sentinel, .sentinel, .sentinel, .sentinel, .sentinel, .sentinel, .sentinel, .sentinel, .sentinel] true :=
  OpenClaim.laidByTextAt_later rfl rfl tie2 noOwnUnsafe
theorem restoredAnswersAreTheFold_row_tie : Rows.restoredAnswersAreTheFoldRow.laidByTextAt .later Tryz.pinned [.sentinel, .sentinel, .sentinel, .sentinel, .sentinel, .sentinel, .sentinel, .sentinel, .sentinel, .sentinel] true :=
  OpenClaim.laidByTextAt_later rfl rfl tie2 noOwnUnsafe
theorem nothingBeyondTheBranch_row_tie : Rows.nothingBeyondTheBranchRow.laidByTextAt .later Tryz.pinned [.sentinel, .sentinel, .sentinel, .sentinel, .sentinel, .sentinel, .sentinel, .sentinel, .sentinel, .sentinel] true :=
  OpenClaim.laidByTextAt_later rfl rfl tie2 noOwnUnsafe
theorem tie3 : Tryz.prog.laidByTextLater [("e2e/api.ErrExists", Rows.laid_e2e_api_ErrExists), ("e2e/api.ErrNoManifest", Rows.laid_e2e_api_ErrNoManifest), ("e2e/api.ErrNoTimeline", Rows.laid_e2e_api_ErrNoTimeline), ("e2e/api.ErrGap", Rows.laid_e2e_api_ErrGap), ("e2e/api.ErrNoBackup", Rows.laid_e2e_api_ErrNoBackup), ("e2e/api.ErrBadChain", Rows.laid_e2e_api_ErrBadChain)] [.sentinel, .sentinel, .sentinel, .sentinel, .sentinel, .sentinel] true :=
  Program.laidByTextLater.sub seatTie1 ["e2e/api.ErrExists", "e2e/api.ErrNoManifest", "e2e/api.ErrNoTimeline", "e2e/api.ErrGap", "e2e/api.ErrNoBackup", "e2e/api.ErrBadChain"] (by kernel_rfl) (by kernel_rfl)
theorem chainIsSound_row_tie : Rows.chainIsSoundRow.laidByTextAt .later Tryz.pinned [.sentinel, .sentinel, .sentinel, .sentinel, .sentinel, .sentinel] true :=
  OpenClaim.laidByTextAt_later rfl rfl tie3 noOwnUnsafe
theorem picksTheLatestBackup_row_tie : Rows.picksTheLatestBackupRow.laidByTextAt .later Tryz.pinned [.sentinel, .sentinel, .sentinel, .sentinel, .sentinel, .sentinel] true :=
  OpenClaim.laidByTextAt_later rfl rfl tie3 noOwnUnsafe
end Go.Proofs.Qxb6500694aGreatDoor
