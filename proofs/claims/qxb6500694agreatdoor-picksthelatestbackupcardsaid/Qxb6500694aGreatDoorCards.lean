/-
  DERIVED. GIVEN WITH THE SEED: THE CARDS: each row of Qxb6500694aGreatDoorRows.lean that lists a variable, with what it lists TIED to the program's text (the seventh form; the later family's looks); each row that meets fmt, with fmt's text TOLD by the authors' own Lean function (tested against real Go, not proved from fmt's source: count such statements apart). THE CARD IS WHAT COUNTS. Prove the row's statement (the work); the ties are given (Qxb6500694aGreatDoorTie.lean); close each card by the builder's one call (the guide's Derived/Test/ToyasCard.lean, 'card_holds'). Laid BY PROGRAM, IN A SANDBOX (cutbox-door.mjs). By AI agents, Wed Nov 11 2026. No macro, syntax, notation, axiom, sorry.
-/
import Derived.Test.Qxb6500694aGreatDoorRows
import GoSem.ClaimSeven
namespace Go.Proofs.Qxb6500694aGreatDoor
namespace Rows

/-- THE TIED CARD OF 'restorelaw.Refines'. -/
def refinesCard : Claim7 := { stood := { row := refinesRow, standIns := [], harness := (true, "12ca7caf09987377faa7f1c01252dbb18b9a5dbff192c984398ee3f7ebebcb04"), looks := true }, kinds := [], alts := [], laidByText := true, laidKinds := [.sentinel, .sentinel, .sentinel, .sentinel, .sentinel, .sentinel, .sentinel, .sentinel, .sentinel], laidTests := true, laidLooks := .later }
def RefinesCardSaid : Prop := Claim7.holds Tryz.pinned (.plain (OpenSpec.ofChange refinesSpec)) refinesCard

/-- THE TIED CARD OF 'restorelaw.RerunGivesSameDisk'. -/
def rerunGivesSameDiskCard : Claim7 := { stood := { row := rerunGivesSameDiskRow, standIns := [], harness := (true, "12ca7caf09987377faa7f1c01252dbb18b9a5dbff192c984398ee3f7ebebcb04"), looks := true }, kinds := [], alts := [], laidByText := true, laidKinds := [.sentinel, .sentinel, .sentinel, .sentinel, .sentinel, .sentinel, .sentinel, .sentinel, .sentinel, .sentinel], laidTests := true, laidLooks := .later }
def RerunGivesSameDiskCardSaid : Prop := Claim7.holds Tryz.pinned (.plain (OpenSpec.ofChange rerunGivesSameDiskSpec)) rerunGivesSameDiskCard

/-- THE TIED CARD OF 'restorelaw.RestoredAnswersAreTheFold'. -/
def restoredAnswersAreTheFoldCard : Claim7 := { stood := { row := restoredAnswersAreTheFoldRow, standIns := [], harness := (true, "12ca7caf09987377faa7f1c01252dbb18b9a5dbff192c984398ee3f7ebebcb04"), looks := true }, kinds := [], alts := [], laidByText := true, laidKinds := [.sentinel, .sentinel, .sentinel, .sentinel, .sentinel, .sentinel, .sentinel, .sentinel, .sentinel, .sentinel], laidTests := true, laidLooks := .later }
def RestoredAnswersAreTheFoldCardSaid : Prop := Claim7.holds Tryz.pinned (.plain (OpenSpec.ofChange restoredAnswersAreTheFoldSpec)) restoredAnswersAreTheFoldCard

/-- THE TIED CARD OF 'restorelaw.NothingBeyondTheBranch'. -/
def nothingBeyondTheBranchCard : Claim7 := { stood := { row := nothingBeyondTheBranchRow, standIns := [], harness := (true, "12ca7caf09987377faa7f1c01252dbb18b9a5dbff192c984398ee3f7ebebcb04"), looks := true }, kinds := [], alts := [], laidByText := true, laidKinds := [.sentinel, .sentinel, .sentinel, .sentinel, .sentinel, .sentinel, .sentinel, .sentinel, .sentinel, .sentinel], laidTests := true, laidLooks := .later }
def NothingBeyondTheBranchCardSaid : Prop := Claim7.holds Tryz.pinned (.plain (OpenSpec.ofChange nothingBeyondTheBranchSpec)) nothingBeyondTheBranchCard

/-- THE TIED CARD OF 'restorelaw.ChainIsSound'. -/
def chainIsSoundCard : Claim7 := { stood := { row := chainIsSoundRow, standIns := [], harness := (true, "12ca7caf09987377faa7f1c01252dbb18b9a5dbff192c984398ee3f7ebebcb04"), looks := true }, kinds := [], alts := [], laidByText := true, laidKinds := [.sentinel, .sentinel, .sentinel, .sentinel, .sentinel, .sentinel], laidTests := true, laidLooks := .later }
def ChainIsSoundCardSaid : Prop := Claim7.holds Tryz.pinned (.plain (OpenSpec.ofChange chainIsSoundSpec)) chainIsSoundCard

/-- THE TIED CARD OF 'restorelaw.PicksTheLatestBackup'. -/
def picksTheLatestBackupCard : Claim7 := { stood := { row := picksTheLatestBackupRow, standIns := [], harness := (true, "12ca7caf09987377faa7f1c01252dbb18b9a5dbff192c984398ee3f7ebebcb04"), looks := true }, kinds := [], alts := [], laidByText := true, laidKinds := [.sentinel, .sentinel, .sentinel, .sentinel, .sentinel, .sentinel], laidTests := true, laidLooks := .later }
def PicksTheLatestBackupCardSaid : Prop := Claim7.holds Tryz.pinned (.plain (OpenSpec.ofChange picksTheLatestBackupSpec)) picksTheLatestBackupCard
end Rows
end Go.Proofs.Qxb6500694aGreatDoor
