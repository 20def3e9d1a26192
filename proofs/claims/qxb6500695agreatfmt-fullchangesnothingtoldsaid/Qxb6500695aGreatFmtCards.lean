/-
  DERIVED. GIVEN WITH THE SEED: THE CARDS: each row of Qxb6500695aGreatFmtRows.lean that lists a variable, with what it lists TIED to the program's text (the seventh form; the later family's looks); each row that meets fmt, with fmt's text TOLD by the authors' own Lean function (tested against real Go, not proved from fmt's source: count such statements apart). THE CARD IS WHAT COUNTS. Prove the row's statement (the work); the ties are given (Qxb6500695aGreatFmtTie.lean); close each card by the builder's one call (the guide's Derived/Test/ToyasCard.lean, 'card_holds'). Laid BY PROGRAM, IN A SANDBOX (cutbox-door.mjs). By AI agents, Wed Nov 11 2026. No macro, syntax, notation, axiom, sorry.
-/
import Derived.Test.Qxb6500695aGreatFmtRows
import GoSem.ClaimSeven
namespace Go.Proofs.Qxb6500695aGreatFmt
namespace Rows

/-- THE TOLD AND TIED CARD OF 'simdisklaw.CrashKeepsSyncedOrPicked'. -/
def crashKeepsSyncedOrPickedCard : Claim7 := { stood := { row := crashKeepsSyncedOrPickedRow, standIns := [], harness := (true, "30c3a6a10f40a0d7bff2b93a6a5ef78703025c8df68b3cde09243db0a3596da9"), looks := true }, told := true, laidByText := true, laidKinds := [.sentinel, .sentinel, .sentinel, .sentinel, .sentinel, .sentinel, .sentinel, .sentinel, .data], laidTests := true, laidLooks := .later, goes := false }
def CrashKeepsSyncedOrPickedToldSaid : Prop := Claim7.holds Tryz.pinned (.plain (OpenSpec.ofChange crashKeepsSyncedOrPickedSpec)) crashKeepsSyncedOrPickedCard
/-- ITS FALSE NEIGHBOUR. Refute it at one input. -/
def CrashKeepsSyncedOrPickedToldWrongFalsely : Prop := Claim7.holds Tryz.pinned (.plain (OpenSpec.ofChange crashKeepsSyncedOrPickedWrong)) crashKeepsSyncedOrPickedCard

/-- THE TOLD AND TIED CARD OF 'simdisklaw.RenameIsAtomic'. -/
def renameIsAtomicCard : Claim7 := { stood := { row := renameIsAtomicRow, standIns := [], harness := (true, "30c3a6a10f40a0d7bff2b93a6a5ef78703025c8df68b3cde09243db0a3596da9"), looks := true }, told := true, laidByText := true, laidKinds := [.sentinel, .sentinel, .sentinel, .sentinel, .sentinel, .sentinel, .sentinel, .sentinel, .data], laidTests := true, laidLooks := .later, goes := false }
def RenameIsAtomicToldSaid : Prop := Claim7.holds Tryz.pinned (.plain (OpenSpec.ofChange renameIsAtomicSpec)) renameIsAtomicCard
/-- ITS FALSE NEIGHBOUR. Refute it at one input. -/
def RenameIsAtomicToldWrongFalsely : Prop := Claim7.holds Tryz.pinned (.plain (OpenSpec.ofChange renameIsAtomicWrong)) renameIsAtomicCard

/-- THE TOLD AND TIED CARD OF 'simdisklaw.PublishIsWhole'. -/
def publishIsWholeCard : Claim7 := { stood := { row := publishIsWholeRow, standIns := [], harness := (true, "30c3a6a10f40a0d7bff2b93a6a5ef78703025c8df68b3cde09243db0a3596da9"), looks := true }, told := true, laidByText := true, laidKinds := [.sentinel, .sentinel, .sentinel, .sentinel, .sentinel, .sentinel, .sentinel, .sentinel, .data], laidTests := true, laidLooks := .later, goes := false }
def PublishIsWholeToldSaid : Prop := Claim7.holds Tryz.pinned (.plain (OpenSpec.ofChange publishIsWholeSpec)) publishIsWholeCard
/-- ITS FALSE NEIGHBOUR. Refute it at one input. -/
def PublishIsWholeToldWrongFalsely : Prop := Claim7.holds Tryz.pinned (.plain (OpenSpec.ofChange publishIsWholeWrong)) publishIsWholeCard

/-- THE TOLD AND TIED CARD OF 'simdisklaw.FullChangesNothing'. -/
def fullChangesNothingCard : Claim7 := { stood := { row := fullChangesNothingRow, standIns := [], harness := (true, "30c3a6a10f40a0d7bff2b93a6a5ef78703025c8df68b3cde09243db0a3596da9"), looks := true }, told := true, laidByText := true, laidKinds := [.sentinel, .sentinel, .sentinel, .sentinel, .sentinel, .sentinel, .sentinel, .sentinel, .data], laidTests := true, laidLooks := .later, goes := false }
def FullChangesNothingToldSaid : Prop := Claim7.holds Tryz.pinned (.plain (OpenSpec.ofChange fullChangesNothingSpec)) fullChangesNothingCard
/-- ITS FALSE NEIGHBOUR. Refute it at one input. -/
def FullChangesNothingToldWrongFalsely : Prop := Claim7.holds Tryz.pinned (.plain (OpenSpec.ofChange fullChangesNothingWrong)) fullChangesNothingCard

/-- THE TOLD AND TIED CARD OF 'simdisklaw.NeverOverCapacity'. -/
def neverOverCapacityCard : Claim7 := { stood := { row := neverOverCapacityRow, standIns := [], harness := (true, "30c3a6a10f40a0d7bff2b93a6a5ef78703025c8df68b3cde09243db0a3596da9"), looks := true }, told := true, laidByText := true, laidKinds := [.sentinel, .sentinel, .sentinel, .sentinel, .sentinel, .sentinel, .sentinel, .sentinel, .data], laidTests := true, laidLooks := .later, goes := false }
def NeverOverCapacityToldSaid : Prop := Claim7.holds Tryz.pinned (.plain (OpenSpec.ofChange neverOverCapacitySpec)) neverOverCapacityCard
/-- ITS FALSE NEIGHBOUR. Refute it at one input. -/
def NeverOverCapacityToldWrongFalsely : Prop := Claim7.holds Tryz.pinned (.plain (OpenSpec.ofChange neverOverCapacityWrong)) neverOverCapacityCard

/-- THE TOLD AND TIED CARD OF 'simdisklaw.Refines'. -/
def refinesCard : Claim7 := { stood := { row := refinesRow, standIns := [], harness := (true, "30c3a6a10f40a0d7bff2b93a6a5ef78703025c8df68b3cde09243db0a3596da9"), looks := true }, told := true, laidByText := true, laidKinds := [.sentinel, .sentinel, .sentinel, .sentinel, .sentinel, .sentinel, .sentinel, .sentinel, .data], laidTests := true, laidLooks := .later, goes := false }
def RefinesToldSaid : Prop := Claim7.holds Tryz.pinned (.plain (OpenSpec.ofChange refinesSpec)) refinesCard
/-- ITS FALSE NEIGHBOUR. Refute it at one input. -/
def RefinesToldWrongFalsely : Prop := Claim7.holds Tryz.pinned (.plain (OpenSpec.ofChange refinesWrong)) refinesCard

/-- THE TOLD AND TIED CARD OF 'simdisklaw.ForkIsIndependent'. -/
def forkIsIndependentCard : Claim7 := { stood := { row := forkIsIndependentRow, standIns := [], harness := (true, "30c3a6a10f40a0d7bff2b93a6a5ef78703025c8df68b3cde09243db0a3596da9"), looks := true }, told := true, laidByText := true, laidKinds := [.sentinel, .sentinel, .sentinel, .sentinel, .sentinel, .sentinel, .sentinel, .sentinel, .data], laidTests := true, laidLooks := .later, goes := false }
def ForkIsIndependentToldSaid : Prop := Claim7.holds Tryz.pinned (.plain (OpenSpec.ofChange forkIsIndependentSpec)) forkIsIndependentCard
/-- ITS FALSE NEIGHBOUR. Refute it at one input. -/
def ForkIsIndependentToldWrongFalsely : Prop := Claim7.holds Tryz.pinned (.plain (OpenSpec.ofChange forkIsIndependentWrong)) forkIsIndependentCard
end Rows
end Go.Proofs.Qxb6500695aGreatFmt
