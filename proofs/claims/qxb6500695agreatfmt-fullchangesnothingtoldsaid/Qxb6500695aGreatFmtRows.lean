/-
  NARROWER THAN 'FOR EVERY INPUT', by the rows' own cells (each row's printed sentence says how): CrashKeepsSyncedOrPicked: laid · RenameIsAtomic: laid · PublishIsWhole: laid · FullChangesNothing: laid · NeverOverCapacity: laid · Refines: laid · ForkIsIndependent: laid.
  DERIVED. THE GIVEN ROWS OF THIS SEAT. 7 by the template 'for every input the law returns true; each argument reads behind the call as it read before'; 0 by the template 'total and deterministic' (their statements: Qxb6500695aGreatFmtTotals.lean).
  GIVEN WITH THE SEED: the statements are not yours to turn. If you find one false, say at which input.
  Laid BY PROGRAM, IN A SANDBOX (cutbox-rows.mjs): the forced cells as the released guide's own fill.sh prints them over the translation 749685506b8a645f… (all of the seat's roots in one cut). By AI agents, Wed Nov 11 2026. No macro, syntax, notation, axiom, sorry.
-/
import Derived.Test.Qxb6500695aGreatFmtChecked
import GoSem.Claim
import GoSem.ClaimJoined
import GoSem.ClaimMapViews
import Derived.JoinedTies
import Derived.KernelRfl
namespace Go.Proofs.Qxb6500695aGreatFmt
/- THE CELL 'sum', in the pinned program and in every row, IS THE sha256 OF THE DUMP (.gsa) THAT Qxb6500695aGreatFmtProg.lean LOADS. Nothing in Lean hashes anything: it is a label: what it is worth is what the hold of that sum in a sandbox is worth. -/
noncomputable def Tryz.pinned : Pinned := { name := "qxb6500695agreatfmt", sum := "749685506b8a645f1d882033ac3d5d5a7ec5f538364472acfa5d73c568ec44f1", checked := Tryz.checked }
namespace Rows
def none {H : Type} : Left H := { results := [], args := [] }

/- WHAT THE LISTED PACKAGE-LEVEL VARIABLES READ AS WHEN THE CALL BEGINS. Each datum BY PROGRAM (the guide's laid-datum.mjs) off the statement by which the dump's own 'gosem.cut.vars' lays the variable. In a bare row this is a premise. The card (Qxb6500695aGreatFmtCards.lean) ties it to the program's text. -/
def laid_e2e_api_ErrFull {H : Type} : DataW H := .iface "*errors.errorString" (.ptr (.agg [.lit (.string [115, 105, 109, 100, 105, 115, 107, 58, 32, 102, 117, 108, 108])]))
def laid_e2e_api_ErrNotFound {H : Type} : DataW H := .iface "*errors.errorString" (.ptr (.agg [.lit (.string [115, 105, 109, 100, 105, 115, 107, 58, 32, 110, 111, 32, 115, 117, 99, 104, 32, 111, 98, 106, 101, 99, 116])]))
def laid_e2e_api_ErrExists {H : Type} : DataW H := .iface "*errors.errorString" (.ptr (.agg [.lit (.string [115, 105, 109, 100, 105, 115, 107, 58, 32, 111, 98, 106, 101, 99, 116, 32, 101, 120, 105, 115, 116, 115])]))
def laid_e2e_api_ErrName {H : Type} : DataW H := .iface "*errors.errorString" (.ptr (.agg [.lit (.string [115, 105, 109, 100, 105, 115, 107, 58, 32, 98, 97, 100, 32, 111, 98, 106, 101, 99, 116, 32, 110, 97, 109, 101])]))
def laid_e2e_api_ErrRange {H : Type} : DataW H := .iface "*errors.errorString" (.ptr (.agg [.lit (.string [115, 105, 109, 100, 105, 115, 107, 58, 32, 111, 102, 102, 115, 101, 116, 32, 111, 114, 32, 108, 101, 110, 103, 116, 104, 32, 111, 117, 116, 32, 111, 102, 32, 114, 97, 110, 103, 101])]))
def laid_e2e_api_ErrArg {H : Type} : DataW H := .iface "*errors.errorString" (.ptr (.agg [.lit (.string [115, 105, 109, 100, 105, 115, 107, 58, 32, 98, 97, 100, 32, 97, 114, 103, 117, 109, 101, 110, 116])]))
def laid_e2e_api_ErrDown {H : Type} : DataW H := .iface "*errors.errorString" (.ptr (.agg [.lit (.string [115, 105, 109, 100, 105, 115, 107, 58, 32, 112, 111, 119, 101, 114, 32, 105, 115, 32, 111, 102, 102])]))
def laid_io_EOF {H : Type} : DataW H := .iface "*errors.errorString" (.ptr (.agg [.lit (.string [69, 79, 70])]))
def laid_e2e_simdisk_nodeNames {H : Type} : DataW H := .agg [.lit (.string [112, 114, 105, 109, 97, 114, 121]), .lit (.string [115, 116, 97, 110, 100, 98, 121]), .lit (.string [97, 114, 99, 104, 105, 118, 101])]

/-- 'simdisklaw.CrashKeepsSyncedOrPicked': WHATEVER THE INPUT: true; the input reads as it did. -/
def crashKeepsSyncedOrPickedSpec : ChangeSpec := { name := "crashKeepsSyncedOrPicked", fn := fun _ => fun
  | [d] => { results := [.lit (.bool true)], args := [d] }
  | _ => none }
def crashKeepsSyncedOrPickedRow : OpenClaim := { program := "qxb6500695agreatfmt", sum := "749685506b8a645f1d882033ac3d5d5a7ec5f538364472acfa5d73c568ec44f1", func := "e2e/simdisklaw.CrashKeepsSyncedOrPicked", spec := "crashKeepsSyncedOrPicked", stops := ["fmt.errorf"], inPlace := ["fmt.errorf", "slices.overlaps[string]", "maps.clone"], unfollowed := true, recurses := true, named := ["e2e/simdisk.nodeNames", "e2e/api.ErrArg", "e2e/api.ErrRange", "e2e/api.ErrFull", "e2e/api.ErrDown", "io.EOF", "e2e/api.ErrName", "e2e/api.ErrExists", "e2e/api.ErrNotFound"], plainKeys := false, apart := false, laid := [("e2e/api.ErrFull", laid_e2e_api_ErrFull), ("e2e/api.ErrNotFound", laid_e2e_api_ErrNotFound), ("e2e/api.ErrExists", laid_e2e_api_ErrExists), ("e2e/api.ErrName", laid_e2e_api_ErrName), ("e2e/api.ErrRange", laid_e2e_api_ErrRange), ("e2e/api.ErrArg", laid_e2e_api_ErrArg), ("e2e/api.ErrDown", laid_e2e_api_ErrDown), ("io.EOF", laid_io_EOF), ("e2e/simdisk.nodeNames", laid_e2e_simdisk_nodeNames)] }
/-- NO THEOREM (fmt's text is open here; it may be false): for the released tool's asking of the row's closed facts alone. THE STATEMENT IS 'CrashKeepsSyncedOrPickedToldSaid' (Qxb6500695aGreatFmtCards.lean). -/
def CrashKeepsSyncedOrPickedFormAsk : Prop := crashKeepsSyncedOrPickedRow.holds Tryz.pinned (OpenSpec.ofChange crashKeepsSyncedOrPickedSpec)

/-- ITS FALSE NEIGHBOUR: 'it returns false'. Refute it at one input. -/
def crashKeepsSyncedOrPickedWrong : ChangeSpec := { name := "crashKeepsSyncedOrPicked", fn := fun _ => fun
  | [d] => { results := [.lit (.bool false)], args := [d] }
  | _ => none }
def CrashKeepsSyncedOrPickedWrongFormAsk : Prop := crashKeepsSyncedOrPickedRow.holds Tryz.pinned (OpenSpec.ofChange crashKeepsSyncedOrPickedWrong)

/-- 'simdisklaw.RenameIsAtomic': WHATEVER THE INPUT: true; the input reads as it did. -/
def renameIsAtomicSpec : ChangeSpec := { name := "renameIsAtomic", fn := fun _ => fun
  | [d] => { results := [.lit (.bool true)], args := [d] }
  | _ => none }
def renameIsAtomicRow : OpenClaim := { program := "qxb6500695agreatfmt", sum := "749685506b8a645f1d882033ac3d5d5a7ec5f538364472acfa5d73c568ec44f1", func := "e2e/simdisklaw.RenameIsAtomic", spec := "renameIsAtomic", stops := ["fmt.errorf"], inPlace := ["fmt.errorf", "slices.overlaps[string]", "maps.clone"], unfollowed := true, recurses := true, named := ["e2e/simdisk.nodeNames", "e2e/api.ErrArg", "e2e/api.ErrDown", "e2e/api.ErrName", "e2e/api.ErrNotFound", "e2e/api.ErrRange", "e2e/api.ErrFull", "io.EOF", "e2e/api.ErrExists"], plainKeys := false, apart := false, laid := [("e2e/api.ErrFull", laid_e2e_api_ErrFull), ("e2e/api.ErrNotFound", laid_e2e_api_ErrNotFound), ("e2e/api.ErrExists", laid_e2e_api_ErrExists), ("e2e/api.ErrName", laid_e2e_api_ErrName), ("e2e/api.ErrRange", laid_e2e_api_ErrRange), ("e2e/api.ErrArg", laid_e2e_api_ErrArg), ("e2e/api.ErrDown", laid_e2e_api_ErrDown), ("io.EOF", laid_io_EOF), ("e2e/simdisk.nodeNames", laid_e2e_simdisk_nodeNames)] }
/-- NO THEOREM (fmt's text is open here; it may be false): for the released tool's asking of the row's closed facts alone. THE STATEMENT IS 'RenameIsAtomicToldSaid' (Qxb6500695aGreatFmtCards.lean). -/
def RenameIsAtomicFormAsk : Prop := renameIsAtomicRow.holds Tryz.pinned (OpenSpec.ofChange renameIsAtomicSpec)

/-- ITS FALSE NEIGHBOUR: 'it returns false'. Refute it at one input. -/
def renameIsAtomicWrong : ChangeSpec := { name := "renameIsAtomic", fn := fun _ => fun
  | [d] => { results := [.lit (.bool false)], args := [d] }
  | _ => none }
def RenameIsAtomicWrongFormAsk : Prop := renameIsAtomicRow.holds Tryz.pinned (OpenSpec.ofChange renameIsAtomicWrong)

/-- 'simdisklaw.PublishIsWhole': WHATEVER THE INPUT: true; the input reads as it did. -/
def publishIsWholeSpec : ChangeSpec := { name := "publishIsWhole", fn := fun _ => fun
  | [d] => { results := [.lit (.bool true)], args := [d] }
  | _ => none }
def publishIsWholeRow : OpenClaim := { program := "qxb6500695agreatfmt", sum := "749685506b8a645f1d882033ac3d5d5a7ec5f538364472acfa5d73c568ec44f1", func := "e2e/simdisklaw.PublishIsWhole", spec := "publishIsWhole", stops := ["fmt.errorf"], inPlace := ["fmt.errorf", "slices.overlaps[string]", "maps.clone"], unfollowed := true, recurses := true, named := ["e2e/api.ErrDown", "e2e/simdisk.nodeNames", "e2e/api.ErrArg", "e2e/api.ErrName", "e2e/api.ErrNotFound", "e2e/api.ErrRange", "e2e/api.ErrFull", "e2e/api.ErrExists", "io.EOF"], plainKeys := false, apart := false, laid := [("e2e/api.ErrFull", laid_e2e_api_ErrFull), ("e2e/api.ErrNotFound", laid_e2e_api_ErrNotFound), ("e2e/api.ErrExists", laid_e2e_api_ErrExists), ("e2e/api.ErrName", laid_e2e_api_ErrName), ("e2e/api.ErrRange", laid_e2e_api_ErrRange), ("e2e/api.ErrArg", laid_e2e_api_ErrArg), ("e2e/api.ErrDown", laid_e2e_api_ErrDown), ("io.EOF", laid_io_EOF), ("e2e/simdisk.nodeNames", laid_e2e_simdisk_nodeNames)] }
/-- NO THEOREM (fmt's text is open here; it may be false): for the released tool's asking of the row's closed facts alone. THE STATEMENT IS 'PublishIsWholeToldSaid' (Qxb6500695aGreatFmtCards.lean). -/
def PublishIsWholeFormAsk : Prop := publishIsWholeRow.holds Tryz.pinned (OpenSpec.ofChange publishIsWholeSpec)

/-- ITS FALSE NEIGHBOUR: 'it returns false'. Refute it at one input. -/
def publishIsWholeWrong : ChangeSpec := { name := "publishIsWhole", fn := fun _ => fun
  | [d] => { results := [.lit (.bool false)], args := [d] }
  | _ => none }
def PublishIsWholeWrongFormAsk : Prop := publishIsWholeRow.holds Tryz.pinned (OpenSpec.ofChange publishIsWholeWrong)

/-- 'simdisklaw.FullChangesNothing': WHATEVER THE INPUT: true; the input reads as it did. -/
def fullChangesNothingSpec : ChangeSpec := { name := "fullChangesNothing", fn := fun _ => fun
  | [d] => { results := [.lit (.bool true)], args := [d] }
  | _ => none }
def fullChangesNothingRow : OpenClaim := { program := "qxb6500695agreatfmt", sum := "749685506b8a645f1d882033ac3d5d5a7ec5f538364472acfa5d73c568ec44f1", func := "e2e/simdisklaw.FullChangesNothing", spec := "fullChangesNothing", stops := ["fmt.errorf"], inPlace := ["fmt.errorf", "slices.overlaps[string]", "maps.clone"], unfollowed := true, recurses := true, named := ["e2e/api.ErrFull", "e2e/api.ErrDown", "e2e/simdisk.nodeNames", "e2e/api.ErrArg", "e2e/api.ErrRange", "io.EOF", "e2e/api.ErrName", "e2e/api.ErrExists", "e2e/api.ErrNotFound"], plainKeys := false, apart := false, laid := [("e2e/api.ErrFull", laid_e2e_api_ErrFull), ("e2e/api.ErrNotFound", laid_e2e_api_ErrNotFound), ("e2e/api.ErrExists", laid_e2e_api_ErrExists), ("e2e/api.ErrName", laid_e2e_api_ErrName), ("e2e/api.ErrRange", laid_e2e_api_ErrRange), ("e2e/api.ErrArg", laid_e2e_api_ErrArg), ("e2e/api.ErrDown", laid_e2e_api_ErrDown), ("io.EOF", laid_io_EOF), ("e2e/simdisk.nodeNames", laid_e2e_simdisk_nodeNames)] }
/-- NO THEOREM (fmt's text is open here; it may be false): for the released tool's asking of the row's closed facts alone. THE STATEMENT IS 'FullChangesNothingToldSaid' (Qxb6500695aGreatFmtCards.lean). -/
def FullChangesNothingFormAsk : Prop := fullChangesNothingRow.holds Tryz.pinned (OpenSpec.ofChange fullChangesNothingSpec)

/-- ITS FALSE NEIGHBOUR: 'it returns false'. Refute it at one input. -/
def fullChangesNothingWrong : ChangeSpec := { name := "fullChangesNothing", fn := fun _ => fun
  | [d] => { results := [.lit (.bool false)], args := [d] }
  | _ => none }
def FullChangesNothingWrongFormAsk : Prop := fullChangesNothingRow.holds Tryz.pinned (OpenSpec.ofChange fullChangesNothingWrong)

/-- 'simdisklaw.NeverOverCapacity': WHATEVER THE INPUT: true; the input reads as it did. -/
def neverOverCapacitySpec : ChangeSpec := { name := "neverOverCapacity", fn := fun _ => fun
  | [d] => { results := [.lit (.bool true)], args := [d] }
  | _ => none }
def neverOverCapacityRow : OpenClaim := { program := "qxb6500695agreatfmt", sum := "749685506b8a645f1d882033ac3d5d5a7ec5f538364472acfa5d73c568ec44f1", func := "e2e/simdisklaw.NeverOverCapacity", spec := "neverOverCapacity", stops := ["fmt.errorf"], inPlace := ["fmt.errorf", "slices.overlaps[string]", "maps.clone"], unfollowed := true, recurses := true, named := ["e2e/simdisk.nodeNames", "e2e/api.ErrArg", "e2e/api.ErrRange", "e2e/api.ErrFull", "e2e/api.ErrDown", "io.EOF", "e2e/api.ErrName", "e2e/api.ErrExists", "e2e/api.ErrNotFound"], plainKeys := false, apart := false, laid := [("e2e/api.ErrFull", laid_e2e_api_ErrFull), ("e2e/api.ErrNotFound", laid_e2e_api_ErrNotFound), ("e2e/api.ErrExists", laid_e2e_api_ErrExists), ("e2e/api.ErrName", laid_e2e_api_ErrName), ("e2e/api.ErrRange", laid_e2e_api_ErrRange), ("e2e/api.ErrArg", laid_e2e_api_ErrArg), ("e2e/api.ErrDown", laid_e2e_api_ErrDown), ("io.EOF", laid_io_EOF), ("e2e/simdisk.nodeNames", laid_e2e_simdisk_nodeNames)] }
/-- NO THEOREM (fmt's text is open here; it may be false): for the released tool's asking of the row's closed facts alone. THE STATEMENT IS 'NeverOverCapacityToldSaid' (Qxb6500695aGreatFmtCards.lean). -/
def NeverOverCapacityFormAsk : Prop := neverOverCapacityRow.holds Tryz.pinned (OpenSpec.ofChange neverOverCapacitySpec)

/-- ITS FALSE NEIGHBOUR: 'it returns false'. Refute it at one input. -/
def neverOverCapacityWrong : ChangeSpec := { name := "neverOverCapacity", fn := fun _ => fun
  | [d] => { results := [.lit (.bool false)], args := [d] }
  | _ => none }
def NeverOverCapacityWrongFormAsk : Prop := neverOverCapacityRow.holds Tryz.pinned (OpenSpec.ofChange neverOverCapacityWrong)

/-- 'simdisklaw.Refines': WHATEVER THE INPUT: true; the input reads as it did. -/
def refinesSpec : ChangeSpec := { name := "refines", fn := fun _ => fun
  | [d] => { results := [.lit (.bool true)], args := [d] }
  | _ => none }
def refinesRow : OpenClaim := { program := "qxb6500695agreatfmt", sum := "749685506b8a645f1d882033ac3d5d5a7ec5f538364472acfa5d73c568ec44f1", func := "e2e/simdisklaw.Refines", spec := "refines", stops := ["fmt.errorf"], inPlace := ["fmt.errorf", "slices.overlaps[string]", "maps.clone", "internal/bytealg.IndexByteString", "internal/bytealg.IndexString"], unfollowed := true, recurses := true, named := ["e2e/simdisk.nodeNames", "e2e/api.ErrArg", "e2e/api.ErrRange", "e2e/api.ErrFull", "e2e/api.ErrDown", "io.EOF", "e2e/api.ErrName", "e2e/api.ErrExists", "e2e/api.ErrNotFound", "internal/bytealg.MaxLen"], plainKeys := false, apart := false, laid := [("e2e/api.ErrFull", laid_e2e_api_ErrFull), ("e2e/api.ErrNotFound", laid_e2e_api_ErrNotFound), ("e2e/api.ErrExists", laid_e2e_api_ErrExists), ("e2e/api.ErrName", laid_e2e_api_ErrName), ("e2e/api.ErrRange", laid_e2e_api_ErrRange), ("e2e/api.ErrArg", laid_e2e_api_ErrArg), ("e2e/api.ErrDown", laid_e2e_api_ErrDown), ("io.EOF", laid_io_EOF), ("e2e/simdisk.nodeNames", laid_e2e_simdisk_nodeNames)] }
/-- NO THEOREM (fmt's text is open here; it may be false): for the released tool's asking of the row's closed facts alone. THE STATEMENT IS 'RefinesToldSaid' (Qxb6500695aGreatFmtCards.lean). -/
def RefinesFormAsk : Prop := refinesRow.holds Tryz.pinned (OpenSpec.ofChange refinesSpec)

/-- ITS FALSE NEIGHBOUR: 'it returns false'. Refute it at one input. -/
def refinesWrong : ChangeSpec := { name := "refines", fn := fun _ => fun
  | [d] => { results := [.lit (.bool false)], args := [d] }
  | _ => none }
def RefinesWrongFormAsk : Prop := refinesRow.holds Tryz.pinned (OpenSpec.ofChange refinesWrong)

/-- 'simdisklaw.ForkIsIndependent': WHATEVER THE INPUT: true; the input reads as it did. -/
def forkIsIndependentSpec : ChangeSpec := { name := "forkIsIndependent", fn := fun _ => fun
  | [d] => { results := [.lit (.bool true)], args := [d] }
  | _ => none }
def forkIsIndependentRow : OpenClaim := { program := "qxb6500695agreatfmt", sum := "749685506b8a645f1d882033ac3d5d5a7ec5f538364472acfa5d73c568ec44f1", func := "e2e/simdisklaw.ForkIsIndependent", spec := "forkIsIndependent", stops := ["fmt.errorf"], inPlace := ["fmt.errorf", "slices.overlaps[string]", "maps.clone"], unfollowed := true, recurses := true, named := ["e2e/simdisk.nodeNames", "e2e/api.ErrArg", "e2e/api.ErrRange", "e2e/api.ErrFull", "e2e/api.ErrDown", "io.EOF", "e2e/api.ErrName", "e2e/api.ErrExists", "e2e/api.ErrNotFound"], plainKeys := false, apart := false, laid := [("e2e/api.ErrFull", laid_e2e_api_ErrFull), ("e2e/api.ErrNotFound", laid_e2e_api_ErrNotFound), ("e2e/api.ErrExists", laid_e2e_api_ErrExists), ("e2e/api.ErrName", laid_e2e_api_ErrName), ("e2e/api.ErrRange", laid_e2e_api_ErrRange), ("e2e/api.ErrArg", laid_e2e_api_ErrArg), ("e2e/api.ErrDown", laid_e2e_api_ErrDown), ("io.EOF", laid_io_EOF), ("e2e/simdisk.nodeNames", laid_e2e_simdisk_nodeNames)] }
/-- NO THEOREM (fmt's text is open here; it may be false): for the released tool's asking of the row's closed facts alone. THE STATEMENT IS 'ForkIsIndependentToldSaid' (Qxb6500695aGreatFmtCards.lean). -/
def ForkIsIndependentFormAsk : Prop := forkIsIndependentRow.holds Tryz.pinned (OpenSpec.ofChange forkIsIndependentSpec)

/-- ITS FALSE NEIGHBOUR: 'it returns false'. Refute it at one input. -/
def forkIsIndependentWrong : ChangeSpec := { name := "forkIsIndependent", fn := fun _ => fun
  | [d] => { results := [.lit (.bool false)], args := [d] }
  | _ => none }
def ForkIsIndependentWrongFormAsk : Prop := forkIsIndependentRow.holds Tryz.pinned (OpenSpec.ofChange forkIsIndependentWrong)

end Rows
end Go.Proofs.Qxb6500695aGreatFmt
