/-
  NARROWER THAN 'FOR EVERY INPUT', by the rows' own cells (each row's printed sentence says how): Refines: laid · RerunGivesSameDisk: laid · RestoredAnswersAreTheFold: laid · NothingBeyondTheBranch: laid · ChainIsSound: laid · PicksTheLatestBackup: laid.
  DERIVED. THE GIVEN ROWS OF THIS SEAT. 6 by the template 'for every input the law returns true; each argument reads behind the call as it read before'; 0 by the template 'total and deterministic' (their statements: Qxb6500694aGreatDoorTotals.lean).
  GIVEN WITH THE SEED: the statements are not yours to turn. If you find one false, say at which input.
  Laid BY PROGRAM, IN A SANDBOX (cutbox-rows.mjs): the forced cells as the released guide's own fill.sh prints them over the translation c5c2b2dc327cda37… (all of the seat's roots in one cut). By AI agents, Wed Nov 11 2026. No macro, syntax, notation, axiom, sorry.
-/
import Derived.Test.Qxb6500694aGreatDoorChecked
import GoSem.Claim
import GoSem.ClaimJoined
import GoSem.ClaimMapViews
import Derived.JoinedTies
import Derived.KernelRfl
namespace Go.Proofs.Qxb6500694aGreatDoor
/- THE CELL 'sum', in the pinned program and in every row, IS THE sha256 OF THE DUMP (.gsa) THAT Qxb6500694aGreatDoorProg.lean LOADS. Nothing in Lean hashes anything: it is a label: what it is worth is what the hold of that sum in a sandbox is worth. -/
noncomputable def Tryz.pinned : Pinned := { name := "qxb6500694agreatdoor", sum := "c5c2b2dc327cda3768638730c975a44ab0ff0de2248ce61dec76864a4f5b3045", checked := Tryz.checked }
namespace Rows
def none {H : Type} : Left H := { results := [], args := [] }

/- WHAT THE LISTED PACKAGE-LEVEL VARIABLES READ AS WHEN THE CALL BEGINS. Each datum BY PROGRAM (the guide's laid-datum.mjs) off the statement by which the dump's own 'gosem.cut.vars' lays the variable. In a bare row this is a premise. The card (Qxb6500694aGreatDoorCards.lean) ties it to the program's text. -/
def laid_e2e_api_ErrNotFound {H : Type} : DataW H := .iface "*errors.errorString" (.ptr (.agg [.lit (.string [100, 105, 115, 107, 58, 32, 110, 111, 32, 115, 117, 99, 104, 32, 111, 98, 106, 101, 99, 116])]))
def laid_e2e_api_ErrExists {H : Type} : DataW H := .iface "*errors.errorString" (.ptr (.agg [.lit (.string [100, 105, 115, 107, 58, 32, 111, 98, 106, 101, 99, 116, 32, 101, 120, 105, 115, 116, 115])]))
def laid_e2e_api_ErrNoManifest {H : Type} : DataW H := .iface "*errors.errorString" (.ptr (.agg [.lit (.string [97, 114, 99, 104, 105, 118, 101, 58, 32, 110, 111, 32, 115, 117, 99, 104, 32, 109, 97, 110, 105, 102, 101, 115, 116, 32, 111, 114, 32, 112, 97, 103, 101])]))
def laid_e2e_api_ErrNoTimeline {H : Type} : DataW H := .iface "*errors.errorString" (.ptr (.agg [.lit (.string [114, 101, 115, 116, 111, 114, 101, 58, 32, 116, 105, 109, 101, 108, 105, 110, 101, 32, 117, 110, 107, 110, 111, 119, 110, 32, 111, 114, 32, 105, 116, 115, 32, 104, 105, 115, 116, 111, 114, 121, 32, 117, 110, 115, 111, 117, 110, 100])]))
def laid_e2e_api_ErrGap {H : Type} : DataW H := .iface "*errors.errorString" (.ptr (.agg [.lit (.string [114, 101, 115, 116, 111, 114, 101, 58, 32, 116, 104, 101, 32, 97, 114, 99, 104, 105, 118, 101, 100, 32, 108, 111, 103, 32, 100, 111, 101, 115, 32, 110, 111, 116, 32, 114, 101, 97, 99, 104, 32, 116, 104, 101, 32, 116, 97, 114, 103, 101, 116, 32, 119, 105, 116, 104, 111, 117, 116, 32, 97, 32, 103, 97, 112])]))
def laid_e2e_api_ErrNoBackup {H : Type} : DataW H := .iface "*errors.errorString" (.ptr (.agg [.lit (.string [114, 101, 115, 116, 111, 114, 101, 58, 32, 110, 111, 32, 119, 104, 111, 108, 101, 32, 98, 97, 99, 107, 117, 112, 32, 99, 104, 97, 105, 110, 32, 97, 116, 32, 111, 114, 32, 98, 101, 108, 111, 119, 32, 116, 104, 101, 32, 116, 97, 114, 103, 101, 116])]))
def laid_e2e_api_ErrBadChain {H : Type} : DataW H := .iface "*errors.errorString" (.ptr (.agg [.lit (.string [114, 101, 115, 116, 111, 114, 101, 58, 32, 98, 97, 99, 107, 117, 112, 32, 99, 104, 97, 105, 110, 32, 98, 114, 111, 107, 101, 110])]))
def laid_e2e_api_ErrCorrupt {H : Type} : DataW H := .iface "*errors.errorString" (.ptr (.agg [.lit (.string [114, 101, 115, 116, 111, 114, 101, 58, 32, 97, 114, 99, 104, 105, 118, 101, 32, 99, 111, 110, 116, 101, 110, 116, 32, 111, 117, 116, 32, 111, 102, 32, 115, 104, 97, 112, 101])]))
def laid_io_EOF {H : Type} : DataW H := .iface "*errors.errorString" (.ptr (.agg [.lit (.string [69, 79, 70])]))
def laid_e2e_api_ErrDown {H : Type} : DataW H := .iface "*errors.errorString" (.ptr (.agg [.lit (.string [100, 105, 115, 107, 58, 32, 112, 111, 119, 101, 114, 32, 105, 115, 32, 111, 102, 102])]))

/-- 'restorelaw.Refines': WHATEVER THE INPUT: true; the input reads as it did. -/
def refinesSpec : ChangeSpec := { name := "refines", fn := fun _ => fun
  | [d] => { results := [.lit (.bool true)], args := [d] }
  | _ => none }
def refinesRow : OpenClaim := { program := "qxb6500694agreatdoor", sum := "c5c2b2dc327cda3768638730c975a44ab0ff0de2248ce61dec76864a4f5b3045", func := "e2e/restorelaw.Refines", spec := "refines", inPlace := ["internal/reflectlite.ValueOf", "internal/reflectlite.Swapper", "(internal/reflectlite.Value).Len"], unfollowed := true, recurses := true, named := ["e2e/api.ErrNoTimeline", "e2e/api.ErrGap", "e2e/api.ErrNoBackup", "e2e/api.ErrNoManifest", "e2e/api.ErrExists", "e2e/api.ErrBadChain", "io.EOF", "e2e/api.ErrNotFound", "encoding/binary.BigEndian", "e2e/api.ErrCorrupt"], apart := false, laid := [("e2e/api.ErrNotFound", laid_e2e_api_ErrNotFound), ("e2e/api.ErrExists", laid_e2e_api_ErrExists), ("e2e/api.ErrNoManifest", laid_e2e_api_ErrNoManifest), ("e2e/api.ErrNoTimeline", laid_e2e_api_ErrNoTimeline), ("e2e/api.ErrGap", laid_e2e_api_ErrGap), ("e2e/api.ErrNoBackup", laid_e2e_api_ErrNoBackup), ("e2e/api.ErrBadChain", laid_e2e_api_ErrBadChain), ("e2e/api.ErrCorrupt", laid_e2e_api_ErrCorrupt), ("io.EOF", laid_io_EOF)] }
def RefinesSaid : Prop := refinesRow.holds Tryz.pinned (OpenSpec.ofChange refinesSpec)

/-- ITS FALSE NEIGHBOUR: 'it returns false'. Refute it at one input. -/
def refinesWrong : ChangeSpec := { name := "refines", fn := fun _ => fun
  | [d] => { results := [.lit (.bool false)], args := [d] }
  | _ => none }
def RefinesWrongFalsely : Prop := refinesRow.holds Tryz.pinned (OpenSpec.ofChange refinesWrong)

/-- 'restorelaw.RerunGivesSameDisk': WHATEVER THE INPUT: true; the input reads as it did. -/
def rerunGivesSameDiskSpec : ChangeSpec := { name := "rerunGivesSameDisk", fn := fun _ => fun
  | [d] => { results := [.lit (.bool true)], args := [d] }
  | _ => none }
def rerunGivesSameDiskRow : OpenClaim := { program := "qxb6500694agreatdoor", sum := "c5c2b2dc327cda3768638730c975a44ab0ff0de2248ce61dec76864a4f5b3045", func := "e2e/restorelaw.RerunGivesSameDisk", spec := "rerunGivesSameDisk", inPlace := ["internal/reflectlite.ValueOf", "internal/reflectlite.Swapper", "(internal/reflectlite.Value).Len"], unfollowed := true, recurses := true, named := ["e2e/api.ErrNoTimeline", "e2e/api.ErrGap", "e2e/api.ErrNoBackup", "e2e/api.ErrNoManifest", "e2e/api.ErrExists", "e2e/api.ErrBadChain", "io.EOF", "e2e/api.ErrNotFound", "encoding/binary.BigEndian", "e2e/api.ErrCorrupt", "e2e/api.ErrDown"], apart := false, laid := [("e2e/api.ErrNotFound", laid_e2e_api_ErrNotFound), ("e2e/api.ErrExists", laid_e2e_api_ErrExists), ("e2e/api.ErrDown", laid_e2e_api_ErrDown), ("e2e/api.ErrNoManifest", laid_e2e_api_ErrNoManifest), ("e2e/api.ErrNoTimeline", laid_e2e_api_ErrNoTimeline), ("e2e/api.ErrGap", laid_e2e_api_ErrGap), ("e2e/api.ErrNoBackup", laid_e2e_api_ErrNoBackup), ("e2e/api.ErrBadChain", laid_e2e_api_ErrBadChain), ("e2e/api.ErrCorrupt", laid_e2e_api_ErrCorrupt), ("io.EOF", laid_io_EOF)] }
def RerunGivesSameDiskSaid : Prop := rerunGivesSameDiskRow.holds Tryz.pinned (OpenSpec.ofChange rerunGivesSameDiskSpec)

/-- ITS FALSE NEIGHBOUR: 'it returns false'. Refute it at one input. -/
def rerunGivesSameDiskWrong : ChangeSpec := { name := "rerunGivesSameDisk", fn := fun _ => fun
  | [d] => { results := [.lit (.bool false)], args := [d] }
  | _ => none }
def RerunGivesSameDiskWrongFalsely : Prop := rerunGivesSameDiskRow.holds Tryz.pinned (OpenSpec.ofChange rerunGivesSameDiskWrong)

/-- 'restorelaw.RestoredAnswersAreTheFold': WHATEVER THE INPUT: true; the input reads as it did. -/
def restoredAnswersAreTheFoldSpec : ChangeSpec := { name := "restoredAnswersAreTheFold", fn := fun _ => fun
  | [d] => { results := [.lit (.bool true)], args := [d] }
  | _ => none }
def restoredAnswersAreTheFoldRow : OpenClaim := { program := "qxb6500694agreatdoor", sum := "c5c2b2dc327cda3768638730c975a44ab0ff0de2248ce61dec76864a4f5b3045", func := "e2e/restorelaw.RestoredAnswersAreTheFold", spec := "restoredAnswersAreTheFold", inPlace := ["internal/reflectlite.ValueOf", "internal/reflectlite.Swapper", "(internal/reflectlite.Value).Len"], unfollowed := true, recurses := true, named := ["e2e/api.ErrNoTimeline", "e2e/api.ErrGap", "e2e/api.ErrNoBackup", "e2e/api.ErrNoManifest", "e2e/api.ErrExists", "e2e/api.ErrDown", "e2e/api.ErrBadChain", "io.EOF", "e2e/api.ErrNotFound", "encoding/binary.BigEndian", "e2e/api.ErrCorrupt"], apart := false, laid := [("e2e/api.ErrNotFound", laid_e2e_api_ErrNotFound), ("e2e/api.ErrExists", laid_e2e_api_ErrExists), ("e2e/api.ErrDown", laid_e2e_api_ErrDown), ("e2e/api.ErrNoManifest", laid_e2e_api_ErrNoManifest), ("e2e/api.ErrNoTimeline", laid_e2e_api_ErrNoTimeline), ("e2e/api.ErrGap", laid_e2e_api_ErrGap), ("e2e/api.ErrNoBackup", laid_e2e_api_ErrNoBackup), ("e2e/api.ErrBadChain", laid_e2e_api_ErrBadChain), ("e2e/api.ErrCorrupt", laid_e2e_api_ErrCorrupt), ("io.EOF", laid_io_EOF)] }
def RestoredAnswersAreTheFoldSaid : Prop := restoredAnswersAreTheFoldRow.holds Tryz.pinned (OpenSpec.ofChange restoredAnswersAreTheFoldSpec)

/-- ITS FALSE NEIGHBOUR: 'it returns false'. Refute it at one input. -/
def restoredAnswersAreTheFoldWrong : ChangeSpec := { name := "restoredAnswersAreTheFold", fn := fun _ => fun
  | [d] => { results := [.lit (.bool false)], args := [d] }
  | _ => none }
def RestoredAnswersAreTheFoldWrongFalsely : Prop := restoredAnswersAreTheFoldRow.holds Tryz.pinned (OpenSpec.ofChange restoredAnswersAreTheFoldWrong)

/-- 'restorelaw.NothingBeyondTheBranch': WHATEVER THE INPUT: true; the input reads as it did. -/
def nothingBeyondTheBranchSpec : ChangeSpec := { name := "nothingBeyondTheBranch", fn := fun _ => fun
  | [d] => { results := [.lit (.bool true)], args := [d] }
  | _ => none }
def nothingBeyondTheBranchRow : OpenClaim := { program := "qxb6500694agreatdoor", sum := "c5c2b2dc327cda3768638730c975a44ab0ff0de2248ce61dec76864a4f5b3045", func := "e2e/restorelaw.NothingBeyondTheBranch", spec := "nothingBeyondTheBranch", inPlace := ["internal/reflectlite.ValueOf", "internal/reflectlite.Swapper", "(internal/reflectlite.Value).Len"], unfollowed := true, recurses := true, named := ["e2e/api.ErrNoTimeline", "e2e/api.ErrGap", "e2e/api.ErrNoBackup", "e2e/api.ErrNoManifest", "e2e/api.ErrExists", "e2e/api.ErrDown", "e2e/api.ErrBadChain", "io.EOF", "e2e/api.ErrNotFound", "encoding/binary.BigEndian", "e2e/api.ErrCorrupt"], apart := false, laid := [("e2e/api.ErrNotFound", laid_e2e_api_ErrNotFound), ("e2e/api.ErrExists", laid_e2e_api_ErrExists), ("e2e/api.ErrDown", laid_e2e_api_ErrDown), ("e2e/api.ErrNoManifest", laid_e2e_api_ErrNoManifest), ("e2e/api.ErrNoTimeline", laid_e2e_api_ErrNoTimeline), ("e2e/api.ErrGap", laid_e2e_api_ErrGap), ("e2e/api.ErrNoBackup", laid_e2e_api_ErrNoBackup), ("e2e/api.ErrBadChain", laid_e2e_api_ErrBadChain), ("e2e/api.ErrCorrupt", laid_e2e_api_ErrCorrupt), ("io.EOF", laid_io_EOF)] }
def NothingBeyondTheBranchSaid : Prop := nothingBeyondTheBranchRow.holds Tryz.pinned (OpenSpec.ofChange nothingBeyondTheBranchSpec)

/-- ITS FALSE NEIGHBOUR: 'it returns false'. Refute it at one input. -/
def nothingBeyondTheBranchWrong : ChangeSpec := { name := "nothingBeyondTheBranch", fn := fun _ => fun
  | [d] => { results := [.lit (.bool false)], args := [d] }
  | _ => none }
def NothingBeyondTheBranchWrongFalsely : Prop := nothingBeyondTheBranchRow.holds Tryz.pinned (OpenSpec.ofChange nothingBeyondTheBranchWrong)

/-- 'restorelaw.ChainIsSound': WHATEVER THE INPUT: true; the input reads as it did. -/
def chainIsSoundSpec : ChangeSpec := { name := "chainIsSound", fn := fun _ => fun
  | [d] => { results := [.lit (.bool true)], args := [d] }
  | _ => none }
def chainIsSoundRow : OpenClaim := { program := "qxb6500694agreatdoor", sum := "c5c2b2dc327cda3768638730c975a44ab0ff0de2248ce61dec76864a4f5b3045", func := "e2e/restorelaw.ChainIsSound", spec := "chainIsSound", inPlace := ["internal/reflectlite.ValueOf", "internal/reflectlite.Swapper", "(internal/reflectlite.Value).Len"], unfollowed := true, recurses := true, named := ["e2e/api.ErrNoTimeline", "e2e/api.ErrGap", "e2e/api.ErrNoBackup", "e2e/api.ErrNoManifest", "e2e/api.ErrExists", "e2e/api.ErrBadChain"], apart := false, laid := [("e2e/api.ErrExists", laid_e2e_api_ErrExists), ("e2e/api.ErrNoManifest", laid_e2e_api_ErrNoManifest), ("e2e/api.ErrNoTimeline", laid_e2e_api_ErrNoTimeline), ("e2e/api.ErrGap", laid_e2e_api_ErrGap), ("e2e/api.ErrNoBackup", laid_e2e_api_ErrNoBackup), ("e2e/api.ErrBadChain", laid_e2e_api_ErrBadChain)] }
def ChainIsSoundSaid : Prop := chainIsSoundRow.holds Tryz.pinned (OpenSpec.ofChange chainIsSoundSpec)

/-- ITS FALSE NEIGHBOUR: 'it returns false'. Refute it at one input. -/
def chainIsSoundWrong : ChangeSpec := { name := "chainIsSound", fn := fun _ => fun
  | [d] => { results := [.lit (.bool false)], args := [d] }
  | _ => none }
def ChainIsSoundWrongFalsely : Prop := chainIsSoundRow.holds Tryz.pinned (OpenSpec.ofChange chainIsSoundWrong)

/-- 'restorelaw.PicksTheLatestBackup': WHATEVER THE INPUT: true; the input reads as it did. -/
def picksTheLatestBackupSpec : ChangeSpec := { name := "picksTheLatestBackup", fn := fun _ => fun
  | [d] => { results := [.lit (.bool true)], args := [d] }
  | _ => none }
def picksTheLatestBackupRow : OpenClaim := { program := "qxb6500694agreatdoor", sum := "c5c2b2dc327cda3768638730c975a44ab0ff0de2248ce61dec76864a4f5b3045", func := "e2e/restorelaw.PicksTheLatestBackup", spec := "picksTheLatestBackup", inPlace := ["internal/reflectlite.ValueOf", "internal/reflectlite.Swapper", "(internal/reflectlite.Value).Len"], unfollowed := true, recurses := true, named := ["e2e/api.ErrNoTimeline", "e2e/api.ErrGap", "e2e/api.ErrNoBackup", "e2e/api.ErrNoManifest", "e2e/api.ErrExists", "e2e/api.ErrBadChain"], apart := false, laid := [("e2e/api.ErrExists", laid_e2e_api_ErrExists), ("e2e/api.ErrNoManifest", laid_e2e_api_ErrNoManifest), ("e2e/api.ErrNoTimeline", laid_e2e_api_ErrNoTimeline), ("e2e/api.ErrGap", laid_e2e_api_ErrGap), ("e2e/api.ErrNoBackup", laid_e2e_api_ErrNoBackup), ("e2e/api.ErrBadChain", laid_e2e_api_ErrBadChain)] }
def PicksTheLatestBackupSaid : Prop := picksTheLatestBackupRow.holds Tryz.pinned (OpenSpec.ofChange picksTheLatestBackupSpec)

/-- ITS FALSE NEIGHBOUR: 'it returns false'. Refute it at one input. -/
def picksTheLatestBackupWrong : ChangeSpec := { name := "picksTheLatestBackup", fn := fun _ => fun
  | [d] => { results := [.lit (.bool false)], args := [d] }
  | _ => none }
def PicksTheLatestBackupWrongFalsely : Prop := picksTheLatestBackupRow.holds Tryz.pinned (OpenSpec.ofChange picksTheLatestBackupWrong)

end Rows
end Go.Proofs.Qxb6500694aGreatDoor
