/-
  THE WORLD, PART W: its beginning.
-/
import Derived.Test.Qxb6500694aGreatDoorDv
namespace Go.Proofs.Qxb6500694aGreatDoor
open Go Go.Eng Go.Proofs
set_option maxRecDepth 100000
set_option linter.unusedVariables false
set_option linter.unusedSimpArgs false
set_option linter.unusedSectionVars false

theorem f64_ht {H : Heap} {s c : Int} : HT Tryz.prog 64 [.int .i64 s, .int .i64 c] H fun v H' => Sub H H' ∧ ∃ b, v = .pointer (some ⟨b, 0, none⟩) := by
  apply f64_of
  intro b7 h1 ha1 b8 h2 ha2 b9 h3 ha3 b11 h4 ha4
  exact ⟨((ha1.sub.al ha2).al ha3).al ha4, b11, rfl⟩

end Go.Proofs.Qxb6500694aGreatDoor
