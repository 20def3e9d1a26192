/-
  SMALL LAWS OF OBJECTS.
-/
import Derived.Test.Qxb6500695aGreatFmtCb
namespace Go.Proofs.Qxb6500695aGreatFmt
open Go Go.Eng Go.Proofs
set_option maxRecDepth 100000
set_option linter.unusedVariables false
set_option linter.unusedSimpArgs false
set_option linter.unusedSectionVars false

section
variable {ss cap : Nat} {s s' : StV} {E : Nat → Value}

theorem resv_O {b size : Nat} (h : resv ss cap s b size = some s') : (∀ x, x ≠ b → s'.O x = s.O x) ∧ (s'.O b).pl = (s.O b).pl ∧ (s'.O b).size = (s.O b).size := by
  unfold resv at h
  split at h
  · cases h; exact ⟨fun _ _ => rfl, rfl, rfl⟩
  · split at h
    · cases h
    · cases h
      refine ⟨fun x hx => ?_, ?_, ?_⟩
      · simp [oset, hx]
      · simp [oset]
      · simp [oset]

theorem setSize_size {o : Ob} {n : Nat} : (o.setSize n).size = n ∧ (o.setSize n).pl = o.pl := by
  unfold Ob.setSize
  split
  · rename_i h; exact ⟨h.symm, rfl⟩
  · exact ⟨rfl, rfl⟩

/-- No declared error is nil. -/
def ENe (E : Nat → Value) : Prop := ∀ b, b < 9 → b ≠ 5 → E b ≠ .nilIface

theorem ENe.fe (h : ENe E) (nm : ByteArray) : Qxb6500695aGreatFmt.fe E nm ≠ .nilIface := by
  unfold Qxb6500695aGreatFmt.fe
  split
  · exact h 8 (by decide) (by decide)
  · exact h 4 (by decide) (by decide)

end

end Go.Proofs.Qxb6500695aGreatFmt
