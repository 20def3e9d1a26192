/-
  PicksTheLatestBackup: THE WHOLE LAW.
-/
import Derived.Test.Qxb6500694aGreatDoorPc
namespace Go.Proofs.Qxb6500694aGreatDoor
open Go Go.Eng Go.Proofs
set_option maxRecDepth 100000
set_option linter.unusedVariables false
set_option linter.unusedSimpArgs false
set_option linter.unusedSectionVars false

section
variable {H : Heap} {q : Option Addr} {qn qc : Nat} {ops : List OpV}

theorem f10b_ht (hG : Globs H) (hr : ReadL H 9 OpV.cs q qn ops) (hops : ∀ o ∈ ops, OpOk H o) (hqn : qn ≤ 65536) :
    HT Tryz.prog 10 [.slice q qn qc, .func (.func 34) #[] #[]] H fun v H' => v = .bool true ∧ Sub H H' := by
  apply f10b_of
  refine (f37_ht (ghAll_ok H)).mono fun v H1 ⟨F, g', esP, hv, hE, hW⟩ => ⟨_, hv, ?_⟩
  exact f10b_L1_ht (ghAll_ro H) hG hr hops hqn qn 0 H1 g' #[] #[] esH1 esP (by omega) hW hE

theorem f8_ht (hG : Globs H) (hr : ReadL H 9 OpV.cs q qn ops) (hops : ∀ o ∈ ops, OpRd H o) :
    HT Tryz.prog 8 [.slice q qn qc] H fun v H' => v = .bool true ∧ Sub H H' := by
  apply f8_of
  refine (f9_ht hr hops).mono fun v H1 ⟨hH, x, hv, hx⟩ => ⟨x, hv, ?_⟩
  subst hH
  refine ⟨fun _ => ⟨rfl, fun _ _ h => h⟩, fun hxt => ?_⟩
  have hx1 : x = true := by cases x <;> simp_all
  obtain ⟨hq, hl⟩ := hx hx1
  exact (f10b_ht hG hr (fun o ho => (hops o ho).ok (hl o ho)) hq).mono fun v H2 ⟨hv2, hs2⟩ => ⟨true, hv2, rfl, hs2⟩

end

end Go.Proofs.Qxb6500694aGreatDoor
