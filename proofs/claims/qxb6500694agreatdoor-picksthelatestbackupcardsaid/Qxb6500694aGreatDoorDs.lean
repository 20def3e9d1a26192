/-
  THE WORLD, PART S: Adopt, whole.
-/
import Derived.Test.Qxb6500694aGreatDoorDr
namespace Go.Proofs.Qxb6500694aGreatDoor
open Go Go.Eng Go.Proofs
set_option maxRecDepth 100000
set_option linter.unusedVariables false
set_option linter.unusedSimpArgs false
set_option linter.unusedSectionVars false

section
variable {H : Heap} {g : Gh} {cnt : Nat} {F : Fix} {esM esL esH esP : Array MapEntry} {a par br : Int} {b18 : Nat} {d : PD}

/-- What turns at a timeline without a primary. -/
theorem Wd.away {H' : Heap} {g' : Gh} (hW : Wd H g cnt F esM esL esH esP) (e : Ev (Sp a) H g H' g') (hno : ∀ e ∈ esP.toList, keyN e.key ≠ a) : Wd H' g' cnt F esM esL esH esP := by
  obtain ⟨nb, hbw⟩ := hW.world
  obtain ⟨cM, hrm, okM⟩ := hW.mM
  obtain ⟨cL, hrl, okL⟩ := hW.mL
  obtain ⟨esG, cG, hrg, okG⟩ := hW.mG
  have T := hW.tags
  have nf : ∀ k : Nat, (k < 9 ∨ 18 < k) → ∀ t, ¬ Sp a (k, t) := by
    intro k hk t hs
    have h1 := hs.2.1
    have h2 := hs.2.2
    simp only at h1 h2
    omega
  exact hW.re e (nf _ (by decide) _) (nf _ (by decide) _) (nf _ (by decide) _) (nf _ (by decide) _) (Nat.le_refl _) ⟨nb, e.get T.bw (nf _ (by decide) _) hbw⟩ ⟨cM, e.get T.rm (nf _ (by decide) _) hrm, okM⟩ ⟨esG, cG, e.get T.rg (nf _ (by decide) _) hrg, okG⟩ ⟨cL, e.get T.rl (nf _ (by decide) _) hrl, okL⟩
    hW.man hW.sizeM (fun x hx => (hW.log x hx).ev e (nf _ (by decide) _) (nf _ (by decide) _)) (fun x hx => (hW.prim x hx).ev e (nf _ (by decide) _) (fun k hs => hno x hx hs.1) (Nat.le_refl _) rfl)

theorem f40_L6_ht {H0 : Heap} {g0 : Gh} (hW : Wd H g cnt F esM esL esH esP) (hE : Ev (fun tg => tg ≠ (0, 0)) H0 g0 H g) (hno : ∀ e ∈ esP.toList, keyN e.key ≠ a) (hkey : ∃ e' ∈ esH.toList, keyN e'.key = a) (hp : Prim H g cnt 0 b18 a d) (m : Man) (bb : Bool) :
    f40_L6 (some ⟨F.bw, 0, none⟩) a par br (some ⟨b18, 0, none⟩) m.id m.par m.tl m.start m.stop m.pp m.pn m.pc bb H (adPost H0 g0 cnt F esM esL esH) := by
  apply f40_L6_of
  refine ⟨fun _ => ?_, fun _ => f40_L7_ht hW hE hno hkey hp⟩
  refine ⟨b18, 0, rfl, _, _, hp.blk, by simp [PD.cells], fun H1 hw1 => ?_⟩
  have hw1' : Wr H b18 (.cells (PD.cells { d with lid := m.id }) 169 (0, 0)) H1 := hw1
  obtain ⟨e1, hp1⟩ := hp.scalar hW.gok hw1' hp.lsn (fun _ _ => ⟨rfl, rfl, rfl⟩) ⟨rfl, rfl, rfl⟩ rfl
  refine ⟨b18, 0, rfl, _, _, hp1.blk, by simp [PD.cells], fun H2 hw2 => ?_⟩
  have hw2' : Wr H1 b18 (.cells (PD.cells { d with lid := m.id, lpos := m.start }) 169 (0, 0)) H2 := hw2
  obtain ⟨e2, hp2⟩ := hp1.scalar e1.ok hw2' hp.lsn (fun _ _ => ⟨rfl, rfl, rfl⟩) ⟨rfl, rfl, rfl⟩ rfl
  have e := e1.trans e2
  exact f40_L7_ht (hW.away e hno) (hE.trans (e.mono fun _ h => h.ne0)) hno hkey hp2

theorem f40_L5_ht {H0 : Heap} {g0 : Gh} (hW : Wd H g cnt F esM esL esH esP) (hE : Ev (fun tg => tg ≠ (0, 0)) H0 g0 H g) (hno : ∀ e ∈ esP.toList, keyN e.key ≠ a) (hkey : ∃ e' ∈ esH.toList, keyN e'.key = a) (hp : Prim H g cnt 0 b18 a d) (m : Man) {er : Value} (her : IsI er) :
    f40_L5 (some ⟨F.bw, 0, none⟩) a par br (some ⟨b18, 0, none⟩) m.id m.par m.tl m.start m.stop m.pp m.pn m.pc er H (adPost H0 g0 cnt F esM esL esH) := by
  apply f40_L5_of
  exact ⟨_, eqlErr her, fun _ => f40_L6_ht hW hE hno hkey hp m _, fun _ => f40_L6_ht hW hE hno hkey hp m _⟩

end

end Go.Proofs.Qxb6500694aGreatDoor
