/-
  THE WORLD, PART T: Adopt, whole.
-/
import Derived.Test.Qxb6500694aGreatDoorDs
namespace Go.Proofs.Qxb6500694aGreatDoor
open Go Go.Eng Go.Proofs
set_option maxRecDepth 100000
set_option linter.unusedVariables false
set_option linter.unusedSimpArgs false
set_option linter.unusedSectionVars false

section
variable {H : Heap} {g : Gh} {cnt : Nat} {F : Fix} {esM esL esH esP : Array MapEntry} {a par br : Int} {b18 : Nat}

theorem f40_L4_end (hcnt : cnt ≤ 65536) (hW : Wd H g cnt F esM esL esH esP) (hG : ∀ (G : Heap) (k : Gh), Ev (fun tg => tg ≠ (0, 0)) H g G k → Globs G) (hno : ∀ e ∈ esP.toList, keyN e.key ≠ a) (hkey : ∃ e' ∈ esH.toList, keyN e'.key = a)
    {h : Heap} {g2 : Gh} {d : PD} (e0 : Ev (fun _ => False) H g h g2) (hp : Prim h g2 cnt 0 b18 a d) {f : Nat → Int} :
    f40_L4 (some ⟨F.bw, 0, none⟩) a par br (some ⟨b18, 0, none⟩) (f 0) (f 1) (f 2) (f 3) (f 4) (f 5) (f 6) (f 7) (f 8) (f 9) (f 10) (f 11) 4 h (adPost H g cnt F esM esL esH) := by
  apply f40_L4_of
  refine ⟨(fun hd => by cases hd), fun _ => ?_⟩
  refine (f67_ht hcnt e0.ok hp).mono fun v H3 ⟨hv3, g3, d3, e3, hp3, _⟩ => ⟨hv3, ?_⟩
  have e := (e0.mono (S' := Sp a) fun _ h => h.elim).trans e3
  have hW3 := hW.away e hno
  have hE := e.mono (S' := fun tg => tg ≠ (0, 0)) fun _ h => h.ne0
  have hG3 := hG H3 g3 hE
  obtain ⟨nb, hbw⟩ := hW3.world
  obtain ⟨cP, hrp, okP⟩ := hW3.mP
  have hlook := lookIs_int (P := Tryz.prog) (t := 45) (r := F.rp) (c := cP) (n := par) (ok := false) (zero := .pointer none) Tryz.underlying45 Tryz.underlying29 (inf := Tryz.t164) (by kernel_rfl) (by kernel_rfl) okP.1
  refine ⟨F.bw, 0, rfl, _, Cells.of hbw rfl, F.rp, esP, cP, rfl, hrp, ?_⟩
  cases hg : iget esP.toList par with
  | none =>
    simp only [lookV, hg] at hlook
    exact ⟨none, hlook, _, ptrNeq Tryz.underlying164, (fun h => by cases h), fun _ => f40_L7_ht hW3 hE hno hkey hp3⟩
  | some v =>
    obtain ⟨x, hx, hk, hve⟩ := iget_mem hg
    obtain ⟨pb, dp, hv, hpp, _⟩ := hW3.prim x hx
    simp only [lookV, hg, ← hve, hv] at hlook
    refine ⟨some ⟨pb, 0, none⟩, hlook, _, ptrNeq Tryz.underlying164, fun _ => ⟨F.bw, 0, rfl, _, Cells.of hbw rfl, pb, 0, rfl, _, Cells.of hpp.blk rfl, ?_, fun _ => ?_⟩, fun _ => f40_L7_ht hW3 hE hno hkey hp3⟩
    · refine (f33_ht (hW3.toArch hcnt) hG3 _).mono fun v h4 ⟨he, hv4⟩ => ?_
      subst he
      rcases hv4 with ⟨m, _, _, rfl⟩ | ⟨_, t, y, rfl⟩
      · exact ⟨m.id, m.par, m.tl, m.start, m.stop, m.pp, m.pn, m.pc, _, rfl, fun _ => f40_L5_ht hW3 hE hno hkey hp3 m IsI.nil⟩
      · exact ⟨0, 0, 0, 0, 0, none, 0, 0, _, rfl, fun _ => f40_L5_ht hW3 hE hno hkey hp3 Man.zero (IsI.some _ _)⟩
    · refine (f33_ht (hW3.toArch hcnt) hG3 _).mono fun v h4 ⟨he, hv4⟩ => ?_
      subst he
      rcases hv4 with ⟨m, _, _, rfl⟩ | ⟨_, t, y, rfl⟩
      · exact ⟨m.id, m.par, m.tl, m.start, m.stop, m.pp, m.pn, m.pc, _, rfl, f40_L5_ht hW3 hE hno hkey hp3 m IsI.nil⟩
      · exact ⟨0, 0, 0, 0, 0, none, 0, 0, _, rfl, f40_L5_ht hW3 hE hno hkey hp3 Man.zero (IsI.some _ _)⟩

end

end Go.Proofs.Qxb6500694aGreatDoor
