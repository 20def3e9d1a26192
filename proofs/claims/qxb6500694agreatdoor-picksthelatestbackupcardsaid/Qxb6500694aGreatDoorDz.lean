/-
  THE WORLD, PART Z: the stage.
-/
import Derived.Test.Qxb6500694aGreatDoorDy
namespace Go.Proofs.Qxb6500694aGreatDoor
open Go Go.Eng Go.Proofs
set_option maxRecDepth 100000
set_option linter.unusedVariables false
set_option linter.unusedSimpArgs false
set_option linter.unusedSectionVars false

theorem esP1_ok (pb : Nat) : MapOk .u32 (esP1 pb) 1 := by
  refine ⟨?_, ?_, ?_, ?_⟩
  · intro e he; simp [esP1] at he; subst he; exact ⟨1, rfl⟩
  · simp [esP1]
  · intro e he; simp [esP1] at he; subst he; exact Nat.zero_lt_one
  · simp [esP1]

theorem esH1_ok : MapOk .u32 esH1 1 := by
  refine ⟨?_, ?_, ?_, ?_⟩
  · intro e he; simp [esH1] at he; subst he; exact ⟨1, rfl⟩
  · simp [esH1]
  · intro e he; simp [esH1] at he; subst he; decide
  · simp [esH1]

theorem f37_ht {H : Heap} {g : Gh} (hg : GOk H g) : HT Tryz.prog 37 [] H fun v H' => ∃ (F : Fix) (g' : Gh) (esP : Array MapEntry), v = .pointer (some ⟨F.bs, 0, none⟩) ∧ Ev (fun tg => tg ≠ (0, 0)) H g H' g' ∧ Wd H' g' 0 F #[] #[] esH1 esP := by
  apply f37_of
  refine (f63_ht hg).mono fun v H1 ⟨g1, bw, ba, rm, rg, rl, rh, rp, pb, d, hv, e1, hN⟩ => ⟨_, hv, ?_⟩
  refine f64_ht.mono fun v H2 ⟨hs2, dk, hv2⟩ => ⟨_, hv2, fun bs H3 ha3 => ?_⟩
  have e2 : Ev (fun _ => False) H1 g1 H2 g1 := Ev.sub e1.ok hs2
  obtain ⟨e3, t3⟩ := Ev.al (S := fun _ => False) e2.ok ha3 (1, 0)
  have e := e2.trans e3
  have A := hN.arch.ev e
  have hp := hN.prim.ev e (fun _ h => h) (fun h => h)
  refine ⟨⟨bs, bw, ba, ⟨dk, 0, none⟩, rp, rm, rg, rl, rh⟩, _, esP1 pb, rfl, (e1.trans e).mono fun _ h => h.elim, ⟨e.ok, ⟨t3, e.tag _ _ hN.tw, A.ta, A.tm, A.tg, A.tl, A.th, e.tag _ _ hN.tp⟩, ha3.same, ⟨0, e.get hN.tw (fun h => h) hN.w⟩, A.a, ⟨0, A.m, MapOk.empty _ _⟩, ⟨#[], 0, A.g', MapOk.empty _ _, by simp⟩, ⟨0, A.l, MapOk.empty _ _⟩, ⟨1, A.h, esH1_ok⟩, ⟨1, e.get hN.tp (fun h => h) hN.p, esP1_ok pb⟩, by simp, fun x hx => ?_, by simp, fun x hx => ?_, by simp, by simp [esH1]⟩⟩
  · simp [esH1] at hx
    subst hx
    exact ⟨hist1, rfl, rfl, by simp [hist1, inU], by simp [hist1], by simp [hist1], by simp [hist1], by simp [hist1]⟩
  · simp [esP1] at hx
    subst hx
    exact ⟨pb, d, rfl, hp, { key := .int .u32 1, val := hist1.val, born := 0 }, by simp [esH1], rfl⟩

end Go.Proofs.Qxb6500694aGreatDoor
