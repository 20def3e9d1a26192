/-
  THE WORLD, PART X: a new archive.
-/
import Derived.Test.Qxb6500694aGreatDoorDw
namespace Go.Proofs.Qxb6500694aGreatDoor
open Go Go.Eng Go.Proofs
set_option maxRecDepth 100000
set_option linter.unusedVariables false
set_option linter.unusedSimpArgs false
set_option linter.unusedSectionVars false

def hist1 : Hist := ⟨1, 0, 0⟩
def esH1 : Array MapEntry := #[{ key := .int .u32 1, val := hist1.val, born := 0 }]

/-- A new archive. -/
structure NewA (H : Heap) (g : Gh) (ba rm rg rl rh : Nat) : Prop where
  ta : g ba = some (3, 0)
  tm : g rm = some (4, 0)
  tg : g rg = some (5, 0)
  tl : g rl = some (6, 0)
  th : g rh = some (7, 0)
  a : H ba = some (.cells #[.map (some rm), .map (some rg), .map (some rl), .map (some rh)] 118 (0, 0))
  m : H rm = some (.map #[] 0)
  g' : H rg = some (.map #[] 0)
  l : H rl = some (.map #[] 0)
  h : H rh = some (.map esH1 1)

theorem Ev.tagNew {S : Nat × Int → Prop} {H : Heap} {g : Gh} (hg : GOk H g) {b : Nat} (hb : g b = none) (hH : H b ≠ none) (tg : Nat × Int) : Ev S H g H (gset g b tg) ∧ gset g b tg b = some tg := by
  refine ⟨⟨fun x t hx => ?_, fun x t hx => ?_, fun _ _ _ _ => rfl⟩, by simp [gset]⟩
  · unfold gset at hx
    by_cases he : x = b
    · subst he; exact hH
    · rw [if_neg he] at hx; exact hg x t hx
  · unfold gset
    rw [if_neg (by intro he; rw [he, hb] at hx; cases hx)]; exact hx

theorem f45_ht {H : Heap} {g : Gh} (hg : GOk H g) : HT Tryz.prog 45 [] H fun v H' => ∃ g' ba rm rg rl rh, v = .pointer (some ⟨ba, 0, none⟩) ∧ Ev (fun _ => False) H g H' g' ∧ NewA H' g' ba rm rg rl rh := by
  apply f45_of
  intro b1 h1 ha1 b2 h2 ha2 b3 h3 ha3 b4 h4 ha4
  refine semOk_mapUpdate Tryz.underlying116 Tryz.underlying29 ha4.same (by intro e he; simp at he) fun h5 hw5 => ?_
  intro b8 h6 ha6
  have e4 : Ev (fun _ => False) H g h4 g := Ev.sub hg (((ha1.sub.al ha2).al ha3).al ha4)
  have h4n : H b4 = none := by
    cases hc : H b4 with
    | none => rfl
    | some x => have := ((ha1.sub.al ha2).al ha3) _ _ hc; rw [ha4.fresh] at this; cases this
  have e5 : Ev (fun _ => False) h4 g h5 g := Ev.wr e4.ok hw5 fun tg h => by rw [untag hg h4n] at h; cases h
  have hw5' : Wr h4 b4 (.map esH1 1) h5 := hw5
  have n12 : b1 ≠ b2 := by intro he; have := ha2.fresh; rw [← he, ha1.same] at this; cases this
  have n13 : b1 ≠ b3 := by intro he; have := ha3.fresh; rw [← he, ha2.keep ha1.same] at this; cases this
  have n14 : b1 ≠ b4 := by intro he; have := ha4.fresh; rw [← he, ha3.keep (ha2.keep ha1.same)] at this; cases this
  have n23 : b2 ≠ b3 := by intro he; have := ha3.fresh; rw [← he, ha2.same] at this; cases this
  have n24 : b2 ≠ b4 := by intro he; have := ha4.fresh; rw [← he, ha3.keep ha2.same] at this; cases this
  have n34 : b3 ≠ b4 := by intro he; have := ha4.fresh; rw [← he, ha3.same] at this; cases this
  have m1 : h5 b1 = some (.map #[] 0) := hw5'.keep (ha4.keep (ha3.keep (ha2.keep ha1.same))) n14
  have m2 : h5 b2 = some (.map #[] 0) := hw5'.keep (ha4.keep (ha3.keep ha2.same)) n24
  have m3 : h5 b3 = some (.map #[] 0) := hw5'.keep (ha4.keep ha3.same) n34
  have m4 : h5 b4 = some (.map esH1 1) := hw5'.same
  have u1 : g b1 = none := untag hg ha1.fresh
  have u2 : g b2 = none := untag hg (by cases hc : H b2 with | none => rfl | some x => (have := ha1.sub _ _ hc; rw [ha2.fresh] at this; cases this))
  have u3 : g b3 = none := untag hg (by cases hc : H b3 with | none => rfl | some x => (have := (ha1.sub.al ha2) _ _ hc; rw [ha3.fresh] at this; cases this))
  have u4 : g b4 = none := untag hg h4n
  have e45 := e4.trans e5
  obtain ⟨f1, t1⟩ := Ev.tagNew (S := fun _ => False) e45.ok u1 (by rw [m1]; simp) (4, 0)
  obtain ⟨f2, t2⟩ := Ev.tagNew (S := fun _ => False) f1.ok (b := b2) (by simp [gset, Ne.symm n12, u2]) (by rw [m2]; simp) (5, 0)
  obtain ⟨f3, t3⟩ := Ev.tagNew (S := fun _ => False) f2.ok (b := b3) (by simp [gset, Ne.symm n13, Ne.symm n23, u3]) (by rw [m3]; simp) (6, 0)
  obtain ⟨f4, t4⟩ := Ev.tagNew (S := fun _ => False) f3.ok (b := b4) (by simp [gset, Ne.symm n14, Ne.symm n24, Ne.symm n34, u4]) (by rw [m4]; simp) (7, 0)
  obtain ⟨f5, t5⟩ := Ev.al (S := fun _ => False) f4.ok ha6 (3, 0)
  exact ⟨_, b8, b1, b2, b3, b4, rfl, ((((e45.trans f1).trans f2).trans f3).trans f4).trans f5, t5, f5.tag _ _ (f4.tag _ _ (f3.tag _ _ (f2.tag _ _ t1))), f5.tag _ _ (f4.tag _ _ (f3.tag _ _ t2)), f5.tag _ _ (f4.tag _ _ t3), f5.tag _ _ t4, ha6.same, ha6.keep m1, ha6.keep m2, ha6.keep m3, ha6.keep m4⟩

end Go.Proofs.Qxb6500694aGreatDoor
