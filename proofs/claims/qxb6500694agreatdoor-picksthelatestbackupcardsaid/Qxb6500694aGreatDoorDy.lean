/-
  THE WORLD, PART Y: a new world.
-/
import Derived.Test.Qxb6500694aGreatDoorDx
namespace Go.Proofs.Qxb6500694aGreatDoor
open Go Go.Eng Go.Proofs
set_option maxRecDepth 100000
set_option linter.unusedVariables false
set_option linter.unusedSimpArgs false
set_option linter.unusedSectionVars false

def esP1 (pb : Nat) : Array MapEntry := #[{ key := .int .u32 1, val := .pointer (some ⟨pb, 0, none⟩), born := 0 }]

/-- A new world. -/
structure NewW (H : Heap) (g : Gh) (bw ba rm rg rl rh rp pb : Nat) (d : PD) : Prop where
  arch : NewA H g ba rm rg rl rh
  tw : g bw = some (2, 0)
  tp : g rp = some (8, 0)
  w : H bw = some (.cells #[.pointer (some ⟨ba, 0, none⟩), .map (some rp), .int .u64 0] 47 (0, 0))
  p : H rp = some (.map (esP1 pb) 1)
  prim : Prim H g 0 0 pb 1 d

def newPostW (H : Heap) (g : Gh) (v : Value) (H' : Heap) : Prop :=
  ∃ g' bw ba rm rg rl rh rp pb d, v = .pointer (some ⟨bw, 0, none⟩) ∧ Ev (fun _ => False) H g H' g' ∧ NewW H' g' bw ba rm rg rl rh rp pb d

theorem NewA.ev {H H' : Heap} {g g' : Gh} {ba rm rg rl rh : Nat} (h : NewA H g ba rm rg rl rh) (e : Ev (fun _ => False) H g H' g') : NewA H' g' ba rm rg rl rh :=
  ⟨e.tag _ _ h.ta, e.tag _ _ h.tm, e.tag _ _ h.tg, e.tag _ _ h.tl, e.tag _ _ h.th, e.get h.ta (fun h => h) h.a, e.get h.tm (fun h => h) h.m, e.get h.tg (fun h => h) h.g', e.get h.tl (fun h => h) h.l, e.get h.th (fun h => h) h.h⟩

theorem f63_L1_ht {H : Heap} {g : Gh} {b4 : Nat} (h4 : H b4 = none) :
    ∀ (k i : Nat) (h : Heap) (g1 : Gh) (d : PD), i + k = 4 → Ev (fun _ => False) H g h g1 → g1 b4 = none → h b4 = some (.cells d.cells 169 (0, 0)) → d.lsn = 0 → d.up = none → d.un = 0 → d.uc = 0 → d.bk = none →
      (∀ j, j < i → ∃ vs, OwnT h g1 (10 + j, 1) 176 3 Ver.cs (d.sp j) (d.sn j) (d.sc j) vs ∧ 0 < d.sn j ∧ d.sn j ≤ 0 + 1) →
      f63_L1 (some ⟨b4, 0, none⟩) (i : Int) h (newPostW H g) := by
  intro k
  induction k with
  | zero =>
    intro i h g1 d hi e hg4 hb hl hup hun huc hbk hs
    obtain rfl : i = 4 := by omega
    obtain ⟨e1, t1⟩ := Ev.tagNew (S := fun _ => False) e.ok hg4 (by rw [hb]; simp) (9, 1)
    have hp : Prim h (gset g1 b4 (9, 1)) 0 0 b4 1 d := by
      refine ⟨t1, hb, by rw [hl]; simp [inU], fun j hj => ?_, ⟨[], ?_, by simp, by omega⟩, .inl hbk⟩
      · obtain ⟨vs, h1, h2⟩ := hs j hj
        exact ⟨vs, h1.ev e1 (fun h => h), h2⟩
      · rw [hup, hun, huc]; exact OwnT.nil Com.size
    apply f63_L1_of
    refine ⟨(fun hd => by cases hd), fun _ => ?_⟩
    refine (f45_ht e1.ok).mono fun v H3 ⟨g3, ba, rm, rg, rl, rh, hv, e3, hA⟩ => ⟨_, hv, fun b17 H4 ha4 => ?_⟩
    refine semOk_mapUpdate Tryz.underlying45 Tryz.underlying29 ha4.same (by intro x hx; simp at hx) fun H5 hw5 => ?_
    intro b21 H6 ha6
    have hw5' : Wr H4 b17 (.map (esP1 b4) 1) H5 := hw5
    have e4 : Ev (fun _ => False) H3 g3 H4 g3 := Ev.sub e3.ok ha4.sub
    have u17 : g3 b17 = none := untag e3.ok ha4.fresh
    have e5 : Ev (fun _ => False) H4 g3 H5 g3 := Ev.wr e4.ok hw5' fun tg h => by rw [u17] at h; cases h
    obtain ⟨e6, t6⟩ := Ev.tagNew (S := fun _ => False) e5.ok u17 (by rw [hw5'.same]; simp) (8, 0)
    obtain ⟨e7, t7⟩ := Ev.al (S := fun _ => False) e6.ok ha6 (2, 0)
    have ea := ((e4.trans e5).trans e6).trans e7
    exact ⟨_, b21, ba, rm, rg, rl, rh, b17, b4, d, rfl, ((e.trans e1).trans e3).trans ea, hA.ev ea, t7, e7.tag _ _ t6, ha6.same, ha6.keep hw5'.same, (hp.ev e3 (fun _ h => h) (fun h => h)).ev ea (fun _ h => h) (fun h => h)⟩
  | succ k ih =>
    intro i h g1 d hi e hg4 hb hl hup hun huc hbk hs
    apply f63_L1_of
    refine ⟨fun _ b71 h1 ha => ⟨b4, 0, rfl, by omega, by omega, _, _, ha.keep hb, by simp [PD.cells]; omega, fun h2 hw => ?_⟩, fun hd => absurd (of_decide_eq_false hd) (by omega)⟩
    rw [show 0 + 3 + ((i : Nat) : Int).toNat * 1 = 0 + 3 + i * 1 by simp, d.set_since (by omega)] at hw
    obtain ⟨e1, t1⟩ := Ev.al (S := fun _ => False) e.ok ha (10 + i, 1)
    have hne : b71 ≠ b4 := by
      intro he; have := ha.fresh; rw [he, hb] at this; cases this
    have hg4' : gset g1 b71 (10 + i, 1) b4 = none := by unfold gset; rw [if_neg (Ne.symm hne)]; exact hg4
    have e2 : Ev (fun _ => False) h1 (gset g1 b71 (10 + i, 1)) h2 (gset g1 b71 (10 + i, 1)) := Ev.wr e1.ok hw fun tg h => by rw [hg4'] at h; cases h
    have e12 := e1.trans e2
    rw [wrapS (by omega)]
    refine ih (i + 1) h2 _ (d.setSince i (some ⟨b71, 0, none⟩) 1 1) (by omega) (e.trans e12) hg4' hw.same hl hup hun huc hbk fun j hj => ?_
    by_cases hji : j = i
    · subst hji
      refine ⟨[⟨0, 0, 0⟩], ⟨⟨?_, Ver.size, .inr ⟨b71, 0, _, ?_, hw.keep ha.same hne, ?_, ?_, ?_⟩⟩, ?_⟩, ?_, ?_⟩
      · simp [PD.setSince, fset]
      · simp [PD.setSince, fset]
      · simp [PD.setSince, fset]
      · simp [PD.setSince, fset]
      · simp [PD.setSince, fset, Ver.cs]
      · intro x hx
        simp [PD.setSince, fset] at hx
        subst hx
        exact t1
      · simp [PD.setSince, fset]
      · simp [PD.setSince, fset]
    · obtain ⟨vs, h3, h4, h5⟩ := hs j (by omega)
      refine ⟨vs, ?_, ?_, ?_⟩
      · have := h3.ev e12 (fun h => h)
        simpa [PD.setSince, fset, hji] using this
      · simpa [PD.setSince, fset, hji] using h4
      · simpa [PD.setSince, fset, hji] using h5

theorem f63_ht {H : Heap} {g : Gh} (hg : GOk H g) : HT Tryz.prog 63 [] H (newPostW H g) := by
  apply f63_of
  intro b4 h1 ha
  exact f63_L1_ht ha.fresh 4 0 h1 g (pd0 0 0) (by omega) (Ev.sub hg ha.sub) (untag hg ha.fresh) ha.same rfl rfl rfl rfl rfl (fun j hj => by omega)

end Go.Proofs.Qxb6500694aGreatDoor
