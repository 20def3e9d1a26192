/-
  THE WORLD, PART U: Adopt, whole.
-/
import Derived.Test.Qxb6500694aGreatDoorDt
namespace Go.Proofs.Qxb6500694aGreatDoor
open Go Go.Eng Go.Proofs
set_option maxRecDepth 100000
set_option linter.unusedVariables false
set_option linter.unusedSimpArgs false
set_option linter.unusedSectionVars false

section
variable {H : Heap} {g : Gh} {cnt : Nat} {F : Fix} {esM esL esH esP : Array MapEntry} {a par br : Int} {b18 : Nat}

theorem f40_L4_ht (hcnt : cnt ≤ 65536) (hW : Wd H g cnt F esM esL esH esP) (hG : ∀ (G : Heap) (k : Gh), Ev (fun tg => tg ≠ (0, 0)) H g G k → Globs G) (hno : ∀ e ∈ esP.toList, keyN e.key ≠ a) (hkey : ∃ e' ∈ esH.toList, keyN e'.key = a) (hbr : inU br) (h18 : H b18 = none) {f : Nat → Int} :
    ∀ (k i : Nat) (h : Heap) (g1 : Gh) (d : PD), i + k = 4 → Ev (fun _ => False) H g h g1 → g1 b18 = none → h b18 = some (.cells d.cells 169 (0, 0)) → d.lsn = br → d.up = none → d.un = 0 → d.uc = 0 → d.bk = none →
      (∀ j, j < i → ∃ vs, OwnT h g1 (10 + j, a) 176 3 Ver.cs (d.sp j) (d.sn j) (d.sc j) vs ∧ 0 < d.sn j ∧ d.sn j ≤ cnt + 1) →
      f40_L4 (some ⟨F.bw, 0, none⟩) a par br (some ⟨b18, 0, none⟩) (f 0) (f 1) (f 2) (f 3) (f 4) (f 5) (f 6) (f 7) (f 8) (f 9) (f 10) (f 11) (i : Int) h (adPost H g cnt F esM esL esH) := by
  intro k
  induction k with
  | zero =>
    intro i h g1 d hi e hg18 hb hl hup hun huc hbk hs
    obtain rfl : i = 4 := by omega
    have hgk : ∀ x tg, g1 x = some tg → x ≠ b18 := by
      intro x tg hx he; rw [he, hg18] at hx; cases hx
    have e2 : Ev (fun _ => False) H g h (gset g1 b18 (9, a)) := by
      refine ⟨fun x tg hx => ?_, fun x tg hx => ?_, e.keep⟩
      · unfold gset at hx
        by_cases he : x = b18
        · subst he; rw [hb]; simp
        · rw [if_neg he] at hx; exact e.ok x tg hx
      · have := e.tag x tg hx
        unfold gset
        rw [if_neg (hgk x tg this)]; exact this
    refine f40_L4_end hcnt hW hG hno hkey e2 (d := d) ⟨by simp [gset], hb, by rw [hl]; exact hbr, fun j hj => ?_, ⟨[], ?_, by simp, by omega⟩, .inl hbk⟩
    · obtain ⟨vs, h1, h2⟩ := hs j hj
      refine ⟨vs, ⟨h1.own, fun x hx => ?_⟩, h2⟩
      have := h1.tag x hx
      unfold gset
      rw [if_neg (hgk _ _ this)]; exact this
    · rw [hup, hun, huc]; exact OwnT.nil Com.size
  | succ k ih =>
    intro i h g1 d hi e hg18 hb hl hup hun huc hbk hs
    apply f40_L4_of
    refine ⟨fun _ => ⟨f (3 * i), f (3 * i + 1), f (3 * i + 2), index177 (by omega), fun _ => ⟨b18, 0, rfl, fun b71 h1 ha => ⟨by omega, by omega, _, _, ha.keep hb, by simp [PD.cells]; omega, fun h2 hw => ?_⟩⟩⟩, fun hd => absurd (of_decide_eq_false hd) (by omega)⟩
    rw [show 0 + 3 + ((i : Nat) : Int).toNat * 1 = 0 + 3 + i * 1 by simp, d.set_since (by omega)] at hw
    obtain ⟨e1, t1⟩ := Ev.al (S := fun _ => False) e.ok ha (10 + i, a)
    have hne : b71 ≠ b18 := by
      intro he; have := ha.fresh; rw [he, hb] at this; cases this
    have hg18' : gset g1 b71 (10 + i, a) b18 = none := by unfold gset; rw [if_neg (Ne.symm hne)]; exact hg18
    have e2 : Ev (fun _ => False) h1 (gset g1 b71 (10 + i, a)) h2 (gset g1 b71 (10 + i, a)) := Ev.wr e1.ok hw fun tg h => by rw [hg18'] at h; cases h
    have e12 := e1.trans e2
    rw [wrapS (by omega)]
    refine ih (i + 1) h2 _ (d.setSince i (some ⟨b71, 0, none⟩) 1 1) (by omega) (e.trans e12) hg18' hw.same hl hup hun huc hbk fun j hj => ?_
    by_cases hji : j = i
    · subst hji
      refine ⟨[⟨f (3 * j), f (3 * j + 1), f (3 * j + 2)⟩], ⟨⟨?_, Ver.size, .inr ⟨b71, 0, _, ?_, hw.keep ha.same hne, ?_, ?_, ?_⟩⟩, ?_⟩, ?_, ?_⟩
      · simp [PD.setSince, fset]
      · simp [PD.setSince, fset]
      · simp [PD.setSince, fset]
      · simp [PD.setSince, fset]
      · simp [PD.setSince, fset, Ver.cs]
      · intro x hx
        simp [PD.setSince, fset] at hx
        subst hx
        exact t1
      · simp [PD.setSince, fset]
      · simp [PD.setSince, fset]
    · obtain ⟨vs, h3, h4, h5⟩ := hs j (by omega)
      refine ⟨vs, ?_, ?_, ?_⟩
      · have := h3.ev e12 (fun h => h)
        simpa [PD.setSince, fset, hji] using this
      · simpa [PD.setSince, fset, hji] using h4
      · simpa [PD.setSince, fset, hji] using h5

end

end Go.Proofs.Qxb6500694aGreatDoor
