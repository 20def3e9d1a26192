/-
  THE WORLD, PART R: Adopt: the new primary goes into the map.
-/
import Derived.Test.Qxb6500694aGreatDoorDq
namespace Go.Proofs.Qxb6500694aGreatDoor
open Go Go.Eng Go.Proofs
set_option maxRecDepth 100000
set_option linter.unusedVariables false
set_option linter.unusedSimpArgs false
set_option linter.unusedSectionVars false

/-- What Adopt leaves. -/
def adPost (H : Heap) (g : Gh) (cnt : Nat) (F : Fix) (esM esL esH : Array MapEntry) (v : Value) (H' : Heap) : Prop :=
  v = .tuple #[] ∧ ∃ g' esP', Wd H' g' cnt F esM esL esH esP' ∧ Ev (fun tg => tg ≠ (0, 0)) H g H' g'

section
variable {H : Heap} {g : Gh} {cnt : Nat} {F : Fix} {esM esL esH esP : Array MapEntry} {a par br : Int} {b18 : Nat} {d : PD}

/-- A timeline without a primary has no log. -/
theorem Wd.noLog (hW : Wd H g cnt F esM esL esH esP) (hno : ∀ e ∈ esP.toList, keyN e.key ≠ a) : ∀ e ∈ esL.toList, keyN e.key ≠ a := by
  intro e he hk
  obtain ⟨_, _, _, _, _, _, _, e', he', hk'⟩ := hW.log e he
  exact hno e' he' (hk'.trans hk)

theorem f40_L7_ht {H0 : Heap} {g0 : Gh} (hW : Wd H g cnt F esM esL esH esP) (hE : Ev (fun tg => tg ≠ (0, 0)) H0 g0 H g) (hno : ∀ e ∈ esP.toList, keyN e.key ≠ a) (hkey : ∃ e' ∈ esH.toList, keyN e'.key = a) (hp : Prim H g cnt 0 b18 a d) :
    f40_L7 (some ⟨F.bw, 0, none⟩) a par br (some ⟨b18, 0, none⟩) H (adPost H0 g0 cnt F esM esL esH) := by
  obtain ⟨nb, hbw⟩ := hW.world
  obtain ⟨cP, hrp, okP⟩ := hW.mP
  obtain ⟨cH, hrh, okH⟩ := hW.mH
  obtain ⟨cM, hrm, okM⟩ := hW.mM
  obtain ⟨cL, hrl, okL⟩ := hW.mL
  obtain ⟨esG, cG, hrg, okG⟩ := hW.mG
  have T := hW.tags
  apply f40_L7_of
  refine ⟨F.bw, 0, rfl, _, Cells.of hbw rfl, ?_⟩
  refine semOk_mapUpdate Tryz.underlying45 Tryz.underlying29 hrp okP.1 fun H1 hw1 => ?_
  obtain ⟨esP', cP', hput, okP', getP', memP', _, _⟩ := mput_ok (n := a) (v := .pointer (some ⟨b18, 0, none⟩)) okP
  rw [hput] at hw1
  have e : Ev (fun tg => tg = (8, 0)) H g H1 g := Ev.wr hW.gok hw1 fun tg htg => by rw [T.rp] at htg; cases htg; rfl
  have hold : ∀ x ∈ esP.toList, ∃ x' ∈ esP'.toList, keyN x'.key = keyN x.key := by
    intro x hx
    have h1 := iget_of_mem okP.2.1 hx
    have h2 := getP' (keyN x.key)
    rw [if_neg (hno x hx), h1] at h2
    obtain ⟨x', hx', hk, _⟩ := iget_mem h2
    exact ⟨x', hx', hk⟩
  have hpos : 0 < a := by
    obtain ⟨e', he', hk⟩ := hkey
    obtain ⟨m, b1, b2, b3, b4, b5, _⟩ := hW.his e' he'
    omega
  have hlog0 : logLen esL a = 0 := by
    unfold logLen
    have : iget esL.toList a = none := by
      rw [iget_eq_none]; exact hW.noLog hno
    rw [this]
  refine ⟨rfl, g, esP', ⟨e.ok, T.ev e, e.get T.bs (by intro h; cases h) hW.stage, ⟨nb, e.get T.bw (by intro h; cases h) hbw⟩, e.get T.ba (by intro h; cases h) hW.arch, ⟨cM, e.get T.rm (by intro h; cases h) hrm, okM⟩, ⟨esG, cG, e.get T.rg (by intro h; cases h) hrg, okG⟩,
    ⟨cL, e.get T.rl (by intro h; cases h) hrl, okL⟩, ⟨cH, e.get T.rh (by intro h; cases h) hrh, okH⟩, ⟨cP', hw1.same, okP'⟩, hW.man, hW.his, fun x hx => ?_, fun x hx => ?_, hW.sizeM, hW.sizeH⟩, hE.trans (e.mono fun tg h h0 => by rw [h0] at h; cases h)⟩
  · obtain ⟨p, n, c, xs, a1, a2, a3, y, hy, hk⟩ := hW.log x hx
    obtain ⟨y', hy', hk'⟩ := hold y hy
    exact ⟨p, n, c, xs, a1, a2.ev e (by intro h; have := congrArg Prod.fst h; simp at this), fun z hz => (a3 z hz).ev e (by intro h; cases h), y', hy', hk'.trans hk⟩
  · rcases memP' x hx with ⟨hk, hvx⟩ | h
    · refine ⟨b18, d, hvx, ?_, ?_⟩
      · rw [hk, hlog0]
        exact hp.ev e (fun k h => by have := congrArg Prod.snd h; simp at this; omega) (by intro h; cases h)
      · rw [hk]; exact hkey
    · obtain ⟨pb, d', a1, a2, a3⟩ := hW.prim x h
      have hpx := hW.keyPos h
      exact ⟨pb, d', a1, a2.ev e (fun k h => by have := congrArg Prod.snd h; simp at this; omega) (by intro h; cases h), a3⟩

end

end Go.Proofs.Qxb6500694aGreatDoor
