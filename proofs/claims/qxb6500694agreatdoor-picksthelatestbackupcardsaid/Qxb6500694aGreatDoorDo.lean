/-
  THE WORLD, PART O: PublishHistory.
-/
import Derived.Test.Qxb6500694aGreatDoorDn
namespace Go.Proofs.Qxb6500694aGreatDoor
open Go Go.Eng Go.Proofs
set_option maxRecDepth 100000
set_option linter.unusedVariables false
set_option linter.unusedSimpArgs false
set_option linter.unusedSectionVars false

section
variable {H : Heap} {g : Gh} {cnt : Nat} {F : Fix} {esM esL esH esP : Array MapEntry}

/-- What PublishHistory leaves. -/
def pubPost (H : Heap) (g : Gh) (cnt : Nat) (F : Fix) (esM esL esP : Array MapEntry) (m : Hist) (v : Value) (H' : Heap) : Prop :=
  v = .nilIface ∧ ∃ esH', Wd H' g (cnt + 1) F esM esL esH' esP ∧ Ev (fun tg => tg ≠ (0, 0)) H g H' g ∧ iget esH'.toList m.tl = some m.val ∧ ∀ e ∈ esP.toList, keyN e.key ≠ m.tl

theorem f39_ht (hW : Wd H g cnt F esM esL esH esP) (m : Hist) (hbr : inU m.br) (hlt : ∀ x ∈ esH.toList, keyN x.key < m.tl) (hex : ∃ x ∈ esH.toList, m.tl = keyN x.key + 1) (hpar : ∃ p : Hist, iget esH.toList m.par = some p.val) :
    HT Tryz.prog 39 [.pointer (some ⟨F.ba, 0, none⟩), .agg #[.int .u32 m.tl, .int .u32 m.par, .int .u64 m.br]] H (pubPost H g cnt F esM esL esP m) := by
  obtain ⟨nb, hbw⟩ := hW.world
  obtain ⟨cH, hrh, okH⟩ := hW.mH
  obtain ⟨cM, hrm, okM⟩ := hW.mM
  obtain ⟨cL, hrl, okL⟩ := hW.mL
  obtain ⟨cP, hrp, okP⟩ := hW.mP
  obtain ⟨esG, cG, hrg, okG⟩ := hW.mG
  have T := hW.tags
  have hnone : iget esH.toList m.tl = none := by
    rw [iget_eq_none]
    intro e he hk
    have := hlt e he
    omega
  have hlook := lookIs_int (P := Tryz.prog) (t := 116) (r := F.rh) (c := cH) (n := m.tl) (ok := true) (zero := Hist.zero.val) Tryz.underlying116 Tryz.underlying29 (inf := Tryz.t65) (by kernel_rfl) (by kernel_rfl) okH.1
  simp only [lookV, hnone] at hlook
  apply f39_of
  intro _
  refine ⟨F.ba, 0, rfl, _, Cells.of hW.arch rfl, F.rh, esH, cH, rfl, hrh, 0, 0, 0, false, hlook, fun _ => ⟨(fun h => by cases h), fun _ => ?_⟩⟩
  apply f39_L1_of
  refine ⟨(fun h => by cases h), fun _ => ⟨F.ba, 0, rfl, _, Cells.of hW.arch rfl, ?_⟩⟩
  refine semOk_mapUpdate Tryz.underlying116 Tryz.underlying29 hrh okH.1 fun H1 hw1 => ?_
  obtain ⟨esH', cH', hput, okH', getH', memH', _, szH'⟩ := mput_ok (n := m.tl) (v := m.val) okH
  have hput' : mput .u32 esH cH m.tl (.agg #[.int .u32 m.tl, .int .u32 m.par, .int .u64 m.br]) = .map esH' cH' := hput
  rw [hput'] at hw1
  have e : Ev (fun tg => tg = (7, 0)) H g H1 g := Ev.wr hW.gok hw1 fun tg htg => by rw [T.rh] at htg; cases htg; rfl
  have hold : ∀ x ∈ esH.toList, ∃ x' ∈ esH'.toList, keyN x'.key = keyN x.key := by
    intro x hx
    have h1 := iget_of_mem okH.2.1 hx
    have h2 := getH' (keyN x.key)
    rw [if_neg (by have := hlt x hx; omega), h1] at h2
    obtain ⟨x', hx', hk, _⟩ := iget_mem h2
    exact ⟨x', hx', hk⟩
  refine ⟨rfl, esH', ⟨e.ok, T.ev e, e.get T.bs (by intro h; cases h) hW.stage, ⟨nb, e.get T.bw (by intro h; cases h) hbw⟩, e.get T.ba (by intro h; cases h) hW.arch, ⟨cM, e.get T.rm (by intro h; cases h) hrm, okM⟩, ⟨esG, cG, e.get T.rg (by intro h; cases h) hrg, okG⟩,
    ⟨cL, e.get T.rl (by intro h; cases h) hrl, okL⟩, ⟨cH', hw1.same, okH'⟩, ⟨cP, e.get T.rp (by intro h; cases h) hrp, okP⟩, hW.man, fun x hx => ?_, fun x hx => ?_, fun x hx => ?_, ?_, ?_⟩, (e.mono fun tg h h0 => by rw [h0] at h; cases h), ?_, fun x hx => ?_⟩
  · rcases memH' x hx with ⟨hk, hvx⟩ | h
    · obtain ⟨y, hy, hay⟩ := hex
      obtain ⟨my, b1, b2, b3, b4, b5, b6, b7⟩ := hW.his y hy
      obtain ⟨pp, hpp⟩ := hpar
      obtain ⟨z, hz, hzk, hzv⟩ := iget_mem hpp
      obtain ⟨mz, c1, c2, c3, c4, c5, c6, c7⟩ := hW.his z hz
      have hz2 := hlt z hz
      exact ⟨m, hvx, hk.symm, hbr, by omega, by omega, by omega, by omega⟩
    · obtain ⟨my, b1, b2, b3, b4, b5, b6, b7⟩ := hW.his x h
      exact ⟨my, b1, b2, b3, b4, b5, by omega, b7⟩
  · exact (hW.log x hx).ev e (by intro h; cases h) (by intro h; have := congrArg Prod.fst h; simp at this)
  · obtain ⟨pb, d, a1, a2, y, hy, hk⟩ := hW.prim x hx
    have hpos := hW.keyPos hx
    obtain ⟨y', hy', hk'⟩ := hold y hy
    refine ⟨pb, d, a1, (a2.ev e (fun k h => ?_) (by intro h; cases h)).bound (by omega), y', hy', hk'.trans hk⟩
    have := congrArg Prod.snd h; simp at this; omega
  · have := hW.sizeM; omega
  · have := hW.sizeH; omega
  · rw [getH', if_pos rfl]
  · obtain ⟨_, _, _, _, y, hy, hk⟩ := hW.prim x hx
    have := hlt y hy
    omega

end

end Go.Proofs.Qxb6500694aGreatDoor
