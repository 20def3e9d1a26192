/-
  THE WORLD, PART L: EndBackup's loop; Drop.
-/
import Derived.Test.Qxb6500694aGreatDoorDk
namespace Go.Proofs.Qxb6500694aGreatDoor
open Go Go.Eng Go.Proofs
set_option maxRecDepth 100000
set_option linter.unusedVariables false
set_option linter.unusedSimpArgs false
set_option linter.unusedSectionVars false

section
variable {cnt : Nat} {F : Fix} {esM esL esH esP : Array MapEntry}

theorem f38_L6_ht (hcnt : cnt < 65536) {e0 : MapEntry} (he0 : e0 ∈ esP.toList) {pb : Nat} {d : PD} (hv : e0.val = .pointer (some ⟨pb, 0, none⟩)) {kb : Nat} (hk : d.bk = some ⟨kb, 0, none⟩) {H0 : Heap} {g0 : Gh} :
    ∀ (k nx : Nat) (H : Heap) (g : Gh), nx + k = 4 → Wd H g cnt F esM esL esH esP → Prim H g cnt (logLen esL (keyN e0.key)) pb (keyN e0.key) d → TakN H g kb (keyN e0.key) nx → Ev (fun tg => tg ≠ (0, 0)) H0 g0 H g →
      f38_L6 (some ⟨F.bw, 0, none⟩) (some ⟨pb, 0, none⟩) H (doPost H0 g0 cnt F esH esP) := by
  intro k
  induction k with
  | zero =>
    intro nx H g hn hW hp ht hE
    obtain ⟨m, ps, ri, es, ck, xs, h1, h3, h4, h5, h6, h7⟩ := ht.ex
    apply f38_L6_of
    refine ⟨pb, 0, rfl, _, bkCells hW hcnt he0 hv hp hk, kb, 0, rfl, (nx : Int), Cells.of h1 rfl, fun hd => absurd (of_decide_eq_true hd) (by omega), fun _ => ?_⟩
    exact f38_L7_ht hW hcnt he0 hv hp hk ht hE
  | succ k ih =>
    intro nx H g hn hW hp ht hE
    obtain ⟨m, ps, ri, es, ck, xs, h1, h3, h4, h5, h6, h7⟩ := ht.ex
    apply f38_L6_of
    refine ⟨pb, 0, rfl, _, bkCells hW hcnt he0 hv hp hk, kb, 0, rfl, (nx : Int), Cells.of h1 rfl, fun _ => ?_, fun hd => absurd (of_decide_eq_false hd) (by omega)⟩
    refine (f68_ht (by omega) hW.gok hp hk (by omega) ht (-1)).mono fun v H' ⟨hv', g', e, hp', ht'⟩ => ⟨hv', ?_⟩
    obtain ⟨nb, hbw⟩ := hW.world
    obtain ⟨_, _, _, _, hkey⟩ := hW.prim e0 he0
    have hW' := hW.turn he0 e (fun _ h => .inl h.sp) (Nat.le_refl cnt) ⟨nb, e.get hW.tags.bw (by intro hs; have := hs.2.1; simp at this) hbw⟩ ⟨pb, d, hv, hp', hkey⟩
    exact ih (nx + 1) H' g' (by omega) hW' hp' ht' (hE.trans (e.mono fun _ h => h.sp.ne0))

variable {H : Heap} {g : Gh}

theorem f65_ht (hW : Wd H g cnt F esM esL esH esP) (id : Int) : HT Tryz.prog 65 [.pointer (some ⟨F.ba, 0, none⟩), .int .u64 id] H fun v H' => v = .tuple #[] ∧ doPost H g cnt F esH esP (.tuple #[]) H' := by
  obtain ⟨nb, hbw⟩ := hW.world
  obtain ⟨cM, hrm, okM⟩ := hW.mM
  obtain ⟨esG, cG, hrg, okG, valG⟩ := hW.mG
  obtain ⟨cL, hrl, okL⟩ := hW.mL
  have T := hW.tags
  apply f65_of
  refine ⟨F.ba, 0, rfl, _, Cells.of hW.arch rfl, ?_⟩
  refine semOk_delete Tryz.underlying113 Tryz.underlying26 hrm okM.1 fun H1 hw1 => ⟨rfl, ?_⟩
  obtain ⟨esM', hd1, okM', _, memM', szM'⟩ := mdel_ok (n := id) okM
  rw [hd1] at hw1
  have e1 : Ev (fun tg => tg = (4, 0)) H g H1 g := Ev.wr hW.gok hw1 fun tg htg => by rw [T.rm] at htg; cases htg; rfl
  refine ⟨F.ba, 0, rfl, _, Cells.of (e1.get T.ba (by intro h; cases h) hW.arch) rfl, ?_⟩
  refine semOk_delete Tryz.underlying114 Tryz.underlying26 (e1.get T.rg (by intro h; cases h) hrg) okG.1 fun H2 hw2 => ⟨rfl, rfl, ?_⟩
  obtain ⟨esG', hd2, okG', _, memG', _⟩ := mdel_ok (n := id) okG
  rw [hd2] at hw2
  have e2 : Ev (fun tg => tg = (5, 0)) H1 g H2 g := Ev.wr e1.ok hw2 fun tg htg => by rw [T.rg] at htg; cases htg; rfl
  have e : Ev (fun tg => tg = (4, 0) ∨ tg = (5, 0)) H g H2 g := (e1.mono fun _ h => .inl h).trans (e2.mono fun _ h => .inr h)
  have n0 : ¬ (((0, 0) : Nat × Int) = (4, 0) ∨ ((0, 0) : Nat × Int) = (5, 0)) := by simp
  refine ⟨rfl, g, esM', esL, hW.re e (by simp) (by simp) (by simp) (by simp) (by omega) ⟨nb, e.get T.bw (by simp) hbw⟩ ⟨cM, ?_, okM'⟩ ⟨esG', cG, hw2.same, okG', fun x hx => valG x (memG' x hx)⟩ ⟨cL, e.get T.rl (by simp) hrl, okL⟩ (fun x hx => hW.man x (memM' x hx)) (by have := hW.sizeM; omega) (fun x hx => ?_) (fun x hx => ?_), e.mono fun tg h h0 => n0 (h0 ▸ h)⟩
  · exact e2.get T.rm (by intro h; cases h) hw1.same
  · refine (hW.log x hx).ev e n0 ?_
    intro h; rcases h with h | h <;> (have := congrArg Prod.fst h; simp at this)
  · have hpos := hW.keyPos hx
    refine (hW.prim x hx).ev e n0 (fun k hs => ?_) (by omega) rfl
    rcases hs with h | h
    · have := congrArg Prod.snd h; simp at this; omega
    · have := congrArg Prod.snd h; simp at this; omega

end

end Go.Proofs.Qxb6500694aGreatDoor
