/-
  THE WORLD, PART V: Adopt, whole.
-/
import Derived.Test.Qxb6500694aGreatDoorDu
namespace Go.Proofs.Qxb6500694aGreatDoor
open Go Go.Eng Go.Proofs
set_option maxRecDepth 100000
set_option linter.unusedVariables false
set_option linter.unusedSimpArgs false
set_option linter.unusedSectionVars false

section
variable {H : Heap} {g : Gh} {cnt : Nat} {F : Fix} {esM esL esH esP : Array MapEntry} {a par br : Int}

theorem f40_ht (hcnt : cnt ≤ 65536) (hW : Wd H g cnt F esM esL esH esP) (hG : ∀ (G : Heap) (k : Gh), Ev (fun tg => tg ≠ (0, 0)) H g G k → Globs G) (hno : ∀ e ∈ esP.toList, keyN e.key ≠ a) (hkey : ∃ e' ∈ esH.toList, keyN e'.key = a) (hbr : inU br) :
    HT Tryz.prog 40 [.pointer (some ⟨F.bw, 0, none⟩), .agg #[.int .u32 a, .int .u32 par, .int .u64 br]] H (adPost H g cnt F esM esL esH) := by
  obtain ⟨nb, hbw⟩ := hW.world
  have hab : a < 131072 := by
    obtain ⟨e', he', hk⟩ := hkey
    obtain ⟨m, b1, b2, b3, b4, b5, b6, _⟩ := hW.his e' he'
    omega
  apply f40_of
  intro _ b18 H1 ha1 b5 H2 ha2
  have hs2 : Sub H H2 := ha1.sub.al ha2
  have h18 : H b18 = none := ha1.fresh
  have h5 : H b5 = none := by
    cases hc : H b5 with
    | none => rfl
    | some x => have := ha1.sub _ _ hc; rw [ha2.fresh] at this; cases this
  have hne : b18 ≠ b5 := by
    intro he; have := ha2.fresh; rw [← he, ha1.same] at this; cases this
  refine ⟨F.bw, 0, rfl, _, Cells.of (hs2 _ _ hbw) rfl, ?_⟩
  refine ((f27_ht (hW.toArch hcnt) (a.toNat + 1) a (by omega)).frame hs2).mono fun v H3 ⟨G, ⟨p, n, c, zs, hv, hs, hnew, ho, hok, hn⟩, hsub, hkeep⟩ => ⟨p, n, c, hv, ?_⟩
  have hnb : a.toNat * 65536 ≤ 131072 * 65536 := Nat.mul_le_mul_right _ (by omega)
  refine f40_L1_ht h18 h5 hne hok (by omega) (fun τ f h hsh hb => ?_) n 0 0 (fun _ => 0) H3 (by omega) (hs.trans hsub) (ho.sub hsub) (hkeep b18 _ h18 (ha2.keep ha1.same)) (hkeep b5 _ h5 ha2.same)
  exact f40_L4_ht hcnt hW hG hno hkey hbr h18 4 0 h g (pd0 br τ) (by omega) (Ev.sub hW.gok hsh) (untag hW.gok h18) hb rfl rfl rfl rfl rfl (fun j hj => by omega)

end

end Go.Proofs.Qxb6500694aGreatDoor
