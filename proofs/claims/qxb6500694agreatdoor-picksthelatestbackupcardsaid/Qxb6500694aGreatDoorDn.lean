/-
  THE WORLD, PART N: a step of the story, whole.
-/
import Derived.Test.Qxb6500694aGreatDoorDm
namespace Go.Proofs.Qxb6500694aGreatDoor
open Go Go.Eng Go.Proofs
set_option maxRecDepth 100000
set_option linter.unusedVariables false
set_option linter.unusedSimpArgs false
set_option linter.unusedSectionVars false

section
variable {H : Heap} {g : Gh} {cnt : Nat} {F : Fix} {esM esL esH esP : Array MapEntry}
variable {op0 op1 op2 op3 : Int} {op4 : Bool} {op5 : Int} {op6 : Option Addr} {op6n op6c : Nat} {op7 : Option Addr} {op7n op7c : Nat} {op8 : Option Addr} {op8n op8c : Nat}

theorem f38_L4_ht (hW : Wd H g cnt F esM esL esH esP) (hcnt : cnt < 65536) {e0 : MapEntry} (he0 : e0 ∈ esP.toList) {pb : Nat} {d : PD} (hv : e0.val = .pointer (some ⟨pb, 0, none⟩)) (hp : Prim H g cnt (logLen esL (keyN e0.key)) pb (keyN e0.key) d) (x32 : Int) (bb : Bool) :
    f38_L4 (some ⟨F.bw, 0, none⟩) op0 op1 op2 op3 op4 op5 op6 op6n op6c op7 op7n op7c op8 op8n op8c (some ⟨pb, 0, none⟩) x32 bb H (doPost H g cnt F esH esP) := by
  cases bb with
  | true => exact f38_L4_begin hW hcnt he0 hv hp
  | false =>
    have hbk := hp.bk
    apply f38_L4_of
    refine ⟨(fun h => by cases h), fun _ => ⟨fun _ => ?_, fun _ => ⟨fun _ => ?_, fun _ => hW.idle⟩⟩⟩
    · refine ⟨pb, 0, rfl, d.bk, bkCells hW hcnt he0 hv hp rfl, _, ptrNeq Tryz.underlying167, fun hne => ?_, fun _ => f38_L5_none hW hcnt he0 hv hp⟩
      rcases hbk with hb | ⟨kb, hb, ht⟩
      · rw [hb] at hne; cases hne
      · obtain ⟨nx, hnx, htn⟩ := ht.toN
        obtain ⟨m, ps, ri, es, ck, xs, h1, _⟩ := htn.ex
        exact ⟨pb, 0, rfl, _, bkCells hW hcnt he0 hv hp hb, kb, 0, rfl, (nx : Int), Cells.of h1 rfl, f38_L5_ht hW hcnt he0 hv hp hb htn hnx⟩
    · refine ⟨pb, 0, rfl, d.bk, bkCells hW hcnt he0 hv hp rfl, _, ptrEql Tryz.underlying167, fun _ => hW.idle, fun hne => ?_⟩
      rcases hbk with hb | ⟨kb, hb, ht⟩
      · rw [hb] at hne; cases hne
      · obtain ⟨nx, hnx, htn⟩ := ht.toN
        exact f38_L6_ht hcnt he0 hv hb (4 - nx) nx H g (by omega) hW hp htn (Ev.refl hW.gok)

theorem f38_ht (hW : Wd H g cnt F esM esL esH esP) (hcnt : cnt < 65536) {ds : List Int} (hr : ReadL H 1 U8.cs op6 op6n ds) (hds : ∀ x ∈ ds, 0 ≤ x ∧ x < 256) (hn : op6n ≤ 65536) :
    HT Tryz.prog 38 [.pointer (some ⟨F.bw, 0, none⟩), .agg #[.int .u8 op0, .int .u32 op1, .int .u64 op2, .int .i64 op3, .bool op4, .int .i64 op5, .slice op6 op6n op6c, .slice op7 op7n op7c, .slice op8 op8n op8c]] H (doPost H g cnt F esH esP) := by
  obtain ⟨nb, hbw⟩ := hW.world
  obtain ⟨cP, hrp, okP⟩ := hW.mP
  apply f38_of
  intro _
  refine ⟨fun _ => ⟨F.bw, 0, rfl, _, Cells.of hbw rfl, f65_ht hW _⟩, fun _ => ⟨F.bw, 0, rfl, _, Cells.of hbw rfl, F.rp, esP, cP, rfl, hrp, ?_⟩⟩
  have hlook := lookIs_int (P := Tryz.prog) (t := 45) (r := F.rp) (c := cP) (n := op1) (ok := false) (zero := .pointer none) Tryz.underlying45 Tryz.underlying29 (inf := Tryz.t164) (by kernel_rfl) (by kernel_rfl) okP.1
  cases hg : iget esP.toList op1 with
  | none =>
    simp only [lookV, hg] at hlook
    exact ⟨none, hlook, _, ptrEql Tryz.underlying164, fun _ => hW.idle, (fun h => by cases h)⟩
  | some v =>
    obtain ⟨e0, he0, hk, hve⟩ := iget_mem hg
    obtain ⟨pb, d, hv, hp, hkey⟩ := hW.prim e0 he0
    simp only [lookV, hg, ← hve, hv] at hlook
    subst hk
    refine ⟨some ⟨pb, 0, none⟩, hlook, _, ptrEql Tryz.underlying164, (fun h => by cases h), fun _ => ⟨fun _ => ?_, fun _ => ⟨fun _ => ?_, fun _ => ⟨fun _ => ?_, fun _ => ⟨fun _ => ?_, fun _ => ?_⟩⟩⟩⟩⟩
    · exact f38_L1_ht hW hcnt he0 hv hp hr hds hn _ (op6n + 1) 0 none 0 0 [] H (by omega) (Sub.refl _) (New.none _) (OwnL.nil (fun _ => rfl)) (by simp) (by omega)
    · exact do_checkpoint hW hcnt he0 hv hp
    · exact f38_L2_ht hcnt he0 hv d.un op5 H g esL d rfl hW hp (Ev.refl hW.gok)
    · exact f38_L4_ht hW hcnt he0 hv hp _ _
    · exact f38_L4_ht hW hcnt he0 hv hp _ _

end

end Go.Proofs.Qxb6500694aGreatDoor
