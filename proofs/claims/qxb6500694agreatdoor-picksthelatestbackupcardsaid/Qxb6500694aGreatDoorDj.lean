/-
  THE WORLD, PART J: a backup begins.
-/
import Derived.Test.Qxb6500694aGreatDoorDi
namespace Go.Proofs.Qxb6500694aGreatDoor
open Go Go.Eng Go.Proofs
set_option maxRecDepth 100000
set_option linter.unusedVariables false
set_option linter.unusedSimpArgs false
set_option linter.unusedSectionVars false

section
variable {H H' : Heap} {g g' : Gh} {cnt : Nat} {F : Fix} {esM esL esH esP : Array MapEntry}

section
variable {e0 : MapEntry} {pb : Nat} {d : PD}

variable {op0 op1 op2 op3 : Int} {op4 : Bool} {op5 : Int} {op6 : Option Addr} {op6n op6c : Nat} {op7 : Option Addr} {op7n op7c : Nat} {op8 : Option Addr} {op8n op8c : Nat}

theorem f38_L4_begin (hW : Wd H g cnt F esM esL esH esP) (hcnt : cnt < 65536) (he0 : e0 ∈ esP.toList) (hv : e0.val = .pointer (some ⟨pb, 0, none⟩)) (hp : Prim H g cnt (logLen esL (keyN e0.key)) pb (keyN e0.key) d) {x32 : Int} : f38_L4 (some ⟨F.bw, 0, none⟩) op0 op1 op2 op3 op4 op5 op6 op6n op6c op7 op7n op7c op8 op8n op8c (some ⟨pb, 0, none⟩) x32 true H (doPost H g cnt F esH esP) := by
  have ht0 : keyN e0.key ≠ 0 := by have := hW.keyPos he0; omega
  apply f38_L4_of
  refine ⟨fun _ => ⟨pb, 0, rfl, d.bk, bkCells hW hcnt he0 hv hp rfl, _, ptrNeq Tryz.underlying167, fun _ => hW.idle, fun hnone => ?_⟩, (fun h => by cases h)⟩
  refine (f67_ht (by omega) hW.gok hp).mono fun v H1 ⟨hv1, g1, d1, e1, hp1, _⟩ => ⟨hv1, ?_⟩
  obtain ⟨nb, hbw0⟩ := hW.world
  have hbw1 := e1.get hW.tags.bw (by intro hs; have := hs.2.1; simp at this) hbw0
  have tbw1 := e1.tag _ _ hW.tags.bw
  refine ⟨F.bw, 0, rfl, nb, Cells.of hbw1 rfl, F.bw, 0, rfl, _, _, hbw1, by simp, fun H2 hw2 => ?_⟩
  have hbw2 : H2 F.bw = some (.cells #[.pointer (some ⟨F.ba, 0, none⟩), .map (some F.rp), .int .u64 (IntKind.wrap .u64 (nb + 1))] 47 (0, 0)) := hw2.same
  have e2 : Ev (fun tg => tg = (9, keyN e0.key) ∨ tg = (2, 0)) H1 g1 H2 g1 := Ev.wr e1.ok hw2 fun tg htg => by rw [tbw1] at htg; cases htg; exact .inr rfl
  have hpb2 : H2 pb = some (.cells d1.cells 169 (0, 0)) := by
    refine hw2.keep hp1.blk ?_
    intro he; have := hp1.tag; rw [he, tbw1] at this; cases this
  refine ⟨F.bw, 0, rfl, _, Cells.of hbw2 rfl, pb, 0, rfl, _, Cells.of hpb2 rfl, fun b168 H3 ha3 b170 H4 ha4 => ?_⟩
  obtain ⟨e3, t3⟩ := Ev.al (S := fun tg => tg = (9, keyN e0.key) ∨ tg = (2, 0)) e2.ok ha3 (16, keyN e0.key)
  obtain ⟨e4, t4⟩ := Ev.al (S := fun tg => tg = (9, keyN e0.key) ∨ tg = (2, 0)) e3.ok ha4 (15, keyN e0.key)
  have hpb4 := ha4.keep (ha3.keep hpb2)
  refine ⟨pb, 0, rfl, _, _, hpb4, by simp [PD.cells], fun H5 hw5 => ?_⟩
  have hw5' : Wr H4 pb (.cells (PD.cells { d1 with bk := some ⟨b170, 0, none⟩ }) 169 (0, 0)) H5 := hw5
  have e234 := (e2.trans e3).trans e4
  have tpb4 := e234.tag _ _ hp1.tag
  have e5 : Ev (fun tg => tg = (9, keyN e0.key) ∨ tg = (2, 0)) H4 _ H5 _ := Ev.wr e4.ok hw5' fun tg htg => by rw [tpb4] at htg; cases htg; exact .inl rfl
  have ea := e234.trans e5
  have hne170 : b170 ≠ pb := by
    intro he; have := ha4.fresh; rw [he, ha3.keep hpb2] at this; cases this
  have hne168 : b168 ≠ pb := by
    intro he; have := ha3.fresh; rw [he, hpb2] at this; cases this
  have hb170 : H5 b170 = some (.cells (takC ⟨IntKind.wrap .u64 (nb + 1), 0, op1, d1.lsn, 0, none, 0, 0⟩ 0 0 b168) 173 (0, 0)) := hw5'.keep ha4.same hne170
  have hb168 : H5 b168 = some (.map #[] 0) := hw5'.keep (ha4.keep ha3.same) hne168
  have t168 := e4.tag _ _ t3
  have tk5 : TakN H5 _ b170 (keyN e0.key) 0 := ⟨t4, _, 0, b168, #[], 0, [], hb170, OwnT.nil I64.size, by simp, t168, hb168, MapOk.empty _ _⟩
  have hp5 := hp1.begin ea (fun _ h => h) ht0 hw5'.same (tk5.to (by omega))
  have hbw5 : H5 F.bw = some (.cells #[.pointer (some ⟨F.ba, 0, none⟩), .map (some F.rp), .int .u64 (IntKind.wrap .u64 (nb + 1))] 47 (0, 0)) := by
    refine hw5'.keep (ha4.keep (ha3.keep hbw2)) ?_
    intro he; have := hp1.tag; rw [← he, tbw1] at this; cases this
  have eall : Ev (fun tg => Sp (keyN e0.key) tg ∨ tg = (2, 0)) H g H5 _ := (e1.mono fun _ h => .inl h).trans (ea.mono fun tg h => by
    rcases h with h | h
    · subst h; exact .inl ⟨rfl, Nat.le_refl 9, by simp⟩
    · exact .inr h)
  have hkey : ∃ e' ∈ esH.toList, keyN e'.key = keyN e0.key := by
    obtain ⟨_, _, _, _, h3⟩ := hW.prim e0 he0
    exact h3
  have fin : ∀ H7, Ev (St (keyN e0.key)) H5 (gset (gset g1 b168 (16, keyN e0.key)) b170 (15, keyN e0.key)) H7 (gset (gset g1 b168 (16, keyN e0.key)) b170 (15, keyN e0.key)) →
      TakN H7 (gset (gset g1 b168 (16, keyN e0.key)) b170 (15, keyN e0.key)) b170 (keyN e0.key) 0 → doPost H g cnt F esH esP (.tuple #[]) H7 := by
    intro H7 e7 tk7
    have hp7 := hp5.tak e7 rfl (tk7.to (by omega))
    have e8 := eall.trans (e7.mono fun tg h => .inl h.sp)
    refine ⟨rfl, _, esM, esL, hW.turn he0 e8 (fun _ h => h) (by omega) ⟨_, e7.get (ea.tag _ _ tbw1) (by intro hs; have := hs.2.1; simp at this) hbw5⟩ ⟨pb, _, hv, hp7.bound (by omega), hkey⟩, e8.mono fun tg h => ?_⟩
    rcases h with h | h
    · exact h.ne0
    · intro h0; rw [h0] at h; cases h
  refine ⟨fun _ => ?_, fun _ => fin H5 (Ev.refl ea.ok) tk5⟩
  have c8 : Cells H5 pb (0 + 8) [.pointer (some ⟨b170, 0, none⟩)] := Cells.of hw5'.same rfl
  refine ⟨pb, 0, rfl, _, c8, pb, 0, rfl, _, c8, pb, 0, rfl, _, Cells.of hw5'.same rfl, pb, 0, rfl, _, Cells.of hw5'.same rfl, b170, 0, rfl, _, _, hb170, by simp [takC], fun H6 hw6 => ?_⟩
  have hb170_6 : H6 b170 = some (.cells (takC ⟨IntKind.wrap .u64 (nb + 1), d1.lid, op1, d1.lsn, 0, none, 0, 0⟩ 0 0 b168) 173 (0, 0)) := hw6.same
  refine ⟨b170, 0, rfl, _, _, hb170_6, by simp [takC], fun H7 hw7 => ?_⟩
  have hb170_7 : H7 b170 = some (.cells (takC ⟨IntKind.wrap .u64 (nb + 1), d1.lid, op1, d1.lsn, 0, none, 0, 0⟩ d1.lpos 0 b168) 173 (0, 0)) := hw7.same
  have e6 : Ev (fun tg => tg = (15, keyN e0.key)) H5 _ H6 _ := Ev.wr ea.ok hw6 fun tg htg => by rw [t4] at htg; cases htg; rfl
  have e7 : Ev (fun tg => tg = (15, keyN e0.key)) H6 _ H7 _ := Ev.wr e6.ok hw7 fun tg htg => by rw [t4] at htg; cases htg; rfl
  have e67 := e6.trans e7
  exact fin H7 (e67.mono fun tg h => by subst h; exact ⟨rfl, Nat.le_refl 15, by simp⟩) ⟨t4, _, d1.lpos, b168, #[], 0, [], hb170_7, OwnT.nil I64.size, by simp, t168, e67.get t168 (by intro h; cases h) hb168, MapOk.empty _ _⟩

end

end

end Go.Proofs.Qxb6500694aGreatDoor
