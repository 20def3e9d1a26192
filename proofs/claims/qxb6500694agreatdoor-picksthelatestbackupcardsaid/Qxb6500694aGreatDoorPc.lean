/-
  THE PLAY, with the trial 34.
-/
import Derived.Test.Qxb6500694aGreatDoorDz
import Derived.Test.Qxb6500694aGreatDoorCn
import Derived.Test.Qxb6500694aGreatDoorCp
import Derived.Test.Qxb6500694aGreatDoorPb
import Derived.Test.Qxb6500694aGreatDoorVj
namespace Go.Proofs.Qxb6500694aGreatDoor
open Go Go.Eng Go.Proofs
set_option maxRecDepth 100000
set_option linter.unusedVariables false
set_option linter.unusedSimpArgs false
set_option linter.unusedSectionVars false

section
variable {H0 : Heap} {g0 : Gh} {q : Option Addr} {qn qc : Nat} {ops : List OpV}

theorem f10b_L3_ht {s5 : Option Addr} {i : Nat} (hi : i < 65537) {h : Heap} {R : Value → Heap → Prop} (hx : f10b_L1 s5 q qn qc (qn : Int) ((i + 1 : Nat) : Int) h R) : f10b_L3 s5 q qn qc (qn : Int) (i : Int) h R := by
  apply f10b_L3_of
  unfold f10b_L3_pre
  rw [wrapS (by omega)]
  exact hx

theorem f10b_L1_ht (hro : Ro H0 g0) (hG : Globs H0) (hr : ReadL H0 9 OpV.cs q qn ops) (hops : ∀ o ∈ ops, OpOk H0 o) (hqn : qn ≤ 65536) {F : Fix} :
    ∀ (k i : Nat) (h : Heap) (g : Gh) (esM esL esH esP : Array MapEntry), i + k = qn → Wd h g i F esM esL esH esP → Ev (fun tg => tg ≠ (0, 0)) H0 g0 h g →
      f10b_L1 (some ⟨F.bs, 0, none⟩) q qn qc (qn : Int) (i : Int) h fun v hE_ => v = .bool true ∧ Sub H0 hE_ := by
  have hlen := hr.len
  intro k
  induction k with
  | zero =>
    intro i h g esM esL esH esP hi hW hE
    apply f10b_L1_of
    exact ⟨fun hd => absurd (of_decide_eq_true hd) (by omega), fun _ => ⟨rfl, hro.sub hE⟩⟩
  | succ k ih =>
    intro i h g esM esL esH esP hi hW hE
    have hs := hro.sub hE
    apply f10b_L1_of
    refine ⟨fun _ => ?_, fun hd => absurd (of_decide_eq_false hd) (by simp; omega)⟩
    obtain ⟨b, o, hp, hc⟩ := (hr.sub hs).cells i (by omega)
    have hop := hops _ (List.getElem_mem (l := ops) (n := i) (by omega))
    generalize hopi : ops[i] = op at hc hop
    obtain ⟨ds, hds, hdv⟩ := hop.data
    refine ⟨b, o, hp, by omega, by omega, _, _, _, _, _, _, _, _, _, _, _, _, _, _, _, hc, fun _ => ⟨fun _ => ?_, fun _ => ?_⟩⟩
    · refine ⟨F.bs, 0, rfl, _, Cells.of hW.stage rfl, ?_⟩
      refine (f38_ht hW (by omega) (hds.sub hs) hdv hop.len).mono fun v H' ⟨hv, g', esM', esL', hW', hE'⟩ => ⟨hv, ?_⟩
      exact f10b_L3_ht (by omega) (ih (i + 1) H' g' esM' esL' esH esP (by omega) hW' (hE.trans hE'))
    · obtain ⟨nb, hbw⟩ := hW.world
      refine (f34_ht (hW.toArch (by omega)) (hG.sub hs) (Cells.of hW.stage rfl) (Cells.of hW.stage rfl) (Cells.of hbw rfl) hop.at_).mono fun v H2 ⟨hv2, hs2⟩ => ⟨_, hv2, ?_⟩
      have hW2 := hW.sub hs2
      have hE2 : Ev (fun tg => tg ≠ (0, 0)) H0 g0 H2 g := hE.trans (Ev.sub hW.gok hs2)
      refine ⟨F.bs, 0, rfl, _, _, hW2.stage, by simp, fun H3 hw3 => ?_⟩
      have hw3' : Wr H2 F.bs (.cells #[.pointer (some ⟨F.bw, 0, none⟩), .pointer (some F.dk)] 50 (0, 0)) H3 := hw3
      have hsame : Sub H2 H3 := by
        intro x ob hx
        by_cases hxb : x = F.bs
        · subst hxb; rw [hw3'.same]; rw [hW2.stage] at hx; exact hx
        · exact hw3'.keep hx hxb
      have hW3 := hW2.sub hsame
      have hE3 : Ev (fun tg => tg ≠ (0, 0)) H0 g0 H3 g := hE2.trans (Ev.sub hW2.gok hsame)
      obtain ⟨nb3, hbw3⟩ := hW3.world
      have hs3 := hro.sub hE3
      refine ⟨F.bs, 0, rfl, some F.dk, Cells.of hW3.stage rfl, _, ptrEql Tryz.underlying35, (fun h => by cases h), fun _ => ⟨F.bs, 0, rfl, _, Cells.of hW3.stage rfl, F.bw, 0, rfl, _, Cells.of hbw3 rfl, ?_⟩⟩
      have l2 : ∀ v H5, restPost H3 esH v H5 → ∃ (x50_0 : Value) (x1 x2 x3 y0 y1 y2 y3 y4 y5 y6 y7 : Int), v = .agg #[x50_0, .int .u32 x1, .int .u32 x2, .int .u64 x3, .int .u64 y0, .int .u64 y1, .int .u64 y2, .int .u64 y3, .int .u64 y4, .int .u64 y5, .int .u64 y6, .int .u64 y7] ∧
          Cells H5 F.bs 0 [.pointer (some ⟨F.bw, 0, none⟩)] ∧ x50_0.oneCell' = true ∧ f10b_L2 (some ⟨F.bs, 0, none⟩) x50_0 x1 x2 x3 y0 y1 y2 y3 y4 y5 y6 y7 q qn qc (qn : Int) (i : Int) H5 fun v hE_ => v = .bool true ∧ Sub H0 hE_ := by
        intro v H5 ⟨e, x1, x2, x3, f, hv5, he, hs5, hgood⟩
        have hW5 := hW3.sub hs5
        have hE5 : Ev (fun tg => tg ≠ (0, 0)) H0 g0 H5 g := hE3.trans (Ev.sub hW3.gok hs5)
        obtain ⟨nb5, hbw5⟩ := hW5.world
        refine ⟨e, x1, x2, x3, f 0, f 1, f 2, f 3, f 4, f 5, f 6, f 7, hv5, Cells.of hW5.stage rfl, ?_, ?_⟩
        · rcases he with h | ⟨t, x, h⟩ <;> rw [h] <;> rfl
        · apply f10b_L2_of
          refine ⟨_, eqlErr he, fun hnil => ?_, fun _ => ?_⟩
          · have hen : e = .nilIface := by
              rcases he with h | ⟨t, x, h⟩
              · exact h
              · rw [h] at hnil; cases hnil
            obtain ⟨hc3, hparent, hlt, hex⟩ := hgood hen
            intro _
            refine ⟨F.bs, 0, rfl, _, Cells.of hW5.stage rfl, F.bw, 0, rfl, _, Cells.of hbw5 rfl, ?_⟩
            refine (f39_ht hW5 ⟨x1, x2, x3⟩ hc3 hlt hex hparent).mono fun v H6 ⟨hv6, esH', hW6, hE6, hget, hno⟩ => ⟨_, hv6, Cells.of hW6.stage rfl, _, neqErr IsI.nil, (fun h => by cases h), fun _ => ⟨F.bs, 0, rfl, _, Cells.of hW6.stage rfl, ?_⟩⟩
            have hE06 := hE5.trans hE6
            refine (f40_ht (by omega) hW6 (fun G kk hEG => hG.sub (hro.sub (hE06.trans hEG))) hno ?_ hc3).mono fun v H7 ⟨hv7, g7, esP7, hW7, hE7⟩ => ⟨hv7, ?_⟩
            · obtain ⟨e', he', hk, _⟩ := iget_mem hget
              exact ⟨e', he', hk⟩
            · exact f10b_L3_ht (by omega) (ih (i + 1) H7 g7 esM esL esH' esP7 (by omega) hW7 (hE06.trans hE7))
          · obtain ⟨_, g', esM', esL', hW', hE'⟩ := hW5.idle
            exact f10b_L3_ht (by omega) (ih (i + 1) H5 g' esM' esL' esH esP (by omega) hW' (hE5.trans hE'))
      have h12 : ∀ bk, HT Tryz.prog 12 [.pointer (some ⟨F.ba, 0, none⟩), .agg #[.int .u32 op.tl, .bool op.bt, .int .u64 op.at_, .int .i64 op.time, .int .u64 bk]] H3 (restPost H3 esH) := fun bk => f12_ht (hW3.toArch (by omega)) (hG.sub hs3) hop.at_
      refine ⟨?_, fun _ => ?_⟩
      · refine f13_ht.mono fun v H4 ⟨he4, bk, hv4⟩ => ?_
        subst he4
        refine ⟨op.tl, op.bt, op.at_, op.time, bk, hv4, Cells.of hbw3 rfl, Cells.of hW3.stage rfl, (h12 bk).mono fun v H5 hp5 => ?_, fun _ => (h12 bk).mono fun v H5 hp5 => ?_⟩
        · obtain ⟨x0, x1, x2, x3, y0, y1, y2, y3, y4, y5, y6, y7, hv5, hc5, ho5, hl⟩ := l2 v H5 hp5
          exact ⟨x0, x1, x2, x3, y0, y1, y2, y3, y4, y5, y6, y7, hv5, hc5, fun _ => ⟨ho5, hl⟩⟩
        · obtain ⟨x0, x1, x2, x3, y0, y1, y2, y3, y4, y5, y6, y7, hv5, hc5, ho5, hl⟩ := l2 v H5 hp5
          exact ⟨x0, x1, x2, x3, y0, y1, y2, y3, y4, y5, y6, y7, hv5, hc5, ho5, hl⟩
      · refine f13_ht.mono fun v H4 ⟨he4, bk, hv4⟩ => ?_
        subst he4
        refine ⟨op.tl, op.bt, op.at_, op.time, bk, hv4, Cells.of hbw3 rfl, Cells.of hW3.stage rfl, (h12 bk).mono fun v H5 hp5 => ?_⟩
        obtain ⟨x0, x1, x2, x3, y0, y1, y2, y3, y4, y5, y6, y7, hv5, hc5, ho5, hl⟩ := l2 v H5 hp5
        exact ⟨x0, x1, x2, x3, y0, y1, y2, y3, y4, y5, y6, y7, hv5, hc5, ho5, hl⟩

end

end Go.Proofs.Qxb6500694aGreatDoor
