/-
  RENAME IS ATOMIC: the script.
-/
import Derived.Test.Qxb6500695aGreatFmtQj
namespace Go.Proofs.Qxb6500695aGreatFmt
open Go Go.Eng Go.Proofs
set_option maxRecDepth 100000
set_option linter.unusedVariables false
set_option linter.unusedSimpArgs false
set_option linter.unusedSectionVars false

section
variable {H0 H : Heap} {g0 g : Gh} {p : Option Addr} {n c : Nat} {ops : List OpV} {E : Nat → Value} {rb sb4 : Nat}

/-- The script's loop. -/
theorem f4_L2_ht (hn : ops.length ≤ 65536) (hsm : ∀ j (hj : j < ops.length), ops[j].dn ≤ 65536 ∧ ops[j].pn ≤ 65536) :
    ∀ (d i : Nat) (H : Heap) (g : Gh) (bd M : Nat) (nd : Nat → NdV) (fs : Nat → List Dr), ops.length - i = d → i ≤ ops.length → Ev Ro H0 g0 H g → F4 E p n ops rb sb4 H g bd M nd fs → (∀ k, k < 3 → Stood (nd k).s (fs k)) → bd ≤ 80 * i → M ≤ 4 * i →
      f4_L2 (some ⟨rb, 0, none⟩) sb4 p n c (n : Int) (i : Int) H (post4 H0 g0) := by
  intro d
  induction d with
  | zero =>
    intro i H g bd M nd fs hd hi hE hF _ _ _
    have hlen := hF.scr.len
    apply f4_L2_of
    exact ⟨fun hx => by have := of_decide_eq_true hx; omega, fun _ => ⟨rfl, g, hE⟩⟩
  | succ d ih =>
    intro i H g bd M nd fs hd hi hE hF hst hb hM
    have hlen := hF.scr.len
    have hil : i < ops.length := by omega
    obtain ⟨b, o, hp, htb, hc⟩ := hF.scr.cells i hil
    have hop := (hF.scr.ok i hil).ok (hsm i hil).1 (hsm i hil).2
    have hgo : Goes E p n c ops rb sb4 i H0 g0 := by
      intro H1 g1 bd1 M1 nd1 fs1 hE1 hF1 hst1 hb1 hM1
      apply f4_L11_of
      unfold f4_L11_pre
      rw [wrapS (by omega)]
      exact ih (i + 1) H1 g1 bd1 M1 nd1 fs1 (by omega) (by omega) hE1 hF1 hst1 hb1 hM1
    apply f4_L2_of
    refine ⟨fun _ => ?_, fun hx => by have := of_decide_eq_false hx; omega⟩
    refine ⟨b, o, hp, by omega, by omega, ops[i].kd, ops[i].node, ops[i].nm, ops[i].to, ops[i].off, ops[i].n, ops[i].dp, ops[i].dn, ops[i].dc, ops[i].pp, ops[i].pn, ops[i].pc, by simpa [OpV.cs] using hc, fun _ => ?_⟩
    generalize ops[i] = op at *
    have skip : f4_L3 (some ⟨rb, 0, none⟩) sb4 op.kd op.node op.nm op.to op.off op.n op.dp op.dn op.dc op.pp op.pn op.pc p n c (n : Int) (i : Int) true H (post4 H0 g0) := by
      apply f4_L3_of
      exact ⟨fun _ => hgo _ _ _ _ _ _ hE hF hst (by omega) (by omega), (fun h => by cases h)⟩
    refine ⟨fun _ => skip, fun h15 => ?_⟩
    have h15' : op.kd ≠ 15 := by simpa using h15
    by_cases h16 : op.kd = 16
    · rw [show (op.kd == (16 : Int)) = true by simp [h16]]
      exact skip
    · rw [show (op.kd == (16 : Int)) = false by simp [h16]]
      have hk3 := nodeOf_lt op.node
      apply f4_L3_of
      refine ⟨(fun h => by cases h), fun _ => ?_⟩
      refine (f16_ht op.node).mono fun v H1 ⟨he, hv⟩ => ⟨_, hv, ?_⟩
      subst he
      refine (f12_ht hF.rk hk3).mono fun v H1 ⟨he, nb, hv, hnb⟩ => ⟨_, hv, ?_⟩
      subst he
      obtain ⟨nbk, hrb, hnk, hnds⟩ := hnb
      obtain ⟨pwb, dvb, sb, hN⟩ := hnds _ hk3
      have hs : StAt H1 g rb (nodeOf op.node) sb := ⟨hF.rk.tag, nbk, pwb, dvb, hrb, hN.nd⟩
      rw [hnk] at hN
      refine (f17_ht hN.nd).mono fun v H2 ⟨he, hv⟩ => ⟨_, hv, ?_⟩
      subst he
      refine ⟨fun h13 => ?_, fun h13 => ?_⟩
      · have hIk := hF.ri _ hk3
        refine (f30_ht hF.ok hF.gl hN.st hN.pw (hIk.toN (by omega)) hIk.mT (nm := op.nm)).mono fun v H3 ⟨g3, e3, r3, hR⟩ => ?_
        obtain ⟨ek, hF3⟩ := hF.read hk3 hs hN e3 r3
        have hE3 : Ev Ro H0 g0 H3 g3 := hE.trans (ek.mono fun tg ht => Ro.k ht)
        have hs3 := hs.ev ek SpK.n29 SpK.n28
        have hop3 := hop.ev ek SpK.zero
        rcases hR with ⟨hd, hv⟩ | ⟨_, hf, hv⟩ | ⟨_, ob, rb2, m, hf, hv, hrb2, hsrc⟩
        · exact ⟨_, _, _, _, hv, f4_L4_ht hgo rfl (by omega) hE3 hF3 hst hs3 hb hM hop3 h15' h16 fun _ hup => by rw [hd] at hup; cases hup⟩
        · exact ⟨_, _, _, _, hv, f4_L4_ht hgo rfl (by omega) hE3 hF3 hst hs3 hb hM hop3 h15' h16 fun _ _ b' hb' => by rw [hf] at hb'; cases hb'⟩
        · exact ⟨_, _, _, _, hv, f4_L4_ht hgo rfl (by omega) hE3 hF3 hst hs3 hb hM hop3 h15' h16 fun _ _ b' hb' => by rw [hf] at hb'; cases hb'; exact ⟨⟨rb2, rfl, hrb2⟩, hsrc⟩⟩
      · exact f4_L4_ht hgo rfl (by omega) hE hF hst hs hb hM hop h15' h16 fun hx => absurd hx (by simpa using h13)

/-- The lists of a new rack. -/
theorem f4_L1_ht (hn : ops.length ≤ 65536) (hsm : ∀ j (hj : j < ops.length), ops[j].dn ≤ 65536 ∧ ops[j].pn ≤ 65536) :
    ∀ (d k : Nat) (H : Heap) (g : Gh), 3 - k = d → k ≤ 3 → Ev Ro H0 g0 H g → F4 E p n ops rb sb4 H g 0 0 (fun _ => nd0) (fun j => if j < k then [fun _ => none] else []) →
      f4_L1 p n c (some ⟨rb, 0, none⟩) sb4 (k : Int) H (post4 H0 g0) := by
  intro d
  induction d with
  | zero =>
    intro k H g hd hk hE hF
    have hk3 : k = 3 := by omega
    subst hk3
    apply f4_L1_of
    refine ⟨fun hx => by have := of_decide_eq_true hx; omega, fun _ => ?_⟩
    refine f4_L2_ht hn hsm _ 0 H g 0 0 _ _ rfl (Nat.zero_le _) hE hF (fun j hj => ?_) (Nat.zero_le _) (Nat.zero_le _)
    show Stood nd0.s (if j < 3 then [fun _ => none] else [])
    rw [if_pos hj]
    refine ⟨rfl, fun i hi => ?_⟩
    have hi0 : i = 0 := by simpa using hi
    subst hi0
    rfl
  | succ d ih =>
    intro k H g hd hk hE hF
    have hk3 : k < 3 := by omega
    apply f4_L1_of
    refine ⟨fun _ => ?_, fun hx => by have := of_decide_eq_false hx; omega⟩
    intro mb H1 ha1 b H2 ha2
    obtain ⟨e1, t1⟩ := Ev.al (S := fun _ => False) hF.ok ha1 (0, 0)
    have F1 := hF.off e1 none_offN (fun h => h) (fun z h => h)
    have hd : DirM H1 (gset g mb (0, 0)) mb (fun _ => none) := ⟨t1, #[], 0, ha1.same, MapOkS.empty 0, fun x => rfl⟩
    obtain ⟨e2, hl⟩ := SdL.one F1.ok ha2 hd k
    have F2 := F1.off e2 none_offN (fun h => h) (fun z h => h)
    obtain ⟨P, hP, hL⟩ := F2.sd.ex
    refine ⟨by omega, by omega, _, _, hP, by simp; omega, fun H3 hw => ?_⟩
    obtain ⟨e3, F3⟩ := F2.set hP (fun j hj _ => hL j hj) hk3 hl hw
    rw [wrapS (by omega)]
    refine ih (k + 1) H3 _ (by omega) (by omega) (((hE.trans (e1.mono fun tg h => h.elim)).trans (e2.mono fun tg h => h.elim)).trans (e3.mono fun tg h hc => by rw [h] at hc; cases hc)) ?_
    have hfs : fset (fun j => if j < k then [fun _ => none] else []) k [fun _ => none] = fun j => if j < k + 1 then [fun _ => none] else ([] : List Dr) := by
      funext j
      unfold fset
      by_cases h1 : j = k
      · rw [if_pos h1, if_pos (by omega)]
      · rw [if_neg h1]
        show (if j < k then [fun _ => none] else ([] : List Dr)) = _
        by_cases h2 : j < k
        · rw [if_pos h2, if_pos (by omega)]
        · rw [if_neg h2, if_neg (by omega)]
    rw [hfs] at F3
    exact F3

theorem f4_ht (hg : GOk H g) (hG : Gl H g E) (hNm : NmOk H g) (hS : Scr H g p n ops) : HT Tryz.prog 4 [.slice p n c] H fun v H' => v = .bool true ∧ ∃ g', Ev (fun tg => tg ≠ (0, 0)) H g H' g' := by
  apply f4_of
  refine (f10_ht (c := c) hS).mono fun v H1 ⟨he, b, hv, hb⟩ => ⟨_, hv, fun _ => ⟨rfl, g, by rw [he]; exact Ev.refl hg⟩, fun hx => ?_⟩
  subst he
  have hbt : b = true := by simpa using hx
  obtain ⟨hn, hsm⟩ := hb hbt
  refine (f11_ht hg hNm).mono fun v H2 ⟨rb, g2, hv2, e2, r2⟩ => ⟨_, hv2, fun sb4 H3 ha3 => ?_⟩
  have n0 : ¬ ((fun tg : Nat × Int => tg = (29, 0)) (0, 0)) := fun hc => by simp at hc
  obtain ⟨e3, t3⟩ := Ev.al (S := fun _ => False) e2.ok ha3 (45, 0)
  refine f4_L1_ht (E := E) hn hsm _ 0 H3 _ rfl (Nat.zero_le _) ((e2.mono fun tg ht hc => by rw [ht] at hc; cases hc).trans (e3.mono fun tg h => h.elim)) ?_
  refine ⟨e3.ok, (hG.ev e2 n0).ev e3 (fun h => h), (hS.ev e2 n0).ev e3 (fun h => h), r2.off e3 none_offN, fun k hk => st0_inv, ⟨t3, fun _ => (none, 0, 0), ha3.same, fun k hk => ?_⟩, fun k hk i x hx => ?_⟩
  · exact ⟨[], OwnT.nil Mp.size, rfl, fun i hi => absurd hi (by simp)⟩
  · exact absurd (by simp [nd0, st0, redoN]) hx

end

end Go.Proofs.Qxb6500695aGreatFmt
