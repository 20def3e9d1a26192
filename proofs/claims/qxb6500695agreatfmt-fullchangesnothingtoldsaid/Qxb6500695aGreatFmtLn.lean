/-
  FULL CHANGES NOTHING, PART N: the law's loop.
-/
import Derived.Test.Qxb6500695aGreatFmtLm
namespace Go.Proofs.Qxb6500695aGreatFmt
open Go Go.Eng Go.Proofs
set_option maxRecDepth 100000
set_option linter.unusedVariables false
set_option linter.unusedSimpArgs false
set_option linter.unusedSectionVars false

section
variable {S : Nat × Int → Prop} {H H' : Heap} {g g' q : Gh} {E : Nat → Value} {rb ba bd M : Nat} {nd nda : Nat → NdV} {op : OpV} {p : Option Addr} {n c : Nat} {x16 x17 : Int} {R : Value → Heap → Prop} {ops : List OpV}

theorem f6_L5_ht {over app : Bool} {e : Value} {a1 : Int} {a2 : Option Addr} {a2n a2c : Nat} {a3 : Option Addr} {a3n a3c : Nat} {a4 a5 a6 a7 : Int} (hA : ErA H g E) (hG : Gl H g E) (he : errV E e) (hb : app = true → e ≠ E 0 → (over = true ↔ e = E 1)) (hnext : f6_L7 (some ⟨rb, 0, none⟩) p n c x16 x17 H R) :
    f6_L5 (some ⟨rb, 0, none⟩) over app e a1 a2 a2n a2c a3 a3n a3c a4 a5 a6 a7 p n c x16 x17 false H R := by
  have L6 : f6_L6 (some ⟨rb, 0, none⟩) p n c x16 x17 false H R := by
    apply f6_L6_of
    exact ⟨(fun h => by cases h), fun _ => hnext⟩
  apply f6_L5_of
  refine ⟨(fun h => by cases h), fun _ => ⟨fun ha => ?_, fun _ => L6⟩⟩
  obtain ⟨t0, x0, hE0, hc0⟩ := hG.get 0 (by decide) (by decide)
  refine ⟨t0, x0, hc0, semOk_errNeq hA he (by decide) (by decide) hE0 fun r hr => ⟨r, rfl, fun hr1 => ?_, fun _ => L6⟩⟩
  obtain ⟨t1, x1, hE1, hc1⟩ := hG.get 1 (by decide) (by decide)
  refine ⟨t1, x1, hc1, semOk_errEql hA he (by decide) (by decide) hE1 fun r2 hr2 => ⟨r2, rfl, _, binIs_bool_neq, ?_⟩⟩
  have h1 := hb ha (hr.1 hr1)
  have h2 : (over != r2) = false := by
    rw [← hr2] at h1
    cases over <;> cases r2 <;> simp at h1 ⊢
  rw [h2]
  exact L6

theorem f6_L4_ht {over app : Bool} (hkd : op.kd = 0 ∨ op.kd = 4 ∨ op.kd = 5 ∨ op.kd = 6) (hM : M + 4 < 2 ^ 28) (hbd : bd + 160 < 2 ^ 31) (Rb : Rig H g E rb bd M nd) (Ra : Rig H q E ba bd M nda) (hs : Sep g q) (cp : Copy nd nda) (ob : OpOk H g op) (oa : OpOk H q op) (hA : ErA H g E)
    (hb : app = true → byd (shS (nodeOf op.node)) (shN (nodeOf op.node)) (shC (nodeOf op.node)) op (nd (nodeOf op.node)) over)
    (hnext : ∀ H' g' n', Ev (fun tg => tg ≠ (0, 0)) H g H' g' → Rig H' g' E rb (bd + 80) (M + 4) (ndset nd (nodeOf op.node) n') → f6_L7 (some ⟨rb, 0, none⟩) p n c x16 x17 H' R) :
    f6_L4 (some ⟨rb, 0, none⟩) op.kd op.node op.nm op.to op.off op.n op.dp op.dn op.dc op.pp op.pn op.pc (some ⟨ba, 0, none⟩) over app p n c x16 x17 H R := by
  have hk3 := nodeOf_lt op.node
  apply f6_L4_of
  refine (f20x_ht hkd Rb hM hbd ob hA).mono fun v H1 ⟨G, g1, ⟨e, m, dp, dn, dc, np, nn, nc, i1, i2, i3, i4, n', hv, he, r1, hfull, hSt, hJ⟩, hsub, e1, eG, f1⟩ => ⟨e, m, dp, dn, dc, np, nn, nc, i1, i2, i3, i4, hv, fun _ => ?_⟩
  have G1 := Rb.gl.ev e1 SpK.zero
  have A1 := hA.ev e1 SpK.zero
  have e1n : Ev (fun tg => tg ≠ (0, 0)) H g H1 g1 := e1.mono fun tg ht hc => SpK.zero (hc ▸ ht)
  have R1 : Rig H1 g1 E rb (bd + 80) (M + 4) (ndset nd (nodeOf op.node) n') := by
    refine ⟨e1.ok, G1, r1.off eG none_offN, fun k hk => ?_, fun k hk => ?_⟩
    · unfold ndset
      split
      · rename_i hkk; rw [hkk]; exact hSt
      · exact (Rb.inv k hk).mono (by omega) hM
    · unfold ndset
      split
      · exact hJ
      · exact Rb.jt k hk
  obtain ⟨oq, sq⟩ := f1.other e1 SpK.zero Ra.ok hs
  have hb' : app = true → e ≠ E 0 → (over = true ↔ e = E 1) := fun ha hne => hfull.2 over (hb ha) hne
  refine ⟨isI_one (he.isI G1), ?_⟩
  obtain ⟨t1, x1, hE1, hc1⟩ := G1.get 1 (by decide) (by decide)
  refine ⟨t1, x1, hc1, semOk_errEql A1 he (by decide) (by decide) hE1 fun r hr => ⟨r, rfl, fun hr1 => ?_, fun _ => ?_⟩⟩
  · obtain ⟨hn', hsp⟩ := hfull.1 (hr.1 hr1)
    obtain ⟨hd1, hd2⟩ := spend_up2 hsp
    have hNA : ∀ i, i < 3 → NdA (nda i) (ndset nd (nodeOf op.node) n' i) := fun i hi => by
      obtain ⟨c1, c2, c3⟩ := cp i hi
      by_cases hik : i = nodeOf op.node
      · have hst : StA (nda i).s (nd i).s := StF.pair (Rb.inv i hi).idn c3 (StF.refl _)
        unfold ndset
        rw [if_pos hik, hn', ← hik]
        refine ⟨?_, by rw [c2]; exact PlA.refl _, hst⟩
        rw [c1]
        rw [← hik] at hd1 hd2
        rw [hd1]
        exact hd2.symm
      · unfold ndset
        rw [if_neg hik]
        exact ⟨by rw [c1], by rw [c2]; exact PlA.refl _, StF.pair (Rb.inv i hi).idn c3 (StF.refl _)⟩
    have hF : ∀ i, i < 3 → StF (ndset nd (nodeOf op.node) n' i).s (nda i).s := fun i hi => by
      obtain ⟨c1, c2, c3⟩ := cp i hi
      unfold ndset
      split
      · rename_i hik
        rw [hn', ← hik]
        exact c3
      · exact c3
    refine (f45_ht (bd := bd + 80) (M := M + 4) (by omega) sq.symm hNA hF ((Ra.off oq none_offN).mono (by omega) (by omega) hM) R1 (oa.ev oq (fun h => h)) (ob.ev e1 SpK.zero)).mono fun v H2 ⟨hv2, g2, e2, R2⟩ => ⟨_, hv2, ?_⟩
    have n27 : ¬ (fun tg : Nat × Int => tg.1 = 27) (0, 0) := fun h => by simp at h
    exact f6_L5_ht (A1.ev e2 n27) R2.gl he hb' (hnext H2 g2 n' (e1n.trans (e2.mono fun tg ht hc => by rw [hc] at ht; simp at ht)) R2)
  · exact f6_L5_ht A1 G1 he hb' (hnext H1 g1 n' e1n R1)

/-- The script's loop. -/
theorem f6_L1_ht {H0 : Heap} {g0 : Gh} (hn : ops.length ≤ 65536) (hsm : ∀ j (hj : j < ops.length), ops[j].dn ≤ 65536 ∧ ops[j].pn ≤ 65536) :
    ∀ (d i : Nat) (H : Heap) (g : Gh) (nd : Nat → NdV), ops.length - i = d → i ≤ ops.length → Ev (fun tg => tg ≠ (0, 0)) H0 g0 H g → ErA H g E → Scr H g p n ops → Rig H g E rb (80 * i) (4 * i) nd →
      f6_L1 (some ⟨rb, 0, none⟩) p n c (n : Int) (i : Int) H fun v H' => v = .bool true ∧ ∃ g', Ev (fun tg => tg ≠ (0, 0)) H0 g0 H' g' := by
  intro d
  induction d with
  | zero =>
    intro i H g nd hd hi e0 hA hS hR
    have hlen := hS.len
    apply f6_L1_of
    exact ⟨fun hx => by have := of_decide_eq_true hx; omega, fun _ => ⟨rfl, g, e0⟩⟩
  | succ d ih =>
    intro i H g nd hd hi e0 hA hS hR
    have hlen := hS.len
    have hil : i < ops.length := by omega
    obtain ⟨b, o, hp, htb, hc⟩ := hS.cells i hil
    have hop := (hS.ok i hil).ok (hsm i hil).1 (hsm i hil).2
    have hk3 := nodeOf_lt ops[i].node
    have n0 : ¬ (fun tg : Nat × Int => tg ≠ (0, 0)) (0, 0) := fun h => h rfl
    have next : ∀ H' g' n', Ev (fun tg => tg ≠ (0, 0)) H g H' g' → Rig H' g' E rb (80 * i + 80) (4 * i + 4) (ndset nd (nodeOf ops[i].node) n') → f6_L7 (some ⟨rb, 0, none⟩) p n c (n : Int) (i : Int) H' fun v H' => v = .bool true ∧ ∃ g', Ev (fun tg => tg ≠ (0, 0)) H0 g0 H' g' := by
      intro H' g' n' e' R'
      apply f6_L7_of
      unfold f6_L7_pre
      rw [wrapS (by omega)]
      refine ih (i + 1) H' g' (ndset nd (nodeOf ops[i].node) n') (by omega) (by omega) (e0.trans e') (hA.ev e' n0) (hS.ev e' n0) ?_
      rw [Nat.mul_add, Nat.mul_one, Nat.mul_add, Nat.mul_one]
      exact R'
    apply f6_L1_of
    refine ⟨fun _ => ?_, fun hx => by have := of_decide_eq_false hx; omega⟩
    refine ⟨b, o, hp, by omega, by omega, ops[i].kd, ops[i].node, ops[i].nm, ops[i].to, ops[i].off, ops[i].n, ops[i].dp, ops[i].dn, ops[i].dc, ops[i].pp, ops[i].pn, ops[i].pc, by simpa [OpV.cs] using hc, fun _ => ?_⟩
    refine (f16_ht ops[i].node).mono fun v H1 ⟨he, hv⟩ => ⟨_, hv, ?_⟩
    subst he
    refine (f12_ht hR.rk hk3).mono fun v H2 ⟨he, nb, hv, hnb⟩ => ⟨_, hv, ?_⟩
    subst he
    obtain ⟨nbk, hrb, hnk, hnds⟩ := hnb
    obtain ⟨pwb, dvb, sb, hN⟩ := hnds _ hk3
    rw [hnk] at hN
    have hIk := hR.inv _ hk3
    have L2T : (ops[i].kd = 0 ∨ ops[i].kd = 4 ∨ ops[i].kd = 5 ∨ ops[i].kd = 6) → f6_L2 (some ⟨rb, 0, none⟩) ops[i].kd ops[i].node ops[i].nm ops[i].to ops[i].off ops[i].n ops[i].dp ops[i].dn ops[i].dc ops[i].pp ops[i].pn ops[i].pc (some ⟨nb, 0, none⟩) p n c (n : Int) (i : Int) true H2 fun v H' => v = .bool true ∧ ∃ g', Ev (fun tg => tg ≠ (0, 0)) H0 g0 H' g' := by
      intro hkd
      apply f6_L2_of
      refine ⟨fun _ => ?_, (fun h => by cases h)⟩
      refine (f42_ht (by omega) hR).mono fun v H3 ⟨ba, q, nda, hv3, F, Ra, cp⟩ => ⟨_, hv3, ?_⟩
      have e3 : Ev (fun _ => False) H2 g H3 g := Ev.sub hR.ok F.sub
      have e3n : Ev (fun tg => tg ≠ (0, 0)) H2 g H3 g := e3.mono fun _ h => h.elim
      have R3 := hR.off e3 none_offN
      have N3 := hN.off e3 none_offN
      have s3 : Sep g q := F.sep hR.ok roOf_sep
      have oa := hop.ro (roOf_in.fx F) F.sub
      have L4 : ∀ (H4 : Heap) (g4 : Gh) (over app : Bool), Ev (fun tg => tg = (42, 0)) H3 g H4 g4 → Ev (fun _ => False) H3 q H4 q → Sep g4 q → (app = true → byd (shS (nodeOf ops[i].node)) (shN (nodeOf ops[i].node)) (shC (nodeOf ops[i].node)) ops[i] (nd (nodeOf ops[i].node)) over) →
          f6_L4 (some ⟨rb, 0, none⟩) ops[i].kd ops[i].node ops[i].nm ops[i].to ops[i].off ops[i].n ops[i].dp ops[i].dn ops[i].dc ops[i].pp ops[i].pn ops[i].pc (some ⟨ba, 0, none⟩) over app p n c (n : Int) (i : Int) H4 fun v H' => v = .bool true ∧ ∃ g', Ev (fun tg => tg ≠ (0, 0)) H0 g0 H' g' := by
        intro H4 g4 over app e4 q4 s4 hb
        have n42 : ¬ (fun tg : Nat × Int => tg = (42, 0)) (0, 0) := fun h => by simp at h
        have e4n : Ev (fun tg => tg ≠ (0, 0)) H2 g H4 g4 := e3n.trans (e4.mono fun tg ht hc => by rw [ht] at hc; simp at hc)
        exact f6_L4_ht hkd (by omega) (by omega) (R3.off e4 off42N) (Ra.off q4 none_offN) s4 cp ((hop.ev e3 (fun h => h)).ev e4 n42) (oa.ev q4 (fun h => h)) ((hA.ev e3 (fun h => h)).ev e4 n42) hb fun H' g' n' e' R' => next H' g' n' (e4n.trans e') R'
      have n42 : ¬ (fun tg : Nat × Int => tg = (42, 0)) (0, 0) := fun h => by simp at h
      have none4 : ∀ (H4 : Heap) (g4 : Gh), Ev (fun tg => tg = (42, 0)) H3 g H4 g4 → Ev (fun _ => False) H3 q H4 q → Sep g4 q →
          f6_L3 (some ⟨rb, 0, none⟩) ops[i].kd ops[i].node ops[i].nm ops[i].to ops[i].off ops[i].n ops[i].dp ops[i].dn ops[i].dc ops[i].pp ops[i].pn ops[i].pc (some ⟨nb, 0, none⟩) (some ⟨ba, 0, none⟩) false false p n c (n : Int) (i : Int) false H4 fun v H' => v = .bool true ∧ ∃ g', Ev (fun tg => tg ≠ (0, 0)) H0 g0 H' g' := by
        intro H4 g4 e4 q4 s4
        apply f6_L3_of
        exact ⟨(fun h => by cases h), fun _ => L4 H4 g4 false false e4 q4 s4 (fun h => by cases h)⟩
      refine (f31_ht N3.nd N3.pw).mono fun v H4 ⟨he4, hv4⟩ => ⟨_, hv4, fun hup => ?_, fun hdn => ?_⟩
      · subst he4
        have hup : (nd (nodeOf ops[i].node)).pw.down = false := by simpa using hup
        have er : Ev (fun _ => False) H4 g (restr H4 g) g := restr_ev R3.ok
        refine (HT.fr R3.ok (f43_ht er.ok (N3.off er none_offN) hIk.mT)).mono fun v H5 ⟨G, g5, ⟨cl, hv5, hcl⟩, hs5, e5, eG, f5⟩ => ⟨cl, hv5, ?_⟩
        obtain ⟨oq5, sq5⟩ := f5.other e5 n42 Ra.ok s3
        cases cl with
        | false => exact none4 H5 g5 e5 oq5 sq5
        | true =>
          have hclean := hcl rfl
          apply f6_L3_of
          refine ⟨fun _ => ?_, (fun h => by cases h)⟩
          have R5 := R3.off e5 off42N
          have N5 := N3.off e5 off42N
          have er5 : Ev (fun _ => False) H5 g5 (restr H5 g5) g5 := restr_ev R5.ok
          have op5 := (hop.ev e3 (fun h => h)).ev e5 n42
          refine (HT.fr R5.ok (f44_ht er5.ok (R5.gl.ev er5 (fun h => h)) (N5.off er5 none_offN) hIk hclean hup (by omega) (op5.ev er5 (fun h => h)))).mono fun v H6 ⟨G6, g6, ⟨over, app, hv6, hb6⟩, hs6, e6, eG6, f6⟩ => ⟨over, app, hv6, ?_⟩
          obtain ⟨oq6, sq6⟩ := f6.other e6 n42 oq5.ok sq5
          exact L4 H6 g6 over app (e5.trans e6) (oq5.trans oq6) sq6 hb6
      · subst he4
        exact none4 H4 g (Ev.refl e3.ok) (Ev.refl Ra.ok) s3
    have L2F : f6_L2 (some ⟨rb, 0, none⟩) ops[i].kd ops[i].node ops[i].nm ops[i].to ops[i].off ops[i].n ops[i].dp ops[i].dn ops[i].dc ops[i].pp ops[i].pn ops[i].pc (some ⟨nb, 0, none⟩) p n c (n : Int) (i : Int) false H2 fun v H' => v = .bool true ∧ ∃ g', Ev (fun tg => tg ≠ (0, 0)) H0 g0 H' g' := by
      apply f6_L2_of
      refine ⟨(fun h => by cases h), fun _ => ?_⟩
      refine (f20_ht hR.ok hR.gl hR.rk hR.inv (by omega) (by omega) hop).mono fun v H3 ⟨e, m, dp, dn, dc, np, nn, nc, i1, i2, i3, i4, n', tr, g1, hv, _, e1, r1, hstep⟩ => ⟨e, m, dp, dn, dc, np, nn, nc, i1, i2, i3, i4, hv, ?_⟩
      refine next H3 g1 n' (e1.mono fun tg ht hc => SpK.zero (hc ▸ ht)) ⟨e1.ok, hR.gl.ev e1 SpK.zero, r1, fun k hk => ?_, fun k hk => ?_⟩
      · unfold ndset
        split
        · rename_i hkk
          rw [hkk]
          exact hstep.inv hIk (by omega)
        · exact (hR.inv k hk).mono (by omega) (by omega)
      · unfold ndset
        split
        · exact hstep.jt hIk (hR.jt _ hk3)
        · exact hR.jt k hk
    refine ⟨fun h0 => ?_, fun h0 => ⟨fun h4 => ?_, fun h4 => ⟨fun h5 => ?_, fun h5 => ?_⟩⟩⟩
    · rw [h0]; exact L2T (.inl (by simpa using h0))
    · rw [h4]; exact L2T (.inr (.inl (by simpa using h4)))
    · rw [h5]; exact L2T (.inr (.inr (.inl (by simpa using h5))))
    · cases h6 : (ops[i].kd == (6 : Int)) with
      | true => exact L2T (.inr (.inr (.inr (by simpa using h6))))
      | false => exact L2F

theorem f6_ht (hg : GOk H g) (hG : Gl H g E) (hA : ErA H g E) (hNm : NmOk H g) (hS : Scr H g p n ops) : HT Tryz.prog 6 [.slice p n c] H fun v H' => v = .bool true ∧ ∃ g', Ev (fun tg => tg ≠ (0, 0)) H g H' g' := by
  apply f6_of
  refine (f10_ht (c := c) hS).mono fun v H1 ⟨he, b, hv, hb⟩ => ⟨_, hv, fun _ => ⟨rfl, g, by rw [he]; exact Ev.refl hg⟩, fun hx => ?_⟩
  subst he
  have hbt : b = true := by simpa using hx
  obtain ⟨hn, hsm⟩ := hb hbt
  refine (f11_ht hg hNm).mono fun v H2 ⟨rb, g2, hv2, e2, r2⟩ => ⟨_, hv2, ?_⟩
  have n0 : ¬ ((fun tg : Nat × Int => tg = (29, 0)) (0, 0)) := fun hc => by simp at hc
  exact f6_L1_ht (E := E) hn hsm _ 0 H2 g2 _ rfl (Nat.zero_le _) (e2.mono fun tg ht hc => by rw [ht] at hc; cases hc) (hA.ev e2 n0) (hS.ev e2 n0) ⟨e2.ok, hG.ev e2 n0, r2, fun k hk => st0_inv, fun k hk j hj => by simp [nd0, st0] at hj⟩

end

end Go.Proofs.Qxb6500695aGreatFmt
