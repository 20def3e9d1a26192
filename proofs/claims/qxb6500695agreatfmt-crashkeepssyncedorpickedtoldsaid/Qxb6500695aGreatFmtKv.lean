/-
  CrashKeeps: THE SCRIPT's LOOP.
-/
import Derived.Test.Qxb6500695aGreatFmtKu
namespace Go.Proofs.Qxb6500695aGreatFmt
open Go Go.Eng Go.Proofs
set_option maxRecDepth 100000
set_option linter.unusedVariables false
set_option linter.unusedSimpArgs false
set_option linter.unusedSectionVars false

section
variable {S : Nat × Int → Prop} {H H1 H2 H' H0 : Heap} {g g1 g2 g' g0 : Gh} {E : Nat → Value} {sp : Option Addr} {sn sc : Nat} {ops : List OpV} {rb d4 o5 : Nat} {p : Nat → SlP} {mb : Nat → Nat} {bd M bk cn k nb pwb dvb sb wb : Nat} {nd : Nat → NdV} {hl : Nat → Nat → List Sv} {B : Nat → Int → Option Bk} {n' : NdV} {X : Heap → Prop}
variable {x70 : Option Addr} {x70n x70c : Nat} {x71 x72 : Int} {R : Value → Heap → Prop} {op : OpV}

theorem F3.evF (h : F3 E sp sn ops rb d4 o5 p mb H g bd M bk cn nd hl B) (ev : Ev (fun _ => False) H g H' g') : F3 E sp sn ops rb d4 o5 p mb H' g' bd M bk cn nd hl B :=
  ⟨ev.ok, h.gl.ev ev (fun h => h), h.scr.ev ev (fun h => h), h.rk.off ev none_offN, h.ri, ⟨ev.tag _ _ h.bs.dt, ev.tag _ _ h.bs.ot, ev.get h.bs.dt (fun h => h) h.bs.dx, ev.get h.bs.ot (fun h => h) h.bs.ox, fun k hk => (h.bs.db k hk).ev ev (fun h => h) (fun h => h) fun _ h => h, fun k hk => (h.bs.ob k hk).ev ev (fun h => h) (fun h => h) fun _ _ _ _ h => h⟩, h.ni⟩

theorem F3.mono {bd' M' bk' : Nat} (h : F3 E sp sn ops rb d4 o5 p mb H g bd M bk cn nd hl B) (h1 : bd ≤ bd') (h2 : M ≤ M') (h3 : bk ≤ bk') (hM : M' < 2 ^ 28) : F3 E sp sn ops rb d4 o5 p mb H g bd' M' bk' cn nd hl B :=
  ⟨h.ok, h.gl, h.scr, h.rk.mono h1, fun k hk => (h.ri k hk).mono h2 hM, ⟨h.bs.dt, h.bs.ot, h.bs.dx, h.bs.ox, fun k hk => (h.bs.db k hk).mono h3, fun k hk => (h.bs.ob k hk).mono h3 (Nat.le_refl _)⟩, h.ni⟩

theorem f3_L5_ht {x83 : Bool} (F : F3 E sp sn ops rb d4 o5 p mb H g bd M bk cn nd hl B) (hx : x83 = true ↔ (op.kd = 15 ∨ op.kd = 16)) (hop : OpOk H g op) (hbd : bd + 240 < 2 ^ 31) (hM : M + 8 < 2 ^ 28) (hbk : bk + 32 < 2 ^ 31) (hbk1 : 1 ≤ bk)
    (hnext : ∀ (H' : Heap) (g' : Gh) (cn' : Nat) (nd' : Nat → NdV) (hl' : Nat → Nat → List Sv) (B' : Nat → Int → Option Bk), Ev Ro H g H' g' → F3 E sp sn ops rb d4 o5 p mb H' g' (bd + 80) (M + 4) (bk + 2) cn' nd' hl' B' → f3_L13 (some ⟨rb, 0, none⟩) d4 o5 x70 x70n x70c x71 x72 H' R) :
    f3_L5 (some ⟨rb, 0, none⟩) d4 o5 op.kd op.node op.nm op.to op.off op.n op.dp op.dn op.dc op.pp op.pn op.pc x70 x70n x70c x71 x72 x83 H R := by
  have hE : ENe E := fun b hb h5 => E_ne F.gl hb h5
  have hk := nodeOf_lt op.node
  have hpb := hop.pb
  apply f3_L5_of
  refine ⟨fun _ => hnext H g cn nd hl B (Ev.refl F.ok) (F.mono (by omega) (by omega) (by omega) (by omega)), fun hx0 => ?_⟩
  have hno : op.kd ≠ 15 ∧ op.kd ≠ 16 := by
    constructor
    · intro hc; have := hx.2 (.inl hc); rw [hx0] at this; cases this
    · intro hc; have := hx.2 (.inr hc); rw [hx0] at this; cases this
  refine (f16_ht op.node).mono fun v G1 ⟨he1, hv1⟩ => ⟨_, hv1, ?_⟩
  subst he1
  refine (f12_ht F.rk hk).mono fun v G2 ⟨he2, nb, hv2, nbk, hrb, hnk, hnds⟩ => ⟨_, hv2, ?_⟩
  subst he2
  obtain ⟨pwb, dvb, sb, hN⟩ := hnds _ hk
  rw [hnk] at hN
  have nat0 : NdAt G2 g rb (nodeOf op.node) nb pwb dvb sb := ⟨F.rk.tag, nbk, hrb, hnk, hN.nd⟩
  refine (f13_ht hN.nd).mono fun v G3 ⟨he3, hv3⟩ => ⟨_, hv3, ?_⟩
  subst he3
  refine (f17_ht hN.nd).mono fun v G4 ⟨he4, hv4⟩ => ⟨_, hv4, ?_⟩
  subst he4
  refine (f18_ht hN.st).mono fun v G5 ⟨he5, hv5⟩ => ⟨_, hv5, ?_⟩
  subst he5
  refine (f19m_ht (c := op.pc) F.ok hop.pl (by omega) hop.pcs).mono fun v H1 ⟨wb, g1, hv6, e1, w1⟩ => ⟨_, hv6, ?_⟩
  have F1 := F.evF e1
  have nat1 := nat0.ev e1 (fun h => h) (fun h => h)
  refine (f20m_ht F1.ok F1.gl F1.rk F1.ri (by omega) (by omega) (hop.ev e1 (fun h => h)) w1).mono fun v H2 ⟨e, m, dp, dn, dc, np, nn, nc, i1, i2, i3, i4, n', tr, g2, hv7, herr, e2, r2, hstep, hw2⟩ => ⟨e, m, dp, dn, dc, np, nn, nc, i1, i2, i3, i4, hv7, fun _ => ⟨isI_one (herr.isI F1.gl), ?_⟩⟩
  generalize hkk : nodeOf op.node = k at *
  have I1 := F1.ri k hk
  have I' := hstep.inv (M := M) I1 (by omega)
  have nm' := hstep.nm hE I1 (by omega) hno.1 hno.2 (F1.ni k hk).nm
  have eK : Ev (UK k) H1 g1 H2 g2 := e2.mono fun tg h => .inl h
  have nat2 := nat1.ev e2 SpK.n29 SpK.n28
  have N2 := r2.nodeAt hk nat2
  have hnk' : ndset nd k n' k = n' := by unfold ndset; rw [if_pos rfl]
  rw [hnk'] at N2
  have A : AP E sp sn ops rb d4 o5 p mb H1 g1 bd M bk cn nd hl B k nb pwb dvb sb n' H2 g2 := by
    refine ⟨F1, hk, nat1, eK, N2, I', (F1.bs.db k hk).ev e2 SpK.zero (NB.nK hk (.inl rfl)) (fun s => NB.nK hk (.inr (.inr (.inl ⟨s, rfl⟩)))), (F1.bs.ob k hk).ev e2 SpK.zero (NB.nK hk (.inr (.inl rfl))) (fun c _ tg ht => NB.nK hk (.inr (.inr (.inr ⟨c, ht⟩)))), nm', by omega, by omega, hbk1⟩
  have hcl : Cl p mb H1 g1 bd bk cn k nb pwb dvb sb n' (f3_L13 (some ⟨rb, 0, none⟩) d4 o5 x70 x70n x70c x71 x72 · R) := by
    intro H' g' hlk Bkk cn' ev N hcn D Bb hni
    refine hnext H' g' cn' _ _ _ ((e1.mono fun tg h => h.elim).trans (ev.mono fun tg h hc => UK.zero hk (hc ▸ h))) (F1.next hk nat1 ev N I' (by omega) (by omega) (by omega) (by omega) hcn D Bb hni)
  have G2 := A.gl
  refine errK G2 herr (fun hne => ?_) fun hnil => ?_
  · by_cases h18 : op.kd = 18
    · have hc := hstep.k18 h18
      exfalso
      have : e = .nilIface := by
        cases hstep using StepR.ind with
        | crash p0 p1 => rfl
        | other p0 => exact absurd h18 (p0 18 (by decide))
        | _ => omega
      exact hne this
    · exact A.quiet hcl (hstep.quiet hE hno.1 hno.2 h18 (.inl hne))
  · subst hnil
    have hop2 : OpOk H2 g2 op := (hop.ev e1 (fun h => h)).ev e2 SpK.zero
    have go : ∀ p18 : Option Addr, (∀ b y, n'.pw.down = false → fnd n'.s op.nm = some b → B k (n'.s.O b).id = some y → p18 = some ⟨y.pb, 0, none⟩) → f3_L6 (some ⟨rb, 0, none⟩) d4 o5 op.kd op.node op.nm op.to op.off op.n op.dp op.dn op.dc op.pp op.pn op.pc (k : Int) (some ⟨dvb, 0, none⟩) (some ⟨sb, 0, none⟩) (shS k : Int) (some ⟨wb, 0, none⟩) .nilIface m dp dn dc np nn nc i1 i2 i3 i4 p18 x70 x70n x70c x71 x72 H2 R :=
      fun p18 h18 => f3_L6_ht A hcl hE (by omega) hstep hno.1 hno.2 hop2 hw2 h18
    refine (f21_ht G2 N2.st N2.pw I'.mT (nm := op.nm)).mono fun v G ⟨he, hv⟩ => ?_
    subst he
    rcases hv with ⟨hd, hv⟩ | ⟨hd, ⟨hnf, hv⟩ | ⟨b, un, hf, hv, _⟩⟩
    · obtain ⟨hI, hnil⟩ := isI_E G2 0 (by decide) (by decide)
      refine ⟨_, _, _, _, _, hv, fun _ => ⟨_, binIs_if_eql hI Tryz.underlying48, (fun h => by rw [hnil] at h; cases h), fun _ => go none fun b y hup => by rw [hd] at hup; cases hup⟩⟩
    · have hfe : ∃ j, j < 9 ∧ j ≠ 5 ∧ fe E op.nm = E j := by
        unfold fe
        split
        · exact ⟨8, by decide, by decide, rfl⟩
        · exact ⟨4, by decide, by decide, rfl⟩
      obtain ⟨j, hj, h5, hje⟩ := hfe
      obtain ⟨hI, hnil⟩ := isI_E G2 j hj h5
      rw [← hje] at hI hnil
      refine ⟨_, _, _, _, _, hv, fun _ => ⟨_, binIs_if_eql hI Tryz.underlying48, (fun h => by rw [hnil] at h; cases h), fun _ => go none fun b y _ hf => by rw [hnf] at hf; cases hf⟩⟩
    · refine ⟨_, _, _, _, _, hv, fun _ => ⟨_, binIs_if_eql (.inl rfl) Tryz.underlying48, fun _ => ⟨by omega, by omega, _, A.ocell eK, ?_⟩, (fun h => by cases h)⟩⟩
      obtain ⟨es, ck, hm, hlk⟩ := A.B.look (n'.s.O b).id
      refine ⟨mb k, es, ck, rfl, hm, _, hlk, go _ fun b' y _ hf' hy => ?_⟩
      rw [hf] at hf'
      cases hf'
      rw [hy]
      rfl

/-- The script's loop. -/
theorem f3_L4_ht (hn : ops.length ≤ 65536) (hsm : ∀ j (hj : j < ops.length), ops[j].dn ≤ 65536 ∧ ops[j].pn ≤ 65536) :
    ∀ (d i : Nat) (H : Heap) (g : Gh) (cn : Nat) (nd : Nat → NdV) (hl : Nat → Nat → List Sv) (B : Nat → Int → Option Bk), ops.length - i = d → i ≤ ops.length → Ev Ro H0 g0 H g → F3 E sp sn ops rb d4 o5 p mb H g (80 * i) (4 * i) (2 * i + 1) cn nd hl B →
      f3_L4 (some ⟨rb, 0, none⟩) d4 o5 sp sn sc (sn : Int) (i : Int) H fun v H' => v = .bool true ∧ ∃ g', Ev Ro H0 g0 H' g' := by
  intro d
  induction d with
  | zero =>
    intro i H g cn nd hl B hd hi e0 F
    have hlen := F.scr.len
    apply f3_L4_of
    exact ⟨fun hx => by have := of_decide_eq_true hx; omega, fun _ => ⟨rfl, g, e0⟩⟩
  | succ d ih =>
    intro i H g cn nd hl B hd hi e0 F
    have hlen := F.scr.len
    have hil : i < ops.length := by omega
    obtain ⟨b, o, hp, htb, hc⟩ := F.scr.cells i hil
    have hop := (F.scr.ok i hil).ok (hsm i hil).1 (hsm i hil).2
    have hnext : ∀ (H' : Heap) (g' : Gh) (cn' : Nat) (nd' : Nat → NdV) (hl' : Nat → Nat → List Sv) (B' : Nat → Int → Option Bk), Ev Ro H g H' g' → F3 E sp sn ops rb d4 o5 p mb H' g' (80 * i + 80) (4 * i + 4) (2 * i + 1 + 2) cn' nd' hl' B' → f3_L13 (some ⟨rb, 0, none⟩) d4 o5 sp sn sc (sn : Int) (i : Int) H' fun v H' => v = .bool true ∧ ∃ g', Ev Ro H0 g0 H' g' := by
      intro H' g' cn' nd' hl' B' e1 F1
      apply f3_L13_of
      unfold f3_L13_pre
      rw [wrapS (by omega)]
      refine ih (i + 1) H' g' cn' nd' hl' B' (by omega) (by omega) (e0.trans e1) ?_
      have h1 : 80 * (i + 1) = 80 * i + 80 := by omega
      have h2 : 4 * (i + 1) = 4 * i + 4 := by omega
      have h3 : 2 * (i + 1) + 1 = 2 * i + 1 + 2 := by omega
      rw [h1, h2, h3]
      exact F1
    apply f3_L4_of
    refine ⟨fun _ => ?_, fun hx => by have := of_decide_eq_false hx; omega⟩
    refine ⟨b, o, hp, by omega, by omega, ops[i].kd, ops[i].node, ops[i].nm, ops[i].to, ops[i].off, ops[i].n, ops[i].dp, ops[i].dn, ops[i].dc, ops[i].pp, ops[i].pn, ops[i].pc, by simpa [OpV.cs] using hc, fun _ => ⟨fun h15 => ?_, fun h15 => ?_⟩⟩
    · have h15 : ops[i].kd = 15 := by simpa using h15
      exact f3_L5_ht F ⟨fun _ => .inl h15, fun _ => rfl⟩ hop (by omega) (by omega) (by omega) (by omega) hnext
    · have h15 : ops[i].kd ≠ 15 := by simpa using h15
      refine f3_L5_ht F ⟨fun hx => .inr (by simpa using hx), fun hx => ?_⟩ hop (by omega) (by omega) (by omega) (by omega) hnext
      rcases hx with hx | hx
      · exact absurd hx h15
      · simpa using hx

end

end Go.Proofs.Qxb6500695aGreatFmt
