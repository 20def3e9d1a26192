/-
  A CRASH WITH A WITNESS; PLAY WITH A WITNESS.
-/
import Derived.Test.Qxb6500695aGreatFmtQd
import Derived.Test.Qxb6500695aGreatFmtNf
namespace Go.Proofs.Qxb6500695aGreatFmt
open Go Go.Eng Go.Proofs
set_option maxRecDepth 100000
set_option linter.unusedVariables false
set_option linter.unusedSimpArgs false
set_option linter.unusedSectionVars false

section
variable {S : Nat × Int → Prop} {H H' : Heap} {g g' : Gh} {k : Int} {nb pwb dvb sb ss ns cap bd : Nat} {n : NdV} {E : Nat → Value}

theorem f40w_ht {N wb : Nat} (hk : 0 ≤ k ∧ k < 3) (hg : GOk H g) (h : NdR H g k nb pwb dvb sb ss ns cap bd n) (hI : StI ss cap N n.s) (hbd : bd < 2 ^ 31) (hw : WtR wb [] H g) :
    HT Tryz.prog 40 [.pointer (some ⟨nb, 0, none⟩), .iface 45 (.pointer (some ⟨wb, 0, none⟩))] H fun v H' => ∃ (n' : NdV) (g' : Gh) (tr : List Ask) (a b c : Int), v = .agg #[.int .i64 a, .int .i64 b, .int .i64 c] ∧ Ev (SpK k) H g H' g' ∧ NdR H' g' k nb pwb dvb sb ss ns cap bd n' ∧ ndCrash ss ns cap n tr n' ∧ WtR wb tr H' g' := by
  have hl' := hI.len
  have hpos : ∀ b ∈ n.s.T, 0 ≤ (n.s.O b).id := fun b hb => by have := (hI.idp b hb).1; omega
  apply f40w_of
  intro _ tb H1 ha
  obtain ⟨e1, t1⟩ := Ev.al (S := fun _ => False) hg ha (30, 0)
  have N1 := h.off e1 none_offN
  have hP : Picker tb (PkW tb wb) := pkw_picker
  have pk1 : PkW tb wb [] H1 _ := ⟨t1, ⟨0, 0, 0, ha.same⟩, hw.ev e1 (fun _ _ h => h) (fun h => h)⟩
  obtain ⟨nm, a, b, c, nb1⟩ := N1.nd.2
  refine ⟨nb, 0, rfl, _, Cells.of nb1 rfl, ?_⟩
  refine (f95_ht e1.ok N1.pw).mono fun v H2 ⟨hv2, e2, p2⟩ => ⟨hv2, ?_⟩
  have e2W : OffD (SpW k) := SpW.offD
  have d2 := N1.dv.off e2 SpW.offD
  have s2 := N1.st.off e2 SpW.off
  have nd2 := N1.nd.ev e2 (fun hc => by cases hc)
  have pk2 := hP.ev _ _ _ _ _ _ pk1 e2 (fun tg ht hs => by rw [hs] at ht; have := ht.1; simp at this) SpW.zero
  obtain ⟨nm2, a2, b2, c2, nb2⟩ := nd2.2
  refine ⟨nb, 0, rfl, _, Cells.of nb2 rfl, ?_⟩
  refine (f96_ht hP (by decide) e2.ok d2 hbd pk2).mono fun v H3 ⟨D', g3, trD, hv3, e3, d3, hdc, pk3⟩ => ⟨hv3, ?_⟩
  have hS3 : ∀ tg, (SpV k tg ∧ tg.1 ≠ 26 ∨ Spk tg) → SpV k tg ∨ (30 ≤ tg.1 ∧ tg.1 ≤ 42) := fun tg ht => ht.elim (fun h => .inl h.1) fun h => .inr ⟨h.1, by have := h.2; omega⟩
  have s3 := s2.dev hk.1 hpos e3 hS3
  have n28 : ¬ (SpV k (28, k) ∧ (28 : Nat) ≠ 26 ∨ Spk (28, k)) := fun hc => by
    rcases hc with ⟨hc | hc | hc, _⟩ | hc
    · simp at hc
    · have := hc.rng.2; simp at this
    · simp at hc
    · have := hc.1; simp at this
  have nd3 := nd2.ev e3 n28
  have p3 := p2.ev e3 (fun hc => by
    rcases hc with ⟨_, hc⟩ | hc
    · exact hc rfl
    · have := hc.1; simp at this)
  obtain ⟨nm3, a3, b3, c3, nb3⟩ := nd3.2
  refine ⟨nb, 0, rfl, _, Cells.of nb3 rfl, ?_⟩
  have hns : ns ≤ 12 := by obtain ⟨_, _, _, hpl⟩ := d2.ex; exact hpl.nsb
  refine (f97_ht hP (by rw [List.nil_append]; have := hdc.len; omega) e3.ok s3 (hI.toN hbd) (by omega) (fun i x b hx => hI.heldT b (hI.back i x b hx)) (fun i x hx => hI.names i x hx) hI.namesB pk3).mono fun v H4 ⟨s', g4, trS, hv4, e4, s4, hsc, pk4⟩ => ⟨hv4, ?_⟩
  have e4N : Ev (SpN k) H3 g3 H4 g4 := e4.mono fun tg h => h.le
  have d4 := d3.store hk.1 e4N
  have nd4 := nd3.ev e4N (fun hc => by
    rcases hc with hc | hc | hc
    · have := hc.2.1; simp at this
    · have := hc.1; simp at this
    · have := hc.1; simp at this)
  have p4 := p3.in e4
  obtain ⟨nm4, a4, b4, c4, nb4⟩ := nd4.2
  refine ⟨nb, 0, rfl, _, Cells.of nb4 rfl, ?_⟩
  refine (f98_ht e4.ok p4).mono fun v H5 ⟨hv5, e5, p5⟩ => ⟨hv5, ?_⟩
  have d5 := d4.off e5 SpW.offD
  have s5 := s4.off e5 SpW.off
  have nd5 := nd4.ev e5 (fun hc => by cases hc)
  have pk5 := hP.ev _ _ _ _ _ _ pk4 e5 (fun tg ht hs => by rw [hs] at ht; have := ht.1; simp at this) SpW.zero
  obtain ⟨_, ⟨x1, x2, x3, ht5⟩, w5⟩ := pk5
  have eW : ∀ {G G' : Heap} {q q' : Gh}, Ev (SpW k) G q G' q' → Ev (SpK k) G q G' q' := fun e => e.mono fun tg h => .inl (SpN.pw h)
  refine ⟨x1, x2, x3, Cells.of ht5 rfl, ⟨⟨false, false, 0⟩, D', s'⟩, g4, trD ++ trS, x1, x2, x3, rfl, ((((e1.mono fun tg h => h.elim).trans (eW e2)).trans (e3.mono fun tg h => ?_)).trans (e4N.mono fun tg h => .inl h)).trans (eW e5), ⟨nd5, p5, d5, s5⟩, ⟨rfl, trD, trS, hdc, hsc, rfl⟩, by simpa using w5⟩
  rcases h with h | h
  · exact .inr h.1
  · exact .inl (SpN.pick h)


/-- What play leaves where a witness answers. -/
def playW (E : Nat → Value) (H0 : Heap) (g0 : Gh) (rb bd wb : Nat) (nd : Nat → NdV) (op : OpV) (v : Value) (H' : Heap) : Prop :=
  ∃ (e : Value) (m : Int) (dp : Option Addr) (dn dc : Nat) (np : Option Addr) (nn nc : Nat) (i1 i2 i3 i4 : Int) (n' : NdV) (tr : List Ask) (g' : Gh), v = ansV e m dp dn dc np nn nc i1 i2 i3 i4 ∧ errV E e ∧ Ev (SpK (nodeOf op.node : Int)) H0 g0 H' g' ∧
    RkR H' g' rb (bd + 80) (ndset nd (nodeOf op.node) n') ∧ StepR E (shS (nodeOf op.node)) (shN (nodeOf op.node)) (shC (nodeOf op.node)) op (nd (nodeOf op.node)) e m n' tr ∧ (op.kd = 18 → WtR wb tr H' g')

theorem f20w_ht {rb M wb : Nat} {nd : Nat → NdV} {op : OpV} (hg : GOk H g) (hG : Gl H g E) (h : RkR H g rb bd nd) (hI : RkI M nd) (hM : M + 4 < 2 ^ 28) (hbd : bd + 160 < 2 ^ 31) (hop : OpOk H g op) (hw : WtR wb [] H g) :
    HT Tryz.prog 20 [.pointer (some ⟨rb, 0, none⟩), .agg #[.int .u8 op.kd, .int .i64 op.node, .string op.nm, .string op.to, .int .i64 op.off, .int .i64 op.n, .slice op.dp op.dn op.dc, .slice op.pp op.pn op.pc], .iface 45 (.pointer (some ⟨wb, 0, none⟩))] H (playW E H g rb bd wb nd op) := by
  refine f20_gen (fun v H' hne ⟨e, m, dp, dn, dc, np, nn, nc, i1, i2, i3, i4, n', tr, g', h1, h2, h3, h4, h5⟩ => ⟨e, m, dp, dn, dc, np, nn, nc, i1, i2, i3, i4, n', tr, g', h1, h2, h3, h4, h5, fun hc => absurd hc hne⟩) hg hG h hI hM hbd hop fun hkd nb hnb => ?_
  have hk3 := nodeOf_lt op.node
  refine ⟨_, binIs_if_eql (.inr ⟨_, _, rfl⟩) Tryz.underlying140, (fun h => by cases h), fun _ => ?_⟩
  have hnbO := hnb
  obtain ⟨nbk, hrb, hnk, hnds⟩ := hnb
  obtain ⟨pwb, dvb, sb, hN⟩ := hnds _ hk3
  rw [hnk] at hN
  apply f20_L2_of
  refine (f40w_ht ⟨by omega, by omega⟩ hg hN (hI _ hk3) (by omega) hw).mono fun v H2 ⟨n', g2, tr, a, b, c, hv2, e2, n2, hc, w2⟩ => ⟨a, b, c, hv2, ?_⟩
  exact ⟨.nilIface, a, none, 0, 0, none, 0, 0, 0, 0, 0, 0, n', tr, g2, rfl, .inl rfl, e2, h.upd hI hk3 hnbO e2 ⟨pwb, dvb, sb, n2.mono (by omega)⟩ (by omega), .crash hkd hc, fun _ => w2⟩

end

end Go.Proofs.Qxb6500695aGreatFmt
