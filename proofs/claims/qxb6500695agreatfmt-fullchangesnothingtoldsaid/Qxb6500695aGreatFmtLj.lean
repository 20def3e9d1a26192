/-
  FULL CHANGES NOTHING, PART J: a write to the device, with the errors.
-/
import Derived.Test.Qxb6500695aGreatFmtNf
namespace Go.Proofs.Qxb6500695aGreatFmt
open Go Go.Eng Go.Proofs
set_option maxRecDepth 100000
set_option linter.unusedVariables false
set_option linter.unusedSimpArgs false
set_option linter.unusedSectionVars false

/-- A write to the device: the error, exactly. -/
def dxR (ss ns : Nat) (E : Nat → Value) (P : Pw) (D : Pl) (off : Int) (len : Nat) (e : Value) (D' : Pl) : Prop :=
  (P.spend.2 = false ∧ e = E 0 ∧ D' = D) ∨ (P.spend.2 = true ∧ ((off < 0 ∧ e = E 3 ∧ D' = D) ∨ (0 ≤ off ∧ off > ((ns * ss : Nat) : Int) - (len : Int) ∧ e = E 1 ∧ D' = D) ∨ (0 ≤ off ∧ ¬ off > ((ns * ss : Nat) : Int) - (len : Int) ∧ e = .nilIface)))

section
variable {S : Nat × Int → Prop} {H H' : Heap} {g g' : Gh} {k : Int} {dvb ss ns bd pwb : Nat} {D : Pl} {E : Nat → Value} {P : Pw}

theorem dxR.err {off : Int} {len : Nat} {e : Value} {D' : Pl} (h : dxR ss ns E P D off len e D') : errV E e := by
  rcases h with ⟨_, h, _⟩ | ⟨_, ⟨_, h, _⟩ | ⟨_, _, h, _⟩ | ⟨_, _, h⟩⟩
  · exact .inr ⟨0, by decide, by decide, h⟩
  · exact .inr ⟨3, by decide, by decide, h⟩
  · exact .inr ⟨1, by decide, by decide, h⟩
  · exact .inl h

theorem f60x_ht (hg : GOk H g) (hG : Gl H g E) (h : DvR H g k dvb ss ns bd pwb D) (hp : PwR H g k pwb P) (hbd : bd + 16 < 2 ^ 31) {n c j : Nat} {p : Option Addr} {src : List Int} (hsrc : Src H p n c src) (ht : ∀ a, p = some a → 0 < n → g a.block = some (0, 0)) (hn : n = ss) {off : Int} (hoff : off = ((j * ss : Nat) : Int)) :
    HT Tryz.prog 60 [.pointer (some ⟨dvb, 0, none⟩), .int .i64 (j : Int), .slice p n c] H (devPost H g k dvb ss ns (bd + 16) pwb P.spend.1 (dxR ss ns E P D off src.length)) := by
  have hlen := hsrc.len
  apply f60_of
  refine dspendK hg hG h hp (fun hsp H1 e1 r1 p1 => ⟨D, g, e1.mono fun tg h => .inr (.inr h), r1.mono (by omega), p1, .inl ⟨hsp, rfl, rfl⟩⟩) fun hsp H1 e1 r1 p1 G1 => ?_
  have E1 : Ev (SpV k) H g H1 g := e1.mono fun tg h => .inr (.inr h)
  obtain ⟨plb, q, k1, pl1⟩ := r1.ex
  have hnb := pl1.nsb
  have hsb := pl1.ssb
  refine ⟨dvb, 0, rfl, _, Cells.of k1 rfl, fun hne => ?_, fun heq => ⟨fun hneg => ?_, fun hneg => ⟨dvb, 0, rfl, _, Cells.of k1 rfl, fun hbig => ?_, fun hbig => ?_⟩⟩⟩
  · rw [hn] at hne; simp at hne
  · have := of_decide_eq_true hneg; omega
  · have hbig := of_decide_eq_true hbig
    obtain ⟨t, x, he, hc⟩ := G1.get 1 (by decide) (by decide)
    have hjs : ns * ss ≤ j * ss := Nat.mul_le_mul_right _ (by omega)
    exact ⟨t, x, hc, D, g, E1, r1.mono (by omega), p1, .inr ⟨hsp, .inr (.inl ⟨by omega, by omega, he.symm, rfl⟩)⟩⟩
  have hbig := of_decide_eq_false hbig
  have hj : j < ns := by omega
  have hjs : (j + 1) * ss ≤ ns * ss := Nat.mul_le_mul_right _ hj
  rw [Nat.add_mul, Nat.one_mul] at hjs
  have hm : ns * ss ≤ 12 * 16 := Nat.mul_le_mul hnb hsb.2
  have hw : IntKind.wrap .i64 ((j : Int) * (ss : Int)) = ((j * ss : Nat) : Int) := by
    have : (j : Int) * (ss : Int) = ((j * ss : Nat) : Int) := by simp
    rw [this, wrapI] <;> omega
  refine ⟨dvb, 0, rfl, _, Cells.of k1 rfl, dvb, 0, rfl, _, Cells.of k1 rfl, ?_⟩
  rw [hw]
  refine (f118_ht e1.ok pl1 (by omega) (hsrc.ev ht e1 SpW.zero) ht (off := j * ss) (by omega)).mono fun v H2 ⟨g2, mm, hv2, e2, p2⟩ => ⟨_, hv2, ?_⟩
  have k2 := e2.get r1.tag n27P k1
  have r2 : DvR H2 g2 k dvb ss ns (bd + ns + 1) pwb _ := r1.plane k1 e2 n27P p2
  refine ⟨Cells.of k2 rfl, ?_⟩
  refine (f117_ht e2.ok r2 mm).mono fun v H3 ⟨hv3, e3, r3⟩ => ⟨hv3, ?_⟩
  obtain ⟨plb3, q3, k3, _⟩ := r3.ex
  have pw2 : PwR H2 g2 k pwb P.spend.1 := p1.off e2 fun tg hc => by have := hc.rng.2; omega
  refine ⟨Cells.of k3 rfl, _, g2, (E1.trans (e2.mono fun tg h => .inr (.inl h))).trans (e3.mono fun tg h => .inl h), r3.mono (by omega), pw2.off e3 (fun tg hc => by rw [hc]; simp), .inr ⟨hsp, .inr (.inr ⟨by omega, by omega, rfl⟩)⟩⟩

theorem f61x_ht (hg : GOk H g) (hG : Gl H g E) (h : DvR H g k dvb ss ns bd pwb D) (hp : PwR H g k pwb P) (hbd : bd + 16 < 2 ^ 31) {n c : Nat} {p : Option Addr} {src : List Int} (hsrc : Src H p n c src) (ht : ∀ a, p = some a → 0 < n → g a.block = some (0, 0)) (hn : n < 2 ^ 32) {off : Int} (hoff : off < 2 ^ 63) :
    HT Tryz.prog 61 [.pointer (some ⟨dvb, 0, none⟩), .slice p n c, .int .i64 off] H (devPost H g k dvb ss ns (bd + 16) pwb P.spend.1 fun v D' => ∃ (m : Int) (e : Value), v = .tuple #[.int .i64 m, e] ∧ dxR ss ns E P D off src.length e D') := by
  have hlen := hsrc.len
  apply f61_of
  refine dspendK hg hG h hp (fun hsp H1 e1 r1 p1 => ⟨D, g, e1.mono fun tg h => .inr (.inr h), r1.mono (by omega), p1, _, _, rfl, .inl ⟨hsp, rfl, rfl⟩⟩) fun hsp H1 e1 r1 p1 G1 => ?_
  have E1 : Ev (SpV k) H g H1 g := e1.mono fun tg h => .inr (.inr h)
  obtain ⟨plb, q, k1, pl1⟩ := r1.ex
  have hnb := pl1.nsb
  have hsb := pl1.ssb
  have hm : ns * ss ≤ 12 * 16 := Nat.mul_le_mul hnb hsb.2
  refine ⟨fun hneg => ?_, fun hneg => ?_⟩
  · have hneg := of_decide_eq_true hneg
    obtain ⟨t, x, he, hc⟩ := G1.get 3 (by decide) (by decide)
    exact ⟨t, x, hc, D, g, E1, r1.mono (by omega), p1, _, _, rfl, .inr ⟨hsp, .inl ⟨hneg, he.symm, rfl⟩⟩⟩
  have hneg := of_decide_eq_false hneg
  refine (f100_ht r1).mono fun v H2 ⟨he, hv⟩ => ⟨_, hv, ?_⟩
  subst he
  have hw1 : IntKind.wrap .i64 (((ns * ss : Nat) : Int) - (n : Int)) = ((ns * ss : Nat) : Int) - (n : Int) := by rw [wrapI] <;> omega
  rw [hw1]
  refine ⟨fun hbig => ?_, fun hbig => ?_⟩
  · have hbig := of_decide_eq_true hbig
    obtain ⟨t, x, he, hc⟩ := G1.get 1 (by decide) (by decide)
    exact ⟨t, x, hc, D, g, E1, r1.mono (by omega), p1, _, _, rfl, .inr ⟨hsp, .inr (.inl ⟨by omega, by rw [← hlen]; exact hbig, he.symm, rfl⟩)⟩⟩
  have hbig := of_decide_eq_false hbig
  obtain ⟨o, rfl⟩ : ∃ o : Nat, off = (o : Int) := ⟨off.toNat, by omega⟩
  refine ⟨dvb, 0, rfl, _, Cells.of k1 rfl, ?_⟩
  refine (f118_ht e1.ok pl1 (by omega) (hsrc.ev ht e1 SpW.zero) ht (off := o) (by omega)).mono fun v H3 ⟨g3, mm, hv3, e3, p3⟩ => ⟨_, hv3, ?_⟩
  have r3 : DvR H3 g3 k dvb ss ns (bd + ns + 1) pwb _ := r1.plane k1 e3 n27P p3
  refine (f117_ht e3.ok r3 mm).mono fun v H4 ⟨hv4, e4, r4⟩ => ⟨hv4, ?_⟩
  have pw3 : PwR H3 g3 k pwb P.spend.1 := p1.off e3 fun tg hc => by have := hc.rng.2; omega
  exact ⟨_, g3, (E1.trans (e3.mono fun tg h => .inr (.inl h))).trans (e4.mono fun tg h => .inl h), r4.mono (by omega), pw3.off e4 (fun tg hc => by rw [hc]; simp), _, _, rfl, .inr ⟨hsp, .inr (.inr ⟨by omega, by rw [← hlen]; exact hbig, rfl⟩)⟩⟩

end

/-- What a write to the device leaves of the rack. -/
def playDk (E : Nat → Value) (H0 : Heap) (g0 : Gh) (rb bd : Nat) (nd : Nat → NdV) (op : OpV) (k : Nat) (v : Value) (H' : Heap) : Prop :=
  ∃ g', Ev (SpK (k : Int)) H0 g0 H' g' ∧ ∃ (e : Value) (m : Int) (dp : Option Addr) (dn dc : Nat) (np : Option Addr) (nn nc : Nat) (i1 i2 i3 i4 : Int) (D' : Pl), v = ansV e m dp dn dc np nn nc i1 i2 i3 i4 ∧ errV E e ∧
    RkR H' g' rb (bd + 80) (ndset nd k ⟨(nd k).pw.spend.1, D', (nd k).s⟩) ∧ dxR (shS k) (shN k) E (nd k).pw (nd k).D op.off op.data.length e D'

section
variable {H : Heap} {g : Gh} {rb bd M : Nat} {nd : Nat → NdV} {E : Nat → Value} {op : OpV}

theorem f20d_ht {pick : Value} (hkd : op.kd = 0) (hg : GOk H g) (hG : Gl H g E) (h : RkR H g rb bd nd) (hI : RkI M nd) (hbd : bd + 160 < 2 ^ 31) (hop : OpOk H g op) :
    HT Tryz.prog 20 [.pointer (some ⟨rb, 0, none⟩), .agg #[.int .u8 op.kd, .int .i64 op.node, .string op.nm, .string op.to, .int .i64 op.off, .int .i64 op.n, .slice op.dp op.dn op.dc, .slice op.pp op.pn op.pc], pick] H (playDk E H g rb bd nd op (nodeOf op.node)) := by
  have hk3 := nodeOf_lt op.node
  have hdb := hop.db
  have hro := hop.offb
  apply f20_of
  intro _ _
  refine (f16_ht op.node).mono fun v H1 ⟨he, hv⟩ => ⟨_, hv, ?_⟩
  subst he
  obtain ⟨k, hkk⟩ : ∃ k, k = nodeOf op.node := ⟨_, rfl⟩
  rw [← hkk] at hk3 ⊢
  refine (f12_ht h hk3).mono fun v H1 ⟨he, nb, hv, hnb⟩ => ⟨_, hv, ?_⟩
  subst he
  have hnbO := hnb
  obtain ⟨nbk, hrb, hnk, hnds⟩ := hnb
  obtain ⟨pwb, dvb, sb, hN⟩ := hnds k hk3
  rw [hnk] at hN
  have hIk := hI k hk3
  have hlk := hIk.len
  have hpos := hIk.pos
  have hk0 : (0 : Int) ≤ (k : Int) := by omega
  refine (f13_ht hN.nd).mono fun v H2 ⟨he, hv⟩ => ⟨_, hv, ?_⟩
  subst he
  refine (f17_ht hN.nd).mono fun v H3 ⟨he, hv⟩ => ⟨_, hv, ?_⟩
  subst he
  refine ⟨fun h0 => ?_, fun h0 => by rw [hkd] at h0; simp at h0⟩
  obtain ⟨plb, q, kd1, pl1⟩ := hN.dv.ex
  have hss := pl1.ssb
  have h15 : HT Tryz.prog 15 [.pointer (some ⟨dvb, 0, none⟩)] H3 fun v H' => H' = H3 ∧ v = .int .i64 (shS k : Int) := by
    apply f15_of
    exact ⟨dvb, 0, rfl, _, Cells.of kd1 rfl, rfl, rfl⟩
  refine h15.mono fun v H4 ⟨he4, hv4⟩ => ⟨_, hv4, ?_⟩
  subst he4
  have fin : ∀ {H' : Heap} {g' : Gh} {e : Value} {m : Int} {dp : Option Addr} {dn dc : Nat} {np : Option Addr} {nn nc : Nat} {i1 i2 i3 i4 : Int} {D' : Pl}, (Ev (SpK (k : Int)) H4 g H' g' ∧ NdR H' g' (k : Int) nb pwb dvb sb (shS k) (shN k) (shC k) (bd + 16) ⟨(nd k).pw.spend.1, D', (nd k).s⟩) → dxR (shS k) (shN k) E (nd k).pw (nd k).D op.off op.data.length e D' →
      playDk E H4 g rb bd nd op k (ansV e m dp dn dc np nn nc i1 i2 i3 i4) H' := by
    intro H' g' e m dp dn dc np nn nc i1 i2 i3 i4 D' ⟨hev, hn⟩ hR
    exact ⟨g', hev, e, m, dp, dn, dc, np, nn, nc, i1, i2, i3, i4, D', rfl, hR.err, h.upd hI hk3 hnbO hev ⟨pwb, dvb, sb, hn.mono (by omega)⟩ (by omega), hR⟩
  have slow : f20_L1 op.kd op.node op.nm op.to op.off op.n op.dp op.dn op.dc op.pp op.pn op.pc (.nilIface) 0 none 0 0 none 0 0 0 0 0 0 (some ⟨dvb, 0, none⟩) (shS k : Int) false H4 (playDk E H4 g rb bd nd op k) := by
    apply f20_L1_of
    refine ⟨(fun h => by cases h), fun _ => ?_⟩
    refine (f61x_ht hg hG hN.dv hN.pw (by omega) hop.data hop.dtag (by omega) (off := op.off) hro.1).mono fun v H5 ⟨D', g5, e5, r5, p5, m, e, hv5, hR⟩ => ?_
    subst hv5
    exact ⟨m, e, rfl, bld2 (R := fun v => playDk E H4 g rb bd nd op k v H5) (hR.err.isI hG) (fin (hN.dvCall hk0 hpos e5 r5 p5 (by omega)) hR)⟩
  refine ⟨fun heq => ⟨fun hge => ?_, fun _ => slow⟩, fun _ => slow⟩
  have heq := beq_iff_eq.1 heq
  have hge := of_decide_eq_true hge
  have hne : (shS k : Int) ≠ 0 := by omega
  refine ⟨_, binIs_rem (P := Tryz.prog) (t := 2) (x := .tmp 55) (y := .tmp 56) hne, ?_⟩
  cases hz : (Int.tmod op.off (shS k : Int) == 0) with
  | false => exact slow
  | true =>
    apply f20_L1_of
    refine ⟨fun _ => ?_, (fun h => by cases h)⟩
    refine ⟨_, binIs_quo (P := Tryz.prog) (t := 2) (x := .tmp 62) (y := .tmp 63) hne, ?_⟩
    have h2 : Int.tmod op.off (shS k : Int) = 0 := by simpa using hz
    have h3 : Int.tdiv op.off (shS k : Int) ≤ op.off := Int.tdiv_le_self _ hge
    have h4 : 0 ≤ Int.tdiv op.off (shS k : Int) := Int.tdiv_nonneg hge (by omega)
    have hw : IntKind.wrap .i64 (Int.tdiv op.off (shS k : Int)) = (((Int.tdiv op.off (shS k : Int)).toNat : Nat) : Int) := by
      rw [wrapI (by omega) (by have := hro.1; omega)]
      omega
    have hoff : op.off = (((Int.tdiv op.off (shS k : Int)).toNat * shS k : Nat) : Int) := by
      have h1 := Int.mul_tdiv_add_tmod op.off (shS k : Int)
      rw [Int.natCast_mul, Int.toNat_of_nonneg h4, Int.mul_comm]
      omega
    rw [hw]
    refine (f60x_ht hg hG hN.dv hN.pw (by omega) hop.data hop.dtag (by omega) hoff).mono fun v H5 ⟨D', g5, e5, r5, p5, hR⟩ => ⟨_, rfl, ?_⟩
    have G5 := hG.ev e5 SpV.zero
    refine errK G5 hR.err (fun hne => bld1 (R := fun v => playDk E H4 g rb bd nd op k v H5) (hR.err.isI hG) (fin (hN.dvCall hk0 hpos e5 r5 p5 (by omega)) hR)) fun hnil => ?_
    exact fin (hN.dvCall hk0 hpos e5 r5 p5 (by omega)) (by rw [hnil] at hR; exact hR)

end

end Go.Proofs.Qxb6500695aGreatFmt
