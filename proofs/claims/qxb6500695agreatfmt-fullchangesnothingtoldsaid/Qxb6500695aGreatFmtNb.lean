/-
  THE DEVICE.
-/
import Derived.Test.Qxb6500695aGreatFmtSn
namespace Go.Proofs.Qxb6500695aGreatFmt
open Go Go.Eng Go.Proofs
set_option maxRecDepth 100000
set_option linter.unusedVariables false
set_option linter.unusedSimpArgs false
set_option linter.unusedSectionVars false

structure Q6 where
  a : Int
  b : Int
  c : Int
  d : Int
  e : Int
  f : Int

abbrev dvB (ss ns plb pwb : Nat) (q : Q6) : Obj :=
  .cells #[.int .i64 (ss : Int), .int .i64 (ns : Int), .pointer (some ⟨plb, 0, none⟩), .pointer (some ⟨pwb, 0, none⟩), .int .u64 q.a, .int .u64 q.b, .int .u64 q.c, .int .u64 q.d, .int .u64 q.e, .int .u64 q.f] 133 (0, 0)

/-- The owner of a device's plane. -/
def eD (k : Int) : Int := -(k + 1)

/-- A device as it lies. -/
structure DvR (H : Heap) (g : Gh) (k : Int) (dvb ss ns bd pwb : Nat) (D : Pl) : Prop where
  tag : g dvb = some (27, k)
  ex : ∃ plb q, H dvb = some (dvB ss ns plb pwb q) ∧ PlOk H g (eD k) plb ss ns bd D

/-- What a device's calls may turn. -/
def SpV (k : Int) (tg : Nat × Int) : Prop := tg = (27, k) ∨ SpP (eD k) tg ∨ tg = (26, k)

section
variable {S : Nat × Int → Prop} {H H' : Heap} {g g' : Gh} {k : Int} {dvb ss ns bd pwb : Nat} {D : Pl} {E : Nat → Value} {P : Pw}

theorem SpV.zero : ¬ SpV k (0, 0) := fun h => by
  rcases h with h | h | h
  · simp at h
  · exact SpP.zero h
  · simp at h

theorem SpP.rng {e : Int} {tg : Nat × Int} (h : SpP e tg) : tg.2 = e ∧ (tg.1 = 12 ∨ tg.1 = 13 ∨ tg.1 = 14 ∨ tg.1 = 18 ∨ 100 ≤ tg.1) := h

theorem DvR.ev (h : DvR H g k dvb ss ns bd pwb D) (ev : Ev S H g H' g') (h0 : ¬ S (0, 0)) (h27 : ¬ S (27, k)) (hp : ∀ tg, SpP (eD k) tg → ¬ S tg) : DvR H' g' k dvb ss ns bd pwb D := by
  obtain ⟨plb, q, h1, h2⟩ := h.ex
  exact ⟨ev.tag _ _ h.tag, plb, q, ev.get h.tag h27 h1, h2.ev ev h0 hp⟩

theorem DvR.mono {bd' : Nat} (h : DvR H g k dvb ss ns bd pwb D) (hb : bd ≤ bd') : DvR H g k dvb ss ns bd' pwb D := by
  obtain ⟨plb, q, h1, h2⟩ := h.ex
  exact ⟨h.tag, plb, q, h1, h2.mono hb⟩

/-- What turns no block of a device. -/
def OffD (S : Nat × Int → Prop) : Prop := ∀ tg, S tg → ¬ (tg.1 = 0 ∨ tg.1 = 12 ∨ tg.1 = 13 ∨ tg.1 = 14 ∨ tg.1 = 18 ∨ tg.1 = 27 ∨ 100 ≤ tg.1)

theorem DvR.off (h : DvR H g k dvb ss ns bd pwb D) (ev : Ev S H g H' g') (hS : OffD S) : DvR H' g' k dvb ss ns bd pwb D :=
  h.ev ev (fun hc => hS _ hc (by simp)) (fun hc => hS _ hc (by simp)) fun tg ht hc => hS _ hc (by have := ht.rng.2; omega)

theorem SpW.offD : OffD (SpW k) := fun tg h hc => by rw [h] at hc; simp at hc
theorem none_offD : OffD (fun _ => False) := fun tg h => h.elim

/-- The device's own block turned. -/
theorem DvR.own {plb : Nat} {q' : Q6} {o : Obj} (hg : GOk H g) (h : DvR H g k dvb ss ns bd pwb D) (hpl : PlOk H g (eD k) plb ss ns bd D) (hw : Wr H dvb o H') (ho : o = dvB ss ns plb pwb q') : Ev (fun tg => tg = (27, k)) H g H' g ∧ DvR H' g k dvb ss ns bd pwb D := by
  subst ho
  have e : Ev (fun tg => tg = (27, k)) H g H' g := Ev.wr hg hw fun tg htg => by rw [h.tag] at htg; cases htg; rfl
  exact ⟨e, h.tag, plb, q', hw.same, hpl.ev e (fun hc => by cases hc) fun tg ht hc => by have h1 := ht.rng.2; have hc' : tg = (27, k) := hc; rw [hc'] at h1; simp at h1⟩

/-- The plane turned. -/
theorem DvR.plane {plb bd' : Nat} {q : Q6} {D' : Pl} (h : DvR H g k dvb ss ns bd pwb D) (hb : H dvb = some (dvB ss ns plb pwb q)) (ev : Ev S H g H' g') (hS : ¬ S (27, k)) (hp : PlOk H' g' (eD k) plb ss ns bd' D') : DvR H' g' k dvb ss ns bd' pwb D' :=
  ⟨ev.tag _ _ h.tag, plb, q, ev.get h.tag hS hb, hp⟩

theorem n27P : ¬ SpP (eD k) (27, k) := fun h => by have := h.rng.2; simp at this

def devPost (H0 : Heap) (g0 : Gh) (k : Int) (dvb ss ns bd pwb : Nat) (P' : Pw) (R : Value → Pl → Prop) (v : Value) (H' : Heap) : Prop :=
  ∃ D' g', Ev (SpV k) H0 g0 H' g' ∧ DvR H' g' k dvb ss ns bd pwb D' ∧ PwR H' g' k pwb P' ∧ R v D'

theorem dspendK {tx : Operand} {A : Value → Heap → Prop} {B : Heap → Prop} (hg : GOk H g) (hG : Gl H g E) (h : DvR H g k dvb ss ns bd pwb D) (hp : PwR H g k pwb P)
    (hA : P.spend.2 = false → ∀ H1, Ev (SpW k) H g H1 g → DvR H1 g k dvb ss ns bd pwb D → PwR H1 g k pwb P.spend.1 → A (E 0) H1)
    (hB : P.spend.2 = true → ∀ H1, Ev (SpW k) H g H1 g → DvR H1 g k dvb ss ns bd pwb D → PwR H1 g k pwb P.spend.1 → Gl H1 g E → B H1) :
    ∃ (b o : Nat), some (⟨dvb, 0, none⟩ : Addr) = some ⟨b, o, none⟩ ∧ ∃ (x9 : Option Addr), Cells H b (o + 3) [.pointer x9] ∧ HT Tryz.prog 90 [.pointer x9] H fun v hp1 => ∃ (x10 : Value), v = x10 ∧ ∃ (x12 : Bool), BinIs Tryz.prog .neq 48 tx (.const .nilIface) x10 .nilIface (.bool x12) ∧ (x12 = true → A x10 hp1) ∧ (x12 = false → B hp1) := by
  obtain ⟨plb, q, h1, hd⟩ := h.ex
  refine ⟨dvb, 0, rfl, _, Cells.of h1 rfl, ?_⟩
  refine (f90_ht hg hG hp).mono fun v H1 ⟨hv, e1, p1⟩ => ⟨_, rfl, ?_⟩
  have r1 := h.off e1 SpW.offD
  have hev : errV E v := by
    rw [hv]
    split
    · exact .inl rfl
    · exact .inr ⟨0, by decide, by decide, rfl⟩
  refine errK (hG.ev e1 SpW.zero) hev (fun hne => ?_) fun hnil => ?_
  · cases hs : P.spend.2 with
    | true => rw [hs] at hv; exact absurd hv hne
    | false =>
      rw [hs] at hv
      have hv' : v = E 0 := hv
      rw [hv']
      exact hA hs H1 e1 r1 p1
  · cases hs : P.spend.2 with
    | true => exact hB hs H1 e1 r1 p1 (hG.ev e1 SpW.zero)
    | false =>
      rw [hs] at hv
      have hv' : v = E 0 := hv
      exact absurd (hv'.symm.trans hnil) (E_ne hG (by decide) (by decide))

theorem f100_ht (h : DvR H g k dvb ss ns bd pwb D) : HT Tryz.prog 100 [.pointer (some ⟨dvb, 0, none⟩)] H fun v H' => H' = H ∧ v = .int .i64 ((ns * ss : Nat) : Int) := by
  obtain ⟨plb, q, h1, h2⟩ := h.ex
  have hm : ns * ss ≤ 12 * 16 := Nat.mul_le_mul h2.nsb h2.ssb.2
  apply f100_of
  refine ⟨dvb, 0, rfl, _, Cells.of h1 rfl, dvb, 0, rfl, _, Cells.of h1 rfl, rfl, ?_⟩
  have : (ns : Int) * (ss : Int) = ((ns * ss : Nat) : Int) := by simp
  rw [this, wrapI (by omega) (by omega)]

theorem f117_ht (hg : GOk H g) (h : DvR H g k dvb ss ns bd pwb D) (m : Int) : HT Tryz.prog 117 [.pointer (some ⟨dvb, 0, none⟩), .int .i64 m] H fun v H' => v = .tuple #[] ∧ Ev (fun tg => tg = (27, k)) H g H' g ∧ DvR H' g k dvb ss ns bd pwb D := by
  obtain ⟨plb, q, h1, h2⟩ := h.ex
  apply f117_of
  refine ⟨dvb, 0, rfl, _, Cells.of h1 rfl, dvb, 0, rfl, _, _, h1, by simp, fun H1 hw1 => ?_⟩
  obtain ⟨e1, r1⟩ := h.own (q' := { q with b := IntKind.wrap .u64 (q.b + 1) }) hg h2 hw1 rfl
  have k1 : H1 dvb = some (dvB ss ns plb pwb { q with b := IntKind.wrap .u64 (q.b + 1) }) := hw1.same
  have p1 := h2.ev e1 (fun hc => by cases hc) fun tg ht hc => by have h3 := ht.rng.2; have hc' : tg = (27, k) := hc; rw [hc'] at h3; simp at h3
  refine ⟨dvb, 0, rfl, _, Cells.of k1 rfl, dvb, 0, rfl, _, _, k1, by simp, fun H2 hw2 => ?_⟩
  obtain ⟨e2, r2⟩ := r1.own (q' := { q with b := IntKind.wrap .u64 (q.b + 1), c := IntKind.wrap .u64 (q.c + IntKind.wrap .u64 m) }) e1.ok p1 hw2 rfl
  exact ⟨rfl, e1.trans e2, r2⟩

/-- What WriteSector leaves. -/
def wsecR (ss ns : Nat) (E : Nat → Value) (P : Pw) (D : Pl) (i : Int) (src : List Int) (v : Value) (D' : Pl) : Prop :=
  (errV E v ∧ v ≠ .nilIface ∧ D' = D) ∨ (P.spend.2 = true ∧ v = .nilIface ∧ src.length = ss ∧ ∃ j : Nat, i = (j : Int) ∧ j < ns ∧ D' = wrF ss src.length D (j * ss) src)

theorem f60_ht (hg : GOk H g) (hG : Gl H g E) (h : DvR H g k dvb ss ns bd pwb D) (hp : PwR H g k pwb P) (hbd : bd + 16 < 2 ^ 31) {n c : Nat} {p : Option Addr} {src : List Int} (hsrc : Src H p n c src) (ht : ∀ a, p = some a → 0 < n → g a.block = some (0, 0)) {i : Int} :
    HT Tryz.prog 60 [.pointer (some ⟨dvb, 0, none⟩), .int .i64 i, .slice p n c] H (devPost H g k dvb ss ns (bd + 16) pwb P.spend.1 (wsecR ss ns E P D i src)) := by
  have hlen := hsrc.len
  apply f60_of
  refine dspendK hg hG h hp (fun hsp H1 e1 r1 p1 => ⟨D, g, e1.mono fun tg h => .inr (.inr h), r1.mono (by omega), p1, .inl ⟨.inr ⟨0, by decide, by decide, rfl⟩, E_ne hG (by decide) (by decide), rfl⟩⟩) fun hsp H1 e1 r1 p1 G1 => ?_
  have E1 : Ev (SpV k) H g H1 g := e1.mono fun tg h => .inr (.inr h)
  obtain ⟨plb, q, k1, pl1⟩ := r1.ex
  have hnb := pl1.nsb
  have hsb := pl1.ssb
  have bad : ∀ b, b < 9 → b ≠ 5 → ∃ (t : TypeId) (x : Value), Cells H1 b 0 [.iface t x] ∧ devPost H g k dvb ss ns (bd + 16) pwb P.spend.1 (wsecR ss ns E P D i src) (.iface t x) H1 := fun b hb h5 => by
    obtain ⟨t, x, he, hc⟩ := G1.get b hb h5
    exact ⟨t, x, hc, D, g, E1, r1.mono (by omega), p1, .inl ⟨.inr ⟨b, hb, h5, he.symm⟩, by simp, rfl⟩⟩
  refine ⟨dvb, 0, rfl, _, Cells.of k1 rfl, fun hne => bad 2 (by decide) (by decide), fun heq => ⟨fun hneg => bad 3 (by decide) (by decide), fun hneg => ⟨dvb, 0, rfl, _, Cells.of k1 rfl, fun hbig => bad 1 (by decide) (by decide), fun hbig => ?_⟩⟩⟩
  have heq : n = ss := by have := bne_eq_false_iff_eq.1 heq; omega
  have hneg := of_decide_eq_false hneg
  have hbig := of_decide_eq_false hbig
  obtain ⟨j, rfl⟩ : ∃ j : Nat, i = (j : Int) := ⟨i.toNat, by omega⟩
  have hj : j < ns := by omega
  have hjs : (j + 1) * ss ≤ ns * ss := Nat.mul_le_mul_right _ hj
  rw [Nat.add_mul, Nat.one_mul] at hjs
  have hm : ns * ss ≤ 12 * 16 := Nat.mul_le_mul hnb hsb.2
  have hw : IntKind.wrap .i64 ((j : Int) * (ss : Int)) = ((j * ss : Nat) : Int) := by
    have : (j : Int) * (ss : Int) = ((j * ss : Nat) : Int) := by simp
    rw [this, wrapI] <;> omega
  refine ⟨dvb, 0, rfl, _, Cells.of k1 rfl, dvb, 0, rfl, _, Cells.of k1 rfl, ?_⟩
  rw [hw]
  refine (f118_ht e1.ok pl1 (by omega) (hsrc.ev ht e1 SpW.zero) ht (off := j * ss) (by omega)).mono fun v H2 ⟨g2, mm, hv2, e2, p2⟩ => ⟨_, hv2, ?_⟩
  have k2 := e2.get r1.tag n27P k1
  have r2 : DvR H2 g2 k dvb ss ns (bd + ns + 1) pwb _ := r1.plane k1 e2 n27P p2
  refine ⟨Cells.of k2 rfl, ?_⟩
  refine (f117_ht e2.ok r2 mm).mono fun v H3 ⟨hv3, e3, r3⟩ => ⟨hv3, ?_⟩
  obtain ⟨plb3, q3, k3, _⟩ := r3.ex
  have pw2 : PwR H2 g2 k pwb P.spend.1 := p1.off e2 fun tg hc => by have := hc.rng.2; omega
  refine ⟨Cells.of k3 rfl, _, g2, (E1.trans (e2.mono fun tg h => .inr (.inl h))).trans (e3.mono fun tg h => .inl h), r3.mono (by omega), pw2.off e3 (fun tg hc => by rw [hc]; simp), .inr ⟨hsp, rfl, by omega, j, rfl, hj, by rw [hlen]⟩⟩

/-- What WriteAt leaves. -/
def wdevR (ss ns : Nat) (E : Nat → Value) (P : Pw) (D : Pl) (off : Int) (src : List Int) (v : Value) (D' : Pl) : Prop :=
  (∃ (n : Int) (e : Value), v = .tuple #[.int .i64 n, e] ∧ errV E e ∧ e ≠ .nilIface ∧ D' = D) ∨ (P.spend.2 = true ∧ v = .tuple #[.int .i64 (src.length : Int), .nilIface] ∧ ∃ o : Nat, off = (o : Int) ∧ o + src.length ≤ ns * ss ∧ D' = wrF ss src.length D o src)

theorem f61_ht (hg : GOk H g) (hG : Gl H g E) (h : DvR H g k dvb ss ns bd pwb D) (hp : PwR H g k pwb P) (hbd : bd + 16 < 2 ^ 31) {n c : Nat} {p : Option Addr} {src : List Int} (hsrc : Src H p n c src) (ht : ∀ a, p = some a → 0 < n → g a.block = some (0, 0)) (hn : n < 2 ^ 32) {off : Int} (hoff : off < 2 ^ 63) :
    HT Tryz.prog 61 [.pointer (some ⟨dvb, 0, none⟩), .slice p n c, .int .i64 off] H (devPost H g k dvb ss ns (bd + 16) pwb P.spend.1 (wdevR ss ns E P D off src)) := by
  have hlen := hsrc.len
  apply f61_of
  refine dspendK hg hG h hp (fun hsp H1 e1 r1 p1 => ⟨D, g, e1.mono fun tg h => .inr (.inr h), r1.mono (by omega), p1, .inl ⟨_, _, rfl, .inr ⟨0, by decide, by decide, rfl⟩, E_ne hG (by decide) (by decide), rfl⟩⟩) fun hsp H1 e1 r1 p1 G1 => ?_
  have E1 : Ev (SpV k) H g H1 g := e1.mono fun tg h => .inr (.inr h)
  obtain ⟨plb, q, k1, pl1⟩ := r1.ex
  have hnb := pl1.nsb
  have hsb := pl1.ssb
  have hm : ns * ss ≤ 12 * 16 := Nat.mul_le_mul hnb hsb.2
  have bad : ∀ b, b < 9 → b ≠ 5 → ∃ (t : TypeId) (x : Value), Cells H1 b 0 [.iface t x] ∧ devPost H g k dvb ss ns (bd + 16) pwb P.spend.1 (wdevR ss ns E P D off src) (.tuple #[.int .i64 0, .iface t x]) H1 := fun b hb h5 => by
    obtain ⟨t, x, he, hc⟩ := G1.get b hb h5
    exact ⟨t, x, hc, D, g, E1, r1.mono (by omega), p1, .inl ⟨_, _, rfl, .inr ⟨b, hb, h5, he.symm⟩, by simp, rfl⟩⟩
  refine ⟨fun hneg => bad 3 (by decide) (by decide), fun hneg => ?_⟩
  have hneg := of_decide_eq_false hneg
  refine (f100_ht r1).mono fun v H2 ⟨he, hv⟩ => ⟨_, hv, ?_⟩
  subst he
  have hw1 : IntKind.wrap .i64 (((ns * ss : Nat) : Int) - (n : Int)) = ((ns * ss : Nat) : Int) - (n : Int) := by rw [wrapI] <;> omega
  refine ⟨fun _ => bad 1 (by decide) (by decide), fun hbig => ?_⟩
  rw [hw1] at hbig
  have hbig := of_decide_eq_false hbig
  obtain ⟨o, rfl⟩ : ∃ o : Nat, off = (o : Int) := ⟨off.toNat, by omega⟩
  refine ⟨dvb, 0, rfl, _, Cells.of k1 rfl, ?_⟩
  refine (f118_ht e1.ok pl1 (by omega) (hsrc.ev ht e1 SpW.zero) ht (off := o) (by omega)).mono fun v H3 ⟨g3, mm, hv3, e3, p3⟩ => ⟨_, hv3, ?_⟩
  have r3 : DvR H3 g3 k dvb ss ns (bd + ns + 1) pwb _ := r1.plane k1 e3 n27P p3
  refine (f117_ht e3.ok r3 mm).mono fun v H4 ⟨hv4, e4, r4⟩ => ⟨hv4, ?_⟩
  have pw3 : PwR H3 g3 k pwb P.spend.1 := p1.off e3 fun tg hc => by have := hc.rng.2; omega
  exact ⟨_, g3, (E1.trans (e3.mono fun tg h => .inr (.inl h))).trans (e4.mono fun tg h => .inl h), r4.mono (by omega), pw3.off e4 (fun tg hc => by rw [hc]; simp), .inr ⟨hsp, by rw [hlen], o, rfl, by omega, by rw [hlen]⟩⟩

def dsyncR (E : Nat → Value) (P : Pw) (D : Pl) (v : Value) (D' : Pl) : Prop :=
  (v = E 0 ∧ D' = D) ∨ (P.spend.2 = true ∧ v = .nilIface ∧ D'.clean ∧ ∀ i, D'.dur i = D.lat i)

theorem f64_ht (hg : GOk H g) (hG : Gl H g E) (h : DvR H g k dvb ss ns bd pwb D) (hp : PwR H g k pwb P) (hbd : bd < 2 ^ 31) :
    HT Tryz.prog 64 [.pointer (some ⟨dvb, 0, none⟩)] H (devPost H g k dvb ss ns bd pwb P.spend.1 (dsyncR E P D)) := by
  apply f64_of
  refine dspendK hg hG h hp (fun hsp H1 e1 r1 p1 => ⟨D, g, e1.mono fun tg h => .inr (.inr h), r1, p1, .inl ⟨rfl, rfl⟩⟩) fun hsp H1 e1 r1 p1 G1 => ?_
  have E1 : Ev (SpV k) H g H1 g := e1.mono fun tg h => .inr (.inr h)
  obtain ⟨plb, q, k1, pl1⟩ := r1.ex
  have pev : ∀ {H2 H3 : Heap} {g2 : Gh} {D2 : Pl}, PlOk H2 g2 (eD k) plb ss ns bd D2 → Ev (fun tg => tg = (27, k)) H2 g2 H3 g2 → PlOk H3 g2 (eD k) plb ss ns bd D2 := fun hpl e => hpl.ev e (fun hc => by cases hc) fun tg ht hc => by have h3 := ht.rng.2; have hc' : tg = (27, k) := hc; rw [hc'] at h3; simp at h3
  refine ⟨dvb, 0, rfl, _, Cells.of k1 rfl, dvb, 0, rfl, _, _, k1, by simp, fun H2 hw2 => ?_⟩
  obtain ⟨e2, r2⟩ := r1.own (q' := { q with d := IntKind.wrap .u64 (q.d + 1) }) e1.ok pl1 hw2 rfl
  have k2 : H2 dvb = some (dvB ss ns plb pwb { q with d := IntKind.wrap .u64 (q.d + 1) }) := hw2.same
  refine ⟨dvb, 0, rfl, _, Cells.of k2 rfl, dvb, 0, rfl, _, Cells.of k2 rfl, ?_⟩
  refine (f119_ht e2.ok (pev pl1 e2) (by omega)).mono fun v H3 ⟨g3, D', n0, hv3, e3, p3, hc3, hd3⟩ => ⟨_, hv3, ?_⟩
  have k3 := e3.get r2.tag n27P k2
  have r3 := r2.plane k2 e3 n27P p3
  refine ⟨Cells.of k3 rfl, dvb, 0, rfl, _, _, k3, by simp, fun H4 hw4 => ?_⟩
  obtain ⟨e4, r4⟩ := r3.own (q' := { q with d := IntKind.wrap .u64 (q.d + 1), e := IntKind.wrap .u64 (q.e + IntKind.wrap .u64 n0) }) e3.ok p3 hw4 rfl
  have pw2 := p1.off e2 (fun tg hc => by rw [hc]; simp)
  have pw3 : PwR H3 g3 k pwb P.spend.1 := pw2.off e3 fun tg hc => by have := hc.rng.2; omega
  exact ⟨D', g3, ((E1.trans (e2.mono fun tg h => .inl h)).trans (e3.mono fun tg h => .inr (.inl h))).trans (e4.mono fun tg h => .inl h), r4, pw3.off e4 (fun tg hc => by rw [hc]; simp), .inr ⟨hsp, rfl, hc3, hd3⟩⟩

/-- What ReadAt answers. -/
def dreadR (ss ns : Nat) (E : Nat → Value) (P : Pw) (off : Int) (n : Nat) (v : Value) : Prop :=
  (∃ e, v = .tuple #[.int .i64 0, e] ∧ errV E e ∧ e ≠ .nilIface) ∨ (P.down = false ∧ ∃ o : Nat, off = (o : Int) ∧ o ≤ ns * ss ∧ v = .tuple #[.int .i64 ((min n (ns * ss - o) : Nat) : Int), if n ≤ ns * ss - o then .nilIface else E 6])

theorem f63_ht (hg : GOk H g) (hG : Gl H g E) (h : DvR H g k dvb ss ns bd pwb D) (hp : PwR H g k pwb P) (hbd : bd < 2 ^ 31) {off : Int} {b n : Nat} {arr : Array Value} {T : TypeId} (hgb : g b = none) (hb : H b = some (.cells arr T (0, 0))) (hfit : n ≤ arr.size) (hn : n < 2 ^ 31) :
    HT Tryz.prog 63 [.pointer (some ⟨dvb, 0, none⟩), .slice (some ⟨b, 0, none⟩) n n, .int .i64 off] H fun v H' => Ev (SpV k) H g H' g ∧ DvR H' g k dvb ss ns bd pwb D ∧ PwR H' g k pwb P ∧ dreadR ss ns E P off n v := by
  obtain ⟨plb, q, k1, pl1⟩ := h.ex
  have hm : ns * ss ≤ 12 * 16 := Nat.mul_le_mul pl1.nsb pl1.ssb.2
  apply f63_of
  refine ⟨dvb, 0, rfl, _, Cells.of k1 rfl, ?_⟩
  refine (f75_ht hG hp).mono fun v H1 ⟨he, hv⟩ => ⟨_, rfl, ?_⟩
  subst he
  have hev : errV E v := by
    rw [hv]
    split
    · exact .inr ⟨0, by decide, by decide, rfl⟩
    · exact .inl rfl
  refine errK hG hev (fun hne => ⟨Ev.refl hg, h, hp, .inl ⟨_, rfl, hev, hne⟩⟩) fun hnil => ?_
  have hdn : P.down = false := by
    cases hd : P.down with
    | false => rfl
    | true =>
      rw [hd] at hv
      have hv' : v = E 0 := hv
      exact absurd (hv'.symm.trans hnil) (E_ne hG (by decide) (by decide))
  have bad : f63_L1 (some ⟨dvb, 0, none⟩) (some ⟨b, 0, none⟩) n n off true H1 fun v H' => Ev (SpV k) H1 g H' g ∧ DvR H' g k dvb ss ns bd pwb D ∧ PwR H' g k pwb P ∧ dreadR ss ns E P off n v := by
    apply f63_L1_of
    refine ⟨fun _ => ?_, (fun h => by cases h)⟩
    obtain ⟨t, x, he, hc⟩ := hG.get 3 (by decide) (by decide)
    exact ⟨t, x, hc, Ev.refl hg, h, hp, .inl ⟨_, rfl, .inr ⟨3, by decide, by decide, he.symm⟩, by simp⟩⟩
  refine ⟨fun _ => bad, fun hneg => ?_⟩
  have hneg := of_decide_eq_false hneg
  refine (f100_ht h).mono fun v2 H2 ⟨he2, hv2⟩ => ⟨_, hv2, ?_⟩
  subst he2
  cases hbig : decide (off > ((ns * ss : Nat) : Int)) with
  | true => exact bad
  | false =>
    have hbig := of_decide_eq_false hbig
    obtain ⟨o, rfl⟩ : ∃ o : Nat, off = (o : Int) := ⟨off.toNat, by omega⟩
    have hw : IntKind.wrap .i64 (((ns * ss : Nat) : Int) - (o : Int)) = ((ns * ss - o : Nat) : Int) := by rw [wrapI] <;> omega
    have last : ∀ kk : Nat, kk = min n (ns * ss - o) → f63_L2 (some ⟨dvb, 0, none⟩) (some ⟨b, 0, none⟩) n n (o : Int) (kk : Int) H2 fun v H' => Ev (SpV k) H2 g H' g ∧ DvR H' g k dvb ss ns bd pwb D ∧ PwR H' g k pwb P ∧ dreadR ss ns E P (o : Int) n v := by
      intro kk hkk
      have hi5 : Tryz.prog.info? 5 = some Tryz.t5 := by kernel_rfl
      apply f63_L2_of
      refine ⟨dvb, 0, rfl, _, Cells.of k1 rfl, _, _, _, sliceIs_hi' Tryz.underlying35 hi5 (by omega), ?_⟩
      refine (f78_ht hg pl1 (by omega) hgb hb (o := 0) (n := kk) (c := n) (off := o) (by omega) (by omega) (by omega) (by omega)).mono fun v H3 ⟨hv3, hk3, arr', hb3, _⟩ => ⟨hv3, ?_⟩
      have e3 := Ev.untag hg hgb hk3
      have r3 := h.off e3 none_offD
      obtain ⟨plb3, q3, k3, pl3⟩ := r3.ex
      refine ⟨dvb, 0, rfl, _, Cells.of k3 rfl, dvb, 0, rfl, _, _, k3, by simp, fun H4 hw4 => ?_⟩
      obtain ⟨e4, r4⟩ := r3.own (q' := { q3 with a := IntKind.wrap .u64 (q3.a + 1) }) e3.ok pl3 hw4 rfl
      have EE : Ev (SpV k) H2 g H4 g := (e3.mono fun tg h => h.elim).trans (e4.mono fun tg h => .inl h)
      have p4 := (hp.off e3 fun tg h => h.elim).off e4 (fun tg hc => by rw [hc]; simp)
      refine ⟨fun hlt => ?_, fun hlt => ?_⟩
      · have hlt := of_decide_eq_true hlt
        obtain ⟨t, x, he, hc⟩ := (hG.ev EE SpV.zero).get 6 (by decide) (by decide)
        refine ⟨t, x, hc, EE, r4, p4, .inr ⟨hdn, o, rfl, by omega, ?_⟩⟩
        rw [if_neg (by omega), he, hkk]
      · have hlt := of_decide_eq_false hlt
        refine ⟨EE, r4, p4, .inr ⟨hdn, o, rfl, by omega, ?_⟩⟩
        rw [if_pos (by omega), hkk]
    apply f63_L1_of
    refine ⟨(fun h => by cases h), fun _ => ?_⟩
    refine (f100_ht h).mono fun v3 H3 ⟨he3, hv3⟩ => ⟨_, hv3, fun hg1 => ?_, fun hg1 => ?_⟩
    · subst he3
      rw [hw] at hg1 ⊢
      have hg1 := of_decide_eq_true hg1
      exact last _ (by omega)
    · subst he3
      rw [hw] at hg1
      have hg1 := of_decide_eq_false hg1
      exact last n (by omega)

/-- What a crash leaves of a device. -/
def dcrashR (ns : Nat) (D : Pl) (tr : List Ask) (D' : Pl) : Prop :=
  ∃ (ch : Int → Nat) (ks : List Int), D'.clean ∧ Dirty D ns ks ∧ (∀ i, ch i ≤ (D.cache i).length) ∧ (∀ i, i ∉ ks → ch i = 0) ∧ (∀ i : Nat, D'.dur i = settled D ch i) ∧ tr = ks.map fun i => ((0, 0, i), (D.cache i).length, ch i)

theorem dcrashR.len {ns : Nat} {D D' : Pl} {tr : List Ask} (h : dcrashR ns D tr D') : tr.length ≤ ns := by
  obtain ⟨ch, ks, _, hD, _, _, _, rfl⟩ := h
  rw [List.length_map]
  exact hD.2.1

theorem f96_ht {tb : Nat} {Pk : List Ask → Heap → Gh → Prop} (hP : Picker tb Pk) {tr : List Ask} (htr : tr.length < 2 ^ 30) (hg : GOk H g) (h : DvR H g k dvb ss ns bd pwb D) (hbd : bd < 2 ^ 31) (hpk : Pk tr H g) :
    HT Tryz.prog 96 [.pointer (some ⟨dvb, 0, none⟩), .iface 178 (.pointer (some ⟨tb, 0, none⟩))] H fun v H' => ∃ D' g' tr1, v = .tuple #[] ∧ Ev (fun tg => SpV k tg ∧ tg.1 ≠ 26 ∨ Spk tg) H g H' g' ∧ DvR H' g' k dvb ss ns bd pwb D' ∧ dcrashR ns D tr1 D' ∧ Pk (tr ++ tr1) H' g' := by
  apply f96_of
  intro cap H1 ha
  obtain ⟨e1, t1⟩ := Ev.al (S := fun _ => False) hg ha (40, 0)
  have r1 := h.off e1 none_offD
  obtain ⟨plb, q, k1, pl1⟩ := r1.ex
  have hpk1 := hP.ev _ _ _ _ _ _ hpk e1 (fun _ _ h => h) (fun h => h)
  refine ⟨dvb, 0, rfl, _, Cells.of k1 rfl, ?_⟩
  refine (f142a_ht (InvD.ev hP (cap := cap) (tr0 := tr)) (f143_ht hP (by omega)) e1.ok pl1 (by omega) (tr0 := []) (by decide) ⟨e1.ok, t1, ha.same, by simpa using hpk1⟩).mono fun v H2 ⟨g2, D', ch, ks, hv2, e2, p2, hc2, hD2, hch, hz, hd2, hI2⟩ => ⟨hv2, ?_⟩
  obtain ⟨_, t22, q22, hpk2⟩ := hI2
  have n27 : ¬ SpS (eD k) (27, k) := fun hc => by
    rcases hc with hc | hc
    · exact n27P hc
    · have := hc.1; simp at this
  have k2 := e2.get r1.tag n27 k1
  have r2 : DvR H2 g2 k dvb ss ns bd pwb D' := r1.plane k1 e2 n27 p2
  refine ⟨dvb, 0, rfl, _, Cells.of k2 rfl, dvb, 0, rfl, _, _, k2, by simp, fun H3 hw3 => ?_⟩
  obtain ⟨e3, r3⟩ := r2.own (q' := { q with f := IntKind.wrap .u64 (q.f + 1) }) e2.ok p2 hw3 rfl
  have hpk3 := hP.ev _ _ _ _ _ _ hpk2 e3 (fun tg ht hs => by rw [hs] at ht; have := ht.1; simp at this) (fun hs => by cases hs)
  refine ⟨D', g2, _, rfl, ((e1.mono fun tg h => h.elim).trans (e2.mono fun tg h => ?_)).trans (e3.mono fun tg h => ?_), r3, ⟨ch, ks, hc2, hD2, hch, hz, hd2, rfl⟩, ?_⟩
  · rcases h with h | h
    · exact .inl ⟨.inr (.inl h), fun hc => by have := h.rng.2; omega⟩
    · exact .inr h
  · exact .inl ⟨.inl h, by rw [h]; simp⟩
  · rw [List.nil_append, List.map_map] at hpk3
    exact hpk3

end

end Go.Proofs.Qxb6500695aGreatFmt
