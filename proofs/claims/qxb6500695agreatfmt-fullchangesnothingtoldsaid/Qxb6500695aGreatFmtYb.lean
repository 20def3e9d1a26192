/-
  OBJECTS, PART B: harden.
-/
import Derived.Test.Qxb6500695aGreatFmtYa
namespace Go.Proofs.Qxb6500695aGreatFmt
open Go Go.Eng Go.Proofs
set_option maxRecDepth 100000
set_option linter.unusedVariables false
set_option linter.unusedSimpArgs false
set_option linter.unusedSectionVars false

section
variable {S : Nat × Int → Prop} {H H' : Heap} {g g' : Gh} {z : Int} {ob ss ns bd : Nat} {o : Ob}

theorem SpO.n11P {tg : Nat × Int} (ht : SpP z tg) : ¬ (tg = (11, z)) := fun hx => by rw [hx] at ht; exact SpP.n11 ht

theorem f140_ht (hg : GOk H g) (h : ObS H g z ob ss ns bd o) (hbd : bd < 2 ^ 32) :
    HT Tryz.prog 140 [.pointer (some ⟨ob, 0, none⟩)] H fun v H' => ∃ (g' : Gh) (P' : Pl) (w : Int), v = .tuple #[.int .i64 w, .int .i64 ((o.res : Int) - (sect ss o.size : Int))] ∧ Ev (SpO z) H g H' g' ∧
      ObS H' g' z ob ss ns bd { o with stable := o.size, sizes := [], res := sect ss o.size, pl := P' } ∧ P'.clean ∧ ∀ i, P'.dur i = cutV ss o.size i (o.pl.lat i) := by
  obtain ⟨sp, sn, sc, h1, h2⟩ := h.ex
  have hss := h.pl.ssb
  have hnb := h.pl.nsb
  have hmul : ns * ss ≤ 256 := Nat.le_trans (Nat.mul_le_mul hnb hss.2) (by decide)
  have hfit := h.fit
  have hsle := sect_le hss.1 hfit.1
  have hrb := h.rb
  apply f140_of
  refine ⟨ob, 0, rfl, _, Cells.of h1 rfl, ?_⟩
  refine (f119_ht hg h.pl hbd).mono fun v H1 ⟨g1, P1, n0, hv, e1, p1, hc1, hd1⟩ => ⟨_, hv, ?_⟩
  have t1 := e1.tag _ _ h.tag
  have h11 := e1.get h.tag SpP.n11 h1
  refine ⟨ob, 0, rfl, _, Cells.of h11 rfl, ob, 0, rfl, _, _, h11, by simp, fun H2 hw2 => ?_⟩
  have hw2' : Wr H1 ob (.cells #[.int .u64 o.id, .pointer (some ⟨o.pb, 0, none⟩), .int .i64 (o.size : Int), .int .i64 (o.size : Int), .slice sp sn sc, .int .i64 (o.res : Int)] 166 (0, 0)) H2 := hw2
  have S11 : ∀ {G G' : Heap} {k : Gh} {ob' : Obj}, k ob = some (11, z) → GOk G k → Wr G ob ob' G' → Ev (fun tg => tg = (11, z)) G k G' k := fun ht hG hw => Ev.wr hG hw fun tg htg => by rw [ht] at htg; cases htg; rfl
  have e2 := S11 t1 e1.ok hw2'
  refine ⟨ob, 0, rfl, _, _, hw2'.same, by simp, fun H3 hw3 => ?_⟩
  have hw3' : Wr H2 ob (.cells #[.int .u64 o.id, .pointer (some ⟨o.pb, 0, none⟩), .int .i64 (o.size : Int), .int .i64 (o.size : Int), .slice none 0 0, .int .i64 (o.res : Int)] 166 (0, 0)) H3 := hw3
  have e3 := S11 t1 e2.ok hw3'
  have p3 := (p1.ev e2 (fun h => by cases h) fun _ ht => SpO.n11P ht).ev e3 (fun h => by cases h) fun _ ht => SpO.n11P ht
  refine ⟨ob, 0, rfl, _, Cells.of hw3'.same rfl, ob, 0, rfl, _, Cells.of hw3'.same rfl, ?_⟩
  refine (f185_ht e3.ok p3 (size := o.size) hfit.1).mono fun v H4 ⟨g4, P4, hv4, e4, p4, hc4, hd4⟩ => ⟨hv4, ?_⟩
  have nM11 : ¬ SpM z (11, z) := fun h => SpP.n11 h.le
  have h14 := e4.get t1 nM11 hw3'.same
  obtain ⟨mp, mn, mc, r, hpl4⟩ := p4.pln
  refine ⟨ob, 0, rfl, _, Cells.of h14 rfl, ob, 0, rfl, _, Cells.of h14 rfl, o.pb, 0, rfl, _, Cells.of hpl4 rfl, ?_⟩
  refine (f176_ht hss (by omega)).mono fun v H5 ⟨he5, hv5⟩ => ⟨_, hv5, ?_⟩
  subst he5
  refine ⟨Cells.of h14 rfl, ob, 0, rfl, _, Cells.of h14 rfl, ob, 0, rfl, _, _, h14, by simp, fun H6 hw6 => ?_⟩
  have hw6' : Wr H5 ob (.cells #[.int .u64 o.id, .pointer (some ⟨o.pb, 0, none⟩), .int .i64 (o.size : Int), .int .i64 (o.size : Int), .slice none 0 0, .int .i64 (sect ss o.size : Int)] 166 (0, 0)) H6 := hw6
  have t4 := e4.tag _ _ t1
  have e6 := S11 t4 e4.ok hw6'
  have hwr : IntKind.wrap .i64 ((o.res : Int) - (sect ss o.size : Int)) = (o.res : Int) - (sect ss o.size : Int) := by rw [wrapI] <;> omega
  rw [hwr]
  have hE : Ev (SpO z) H g H6 g4 := ((((e1.mono fun tg ht => .inr (.inr ht)).trans (e2.mono fun tg ht => .inl ht)).trans (e3.mono fun tg ht => .inl ht)).trans (e4.mono fun tg ht => .inr (.inr ht.le))).trans (e6.mono fun tg ht => .inl ht)
  refine ⟨g4, P4, n0, rfl, hE, ⟨e6.tag _ _ t4, ⟨none, 0, 0, hw6'.same, OwnT.nil I64.size⟩, p4.ev e6 (fun h => by cases h) fun _ ht => SpO.n11P ht, Nat.zero_le _, ⟨hfit.1, hfit.1, by simp⟩, hsle⟩, fun i => ?_, fun i => ?_⟩
  · rw [hc4]; exact hc1 i
  · rw [hd4, hd1]

end

end Go.Proofs.Qxb6500695aGreatFmt
