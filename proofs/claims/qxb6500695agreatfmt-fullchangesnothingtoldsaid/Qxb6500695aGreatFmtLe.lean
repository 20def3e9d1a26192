/-
  FULL CHANGES NOTHING, PART E: a node's crash, with the answers.
-/
import Derived.Test.Qxb6500695aGreatFmtLd
import Derived.Test.Qxb6500695aGreatFmtGa
namespace Go.Proofs.Qxb6500695aGreatFmt
open Go Go.Eng Go.Proofs
set_option maxRecDepth 100000
set_option linter.unusedVariables false
set_option linter.unusedSimpArgs false
set_option linter.unusedSectionVars false

section
variable {S : Nat × Int → Prop} {H H' : Heap} {g g' : Gh} {tb lb : Nat} {k : Int} {nb pwb dvb sb ss ns cap bd N : Nat} {n : NdV} {ans : Ans}

theorem crashNd {Pk : List Ask → Heap → Gh → Prop} {R : Value → Heap → Prop} (hP : Picker tb Pk) (hk : 0 ≤ k ∧ k < 3) (hg : GOk H g) (N1 : NdR H g k nb pwb dvb sb ss ns cap bd n) (hI : StI ss cap N n.s) (hbd : bd < 2 ^ 31) (pk1 : Pk [] H g)
    (htb : ∀ tr H g, Pk tr H g → ∃ (iv : Value) (x1 x2 x3 : Int), H tb = some (.cells #[iv, .int .i64 x1, .int .i64 x2, .int .i64 x3] 180 (0, 0)))
    (hR : ∀ n' g' tr (a b c : Int) G, Ev (SpK k) H g G g' → NdR G g' k nb pwb dvb sb ss ns cap bd n' → ndCrash ss ns cap n tr n' → Pk tr G g' → R (.agg #[.int .i64 a, .int .i64 b, .int .i64 c]) G) :
    (∃ (b10 o10 : Nat), (some ⟨nb, 0, none⟩ : Option Addr) = some ⟨b10, o10, none⟩ ∧ (∃ (x12 : Option Addr), Cells H b10 (o10 + 4) [.pointer x12] ∧ (HT Tryz.prog 95 [.pointer x12] H (fun v hp2 => v = .tuple #[] ∧ (∃ (b15 o15 : Nat), (some ⟨nb, 0, none⟩ : Option Addr) = some ⟨b15, o15, none⟩ ∧ (∃ (x17 : Option Addr), Cells hp2 b15 (o15 + 5) [.pointer x17] ∧ (HT Tryz.prog 96 [.pointer x17, .iface 178 (.pointer (some ⟨tb, 0, none⟩))] hp2 (fun v hp3 => v = .tuple #[] ∧ (∃ (b22 o22 : Nat), (some ⟨nb, 0, none⟩ : Option Addr) = some ⟨b22, o22, none⟩ ∧ (∃ (x24 : Option Addr), Cells hp3 b22 (o22 + 6) [.pointer x24] ∧ (HT Tryz.prog 97 [.pointer x24, .iface 178 (.pointer (some ⟨tb, 0, none⟩))] hp3 (fun v hp4 => v = .tuple #[] ∧ (∃ (b29 o29 : Nat), (some ⟨nb, 0, none⟩ : Option Addr) = some ⟨b29, o29, none⟩ ∧ (∃ (x31 : Option Addr), Cells hp4 b29 (o29 + 4) [.pointer x31] ∧ (HT Tryz.prog 98 [.pointer x31] hp4 (fun v hp5 => v = .tuple #[] ∧ (∃ (x36_0 : Int), ∃ (x36_1 : Int), ∃ (x36_2 : Int), Cells hp5 tb 1 [.int .i64 x36_0, .int .i64 x36_1, .int .i64 x36_2] ∧ (R (.agg #[.int .i64 x36_0, .int .i64 x36_1, .int .i64 x36_2]) hp5)))))))))))))))))) := by
  have hl' := hI.len
  have hpos : ∀ b ∈ n.s.T, 0 ≤ (n.s.O b).id := fun b hb => by have := (hI.idp b hb).1; omega
  obtain ⟨nm, a, b, c, nb1⟩ := N1.nd.2
  refine ⟨nb, 0, rfl, _, Cells.of nb1 rfl, ?_⟩
  refine (f95_ht hg N1.pw).mono fun v H2 ⟨hv2, e2, p2⟩ => ⟨hv2, ?_⟩
  have d2 := N1.dv.off e2 SpW.offD
  have s2 := N1.st.off e2 SpW.off
  have nd2 := N1.nd.ev e2 (fun hc => by cases hc)
  have pk2 := hP.ev _ _ _ _ _ _ pk1 e2 (fun tg ht hs => by rw [hs] at ht; have := ht.1; simp at this) SpW.zero
  obtain ⟨nm2, a2, b2, c2, nb2⟩ := nd2.2
  refine ⟨nb, 0, rfl, _, Cells.of nb2 rfl, ?_⟩
  refine (f96_ht hP (by decide) e2.ok d2 hbd pk2).mono fun v H3 ⟨D', g3, trD, hv3, e3, d3, hdc, pk3⟩ => ⟨hv3, ?_⟩
  have hS3 : ∀ tg, (SpV k tg ∧ tg.1 ≠ 26 ∨ Spk tg) → SpV k tg ∨ (30 ≤ tg.1 ∧ tg.1 ≤ 42) := fun tg ht => ht.elim (fun h => .inl h.1) fun h => .inr ⟨h.1, by have := h.2; omega⟩
  have s3 := s2.dev hk.1 hpos e3 hS3
  have n28 : ¬ (SpV k (28, k) ∧ (28 : Nat) ≠ 26 ∨ Spk (28, k)) := fun hc => by
    rcases hc with ⟨hc | hc | hc, _⟩ | hc
    · simp at hc
    · have := hc.rng.2; simp at this
    · simp at hc
    · have := hc.1; simp at this
  have nd3 := nd2.ev e3 n28
  have p3 := p2.ev e3 (fun hc => by
    rcases hc with ⟨_, hc⟩ | hc
    · exact hc rfl
    · have := hc.1; simp at this)
  obtain ⟨nm3, a3, b3, c3, nb3⟩ := nd3.2
  refine ⟨nb, 0, rfl, _, Cells.of nb3 rfl, ?_⟩
  have hns : ns ≤ 12 := by obtain ⟨_, _, _, hpl⟩ := d2.ex; exact hpl.nsb
  refine (f97_ht hP (by rw [List.nil_append]; have := hdc.len; omega) e3.ok s3 (hI.toN hbd) (by omega) (fun i x b hx => hI.heldT b (hI.back i x b hx)) (fun i x hx => hI.names i x hx) hI.namesB pk3).mono fun v H4 ⟨s', g4, trS, hv4, e4, s4, hsc, pk4⟩ => ⟨hv4, ?_⟩
  have e4N : Ev (SpN k) H3 g3 H4 g4 := e4.mono fun tg h => h.le
  have d4 := d3.store hk.1 e4N
  have nd4 := nd3.ev e4N (fun hc => by
    rcases hc with hc | hc | hc
    · have := hc.2.1; simp at this
    · have := hc.1; simp at this
    · have := hc.1; simp at this)
  have p4 := p3.in e4
  obtain ⟨nm4, a4, b4, c4, nb4⟩ := nd4.2
  refine ⟨nb, 0, rfl, _, Cells.of nb4 rfl, ?_⟩
  refine (f98_ht e4.ok p4).mono fun v H5 ⟨hv5, e5, p5⟩ => ⟨hv5, ?_⟩
  have d5 := d4.off e5 SpW.offD
  have s5 := s4.off e5 SpW.off
  have nd5 := nd4.ev e5 (fun hc => by cases hc)
  have pk5 := hP.ev _ _ _ _ _ _ pk4 e5 (fun tg ht hs => by rw [hs] at ht; have := ht.1; simp at this) SpW.zero
  obtain ⟨iv, x1, x2, x3, ht5⟩ := htb _ _ _ pk5
  have eW : ∀ {G G' : Heap} {q q' : Gh}, Ev (SpW k) G q G' q' → Ev (SpK k) G q G' q' := fun e => e.mono fun tg h => .inl (SpN.pw h)
  refine ⟨x1, x2, x3, Cells.of ht5 rfl, hR ⟨⟨false, false, 0⟩, D', s'⟩ g4 (trD ++ trS) x1 x2 x3 H5 ((((eW e2).trans (e3.mono fun tg h => ?_)).trans (e4N.mono fun tg h => .inl h)).trans (eW e5)) ⟨nd5, p5, d5, s5⟩ ⟨rfl, trD, trS, hdc, hsc, rfl⟩ pk5⟩
  rcases h with h | h
  · exact .inr h.1
  · exact .inl (SpN.pick h)

/-- What a crash leaves, with the answers of a picker. -/
def crashPost (H : Heap) (g : Gh) (k : Int) (nb pwb dvb sb ss ns cap bd : Nat) (n : NdV) (ans : Ans) (v : Value) (H' : Heap) : Prop :=
  ∃ g', Ev (SpK k) H g H' g' ∧ ∃ n' tr, (∃ a b c : Int, v = .agg #[.int .i64 a, .int .i64 b, .int .i64 c]) ∧ NdR H' g' k nb pwb dvb sb ss ns cap bd n' ∧ ndCrash ss ns cap n tr n' ∧ GoodA ans 0 tr

/-- A picker, as it lies. -/
def PvOk (ans : Ans) (pv : Value) (H : Heap) (g : Gh) : Prop :=
  (pv = .iface 245 (.func (.func 147) #[] #[]) ∧ ans = fun _ _ n => nrm 0 n) ∨ (pv = .iface 245 (.func (.func 148) #[] #[]) ∧ ans = fun _ _ (n : Nat) => nrm (n : Int) n) ∨
  (∃ seed, pv = .iface 187 (.agg #[.int .u64 seed]) ∧ ans = fun _ pl n => nrm (seedV seed pl n) n) ∨
  (∃ (lb : Nat) (q : Option Addr) (m qc : Nat) (ys : List Int) (T : TypeId), pv = .iface 94 (.pointer (some ⟨lb, 0, none⟩)) ∧ g lb = some (31, 0) ∧ H lb = some (.cells #[.slice q m qc, .int .i64 0] T (0, 0)) ∧ m < 2 ^ 32 ∧ ReadL H 1 I64.cs q m ys ∧ (∀ a, q = some a → g a.block = some (0, 0)) ∧ ans = ansL ys)

theorem PvOk.ev {pv : Value} (h : PvOk ans pv H g) (e : Ev S H g H' g') (h31 : ¬ S (31, 0)) (h0 : ¬ S (0, 0)) : PvOk ans pv H' g' := by
  rcases h with h | h | h | ⟨lb, q, m, qc, ys, T, a1, a2, a3, a4, a5, a6, a7⟩
  · exact .inl h
  · exact .inr (.inl h)
  · exact .inr (.inr (.inl h))
  · exact .inr (.inr (.inr ⟨lb, q, m, qc, ys, T, a1, e.tag _ _ a2, e.get a2 h31 a3, a4, a5.ev a6 e h0, fun a ha => e.tag _ _ (a6 a ha), a7⟩))

theorem f40_any {pv : Value} (hk : 0 ≤ k ∧ k < 3) (hg : GOk H g) (h : NdR H g k nb pwb dvb sb ss ns cap bd n) (hI : StI ss cap N n.s) (hbd : bd < 2 ^ 31) (hpv : PvOk ans pv H g) :
    HT Tryz.prog 40 [.pointer (some ⟨nb, 0, none⟩), pv] H (crashPost H g k nb pwb dvb sb ss ns cap bd n ans) := by
  rcases hpv with ⟨rfl, rfl⟩ | ⟨rfl, rfl⟩ | ⟨seed, rfl, rfl⟩ | ⟨lb, q, m, qc, ys, T, rfl, a2, a3, a4, a5, a6, rfl⟩
  · apply f40f_of
    intro _ tb H1 ha
    obtain ⟨e1, t1⟩ := Ev.al (S := fun _ => False) hg ha (30, 0)
    refine crashNd (pkf_picker (val := fun _ => 0) fun H a o s n => f147_ht a o s n) hk e1.ok (h.off e1 none_offN) hI hbd ⟨t1, ⟨0, 0, 0, ha.same⟩, GoodA.nil⟩ (fun tr H g hp => let ⟨a, b, c, h⟩ := hp.2.1; ⟨_, a, b, c, h⟩) fun n' g' tr a b c G e hN hc hp => ⟨g', (e1.mono fun _ h => h.elim).trans e, n', tr, ⟨a, b, c, rfl⟩, hN, hc, hp.2.2⟩
  · apply f40f_of
    intro _ tb H1 ha
    obtain ⟨e1, t1⟩ := Ev.al (S := fun _ => False) hg ha (30, 0)
    refine crashNd (pkf_picker (val := fun n => (n : Int)) fun H a o s n => f148_ht a o s n) hk e1.ok (h.off e1 none_offN) hI hbd ⟨t1, ⟨0, 0, 0, ha.same⟩, GoodA.nil⟩ (fun tr H g hp => let ⟨a, b, c, h⟩ := hp.2.1; ⟨_, a, b, c, h⟩) fun n' g' tr a b c G e hN hc hp => ⟨g', (e1.mono fun _ h => h.elim).trans e, n', tr, ⟨a, b, c, rfl⟩, hN, hc, hp.2.2⟩
  · apply f40s_of
    intro _ tb H1 ha
    obtain ⟨e1, t1⟩ := Ev.al (S := fun _ => False) hg ha (30, 0)
    refine crashNd pks_picker hk e1.ok (h.off e1 none_offN) hI hbd ⟨t1, ⟨0, 0, 0, ha.same⟩, GoodA.nil⟩ (fun tr H g hp => let ⟨a, b, c, h⟩ := hp.2.1; ⟨_, a, b, c, h⟩) fun n' g' tr a b c G e hN hc hp => ⟨g', (e1.mono fun _ h => h.elim).trans e, n', tr, ⟨a, b, c, rfl⟩, hN, hc, hp.2.2⟩
  · apply f40l_of
    intro _ tb H1 ha
    obtain ⟨e1, t1⟩ := Ev.al (S := fun _ => False) hg ha (30, 0)
    refine crashNd (pkx_picker (lb := lb) (xs := ys)) hk e1.ok (h.off e1 none_offN) hI hbd ⟨e1.tag _ _ a2, ⟨t1, ⟨0, 0, 0, ha.same⟩, GoodA.nil⟩, q, m, qc, T, ?_, a4, a5.sub ha.sub, fun a haa => e1.tag _ _ (a6 a haa)⟩ (fun tr H g hp => let ⟨a, b, c, h⟩ := hp.2.1.2.1; ⟨_, a, b, c, h⟩) fun n' g' tr a b c G e hN hc hp => ⟨g', (e1.mono fun _ h => h.elim).trans e, n', tr, ⟨a, b, c, rfl⟩, hN, hc, hp.2.1.2.2⟩
    rw [ha.keep a3]
    simp

/-- What the ways of a crash read. -/
structure CapOk (H : Heap) (g : Gh) (cb : Nat) (op : OpV) : Prop where
  tag : g cb = some (0, 0)
  cell : H cb = some (.cells #[.slice op.pp op.pn op.pc] 39 (0, 0))
  op : OpOk H g op

theorem CapOk.ev {cb : Nat} {op : OpV} (h : CapOk H g cb op) (e : Ev S H g H' g') (h0 : ¬ S (0, 0)) : CapOk H' g' cb op :=
  ⟨e.tag _ _ h.tag, e.get h.tag h0 h.cell, h.op.ev e h0⟩

/-- The ways: the function, what it has caught, the answers. -/
def wayF (i : Nat) : FuncId := if i = 0 then 103 else if i = 1 then 104 else if i = 2 then 105 else 106
def wayD (i cb : Nat) : Array Value := if i = 0 then #[] else if i = 1 then #[] else #[.pointer (some ⟨cb, 0, none⟩)]
def wayA (i : Nat) (op : OpV) : Ans := if i = 0 then (fun _ _ n => nrm 0 n) else if i = 1 then (fun _ _ (n : Nat) => nrm (n : Int) n) else if i = 2 then ansL op.picks else fun _ pl n => nrm (seedV (IntKind.wrap .u64 (op.pn : Int)) pl n) n

theorem way_ht {cb i : Nat} {op : OpV} (hg : GOk H g) (h : CapOk H g cb op) : HT Tryz.prog (wayF i) ((#[] ++ #[]) ++ wayD i cb).toList H fun pv H' => ∃ g', Ev (fun _ => False) H g H' g' ∧ PvOk (wayA i op) pv H' g' := by
  have hpb := h.op.pb
  by_cases i0 : i = 0
  · subst i0
    exact f103_of ⟨g, Ev.refl hg, .inl ⟨rfl, rfl⟩⟩
  by_cases i1 : i = 1
  · subst i1
    exact f104_of ⟨g, Ev.refl hg, .inr (.inl ⟨rfl, rfl⟩)⟩
  by_cases i2 : i = 2
  · subst i2
    refine f105_of _ ⟨_, _, _, Cells.of h.cell rfl, ?_⟩
    refine (f41_ht hg (c := op.pc) h.op.pl (by omega) fun hp => let ⟨b, q, h1, h2, h3⟩ := h.op.pcs hp; ⟨b, q, h1, h3⟩).mono fun v H1 ⟨lb, g1, hv, e1, tl, q, qc, hl, hr, hq⟩ => ⟨_, hv, g1, e1, .inr (.inr (.inr ⟨lb, q, op.pn, qc, op.picks, 183, rfl, tl, hl, by omega, hr, hq, rfl⟩))⟩
  · have hw : wayF i = 106 := by simp [wayF, i0, i1, i2]
    have hd : wayD i cb = #[.pointer (some ⟨cb, 0, none⟩)] := by simp [wayD, i0, i1]
    have ha : wayA i op = fun _ pl n => nrm (seedV (IntKind.wrap .u64 (op.pn : Int)) pl n) n := by simp [wayA, i0, i1, i2]
    rw [hw, hd, ha]
    exact f106_of _ ⟨_, _, _, Cells.of h.cell rfl, g, Ev.refl hg, .inr (.inr (.inl ⟨_, rfl, rfl⟩))⟩

end

end Go.Proofs.Qxb6500695aGreatFmt
