/-
  NODES AND THE RACK.
-/
import Derived.Test.Qxb6500695aGreatFmtNc
namespace Go.Proofs.Qxb6500695aGreatFmt
open Go Go.Eng Go.Proofs
set_option maxRecDepth 100000
set_option linter.unusedVariables false
set_option linter.unusedSimpArgs false
set_option linter.unusedSectionVars false

/-- A node, as it is meant. -/
structure NdV where
  pw : Pw
  D : Pl
  s : StV

/-- A node's block. -/
def NdB (H : Heap) (g : Gh) (k : Int) (nb pwb dvb sb : Nat) : Prop :=
  g nb = some (28, k) ∧ ∃ (nm : ByteArray) (a b c : Int), H nb = some (.cells #[.string nm, .int .i64 a, .int .i64 b, .int .i64 c, .pointer (some ⟨pwb, 0, none⟩), .pointer (some ⟨dvb, 0, none⟩), .pointer (some ⟨sb, 0, none⟩)] 128 (0, 0))

/-- A node as it lies. -/
structure NdR (H : Heap) (g : Gh) (k : Int) (nb pwb dvb sb ss ns cap bd : Nat) (n : NdV) : Prop where
  nd : NdB H g k nb pwb dvb sb
  pw : PwR H g k pwb n.pw
  dv : DvR H g k dvb ss ns bd pwb n.D
  st : StR H g k sb ss cap bd pwb n.s

/-- What a node's calls may turn. -/
def SpK (k : Int) (tg : Nat × Int) : Prop := SpN k tg ∨ SpV k tg

section
variable {S : Nat × Int → Prop} {H H' : Heap} {g g' : Gh} {k j : Int} {nb pwb dvb sb ss ns cap bd bd' : Nat} {n : NdV} {E : Nat → Value}

theorem SpK.zero : ¬ SpK k (0, 0) := fun h => h.elim SpN.zero SpV.zero

theorem NdB.ev (h : NdB H g k nb pwb dvb sb) (ev : Ev S H g H' g') (hS : ¬ S (28, k)) : NdB H' g' k nb pwb dvb sb := by
  obtain ⟨h1, nm, a, b, c, h2⟩ := h
  exact ⟨ev.tag _ _ h1, nm, a, b, c, ev.get h1 hS h2⟩

theorem NdR.mono (h : NdR H g k nb pwb dvb sb ss ns cap bd n) (hb : bd ≤ bd') : NdR H g k nb pwb dvb sb ss ns cap bd' n :=
  ⟨h.nd, h.pw, h.dv.mono hb, h.st.mono hb⟩

/-- Nothing of any node turned. -/
def OffN (S : Nat × Int → Prop) : Prop := ∀ tg, S tg → ¬ (tg.1 = 0 ∨ (11 ≤ tg.1 ∧ tg.1 ≤ 14) ∨ tg.1 = 16 ∨ tg.1 = 18 ∨ (20 ≤ tg.1 ∧ tg.1 ≤ 29) ∨ 100 ≤ tg.1)

theorem NdR.off (h : NdR H g k nb pwb dvb sb ss ns cap bd n) (ev : Ev S H g H' g') (hS : OffN S) : NdR H' g' k nb pwb dvb sb ss ns cap bd n :=
  ⟨h.nd.ev ev fun hc => hS _ hc (by simp), h.pw.ev ev fun hc => hS _ hc (by simp), h.dv.off ev fun tg ht hc => hS tg ht (by omega), h.st.off ev fun tg ht hc => hS tg ht (by omega)⟩

theorem none_offN : OffN (fun _ => False) := fun tg h => h.elim
theorem off42N : OffN (fun tg => tg = ((42 : Nat), (0 : Int))) := fun tg h hc => by rw [h] at hc; simp at hc

/-- Another node's calls. -/
theorem NdR.other (hj : 0 ≤ j ∧ j < 3) (hk : 0 ≤ k ∧ k < 3) (hjk : j ≠ k) (h : NdR H g j nb pwb dvb sb ss ns cap bd n) (hpos : ∀ b ∈ n.s.T, 0 ≤ (n.s.O b).id) (ev : Ev (SpK k) H g H' g') : NdR H' g' j nb pwb dvb sb ss ns cap bd n := by
  have key : ∀ tg : Nat × Int, (20 ≤ tg.1 ∧ tg.1 ≤ 29 ∧ tg.2 = j) → ¬ SpK k tg := fun tg ht hc => by
    rcases hc with (hc | hc | hc) | hc | hc | hc
    · omega
    · have := hc.1; omega
    · have := hc.1; omega
    · rw [hc] at ht; simp at ht; omega
    · have := hc.rng.2; omega
    · rw [hc] at ht; simp at ht; omega
  have keyO : ∀ (id : Int), 0 ≤ id → ∀ tg, SpO (zO j id) tg → ¬ SpK k tg := fun id hid tg ht hc => by
    have h1 := ht.rng
    unfold zO at h1
    rcases hc with (hc | hc | hc) | hc | hc | hc
    · omega
    · obtain ⟨q, hq, hq2⟩ := hc.2
      unfold zO at hq2
      omega
    · omega
    · rw [hc] at h1; simp at h1
    · have h2 := hc.rng.1
      unfold eD at h2
      omega
    · rw [hc] at h1; simp at h1
  have keyP : ∀ tg, SpP (eD j) tg → ¬ SpK k tg := fun tg ht hc => by
    have h1 := ht.rng
    unfold eD at h1
    rcases hc with (hc | hc | hc) | hc | hc | hc
    · omega
    · obtain ⟨q, hq, hq2⟩ := hc.2
      unfold zO at hq2
      omega
    · omega
    · rw [hc] at h1; simp at h1
    · have h2 := hc.rng.1
      unfold eD at h2
      omega
    · rw [hc] at h1; simp at h1
  exact ⟨h.nd.ev ev (key _ ⟨by simp, by simp, rfl⟩), h.pw.ev ev (key _ ⟨by simp, by simp, rfl⟩), h.dv.ev ev SpK.zero (key _ ⟨by simp, by simp, rfl⟩) keyP, h.st.ev ev SpK.zero (key _ ⟨by simp, by simp, rfl⟩) (fun tg ht => key tg ⟨by have := ht.2.1; omega, by have := ht.2.2; omega, ht.1⟩) fun b hb tg ht => keyO _ (hpos b hb) tg ht⟩

/-- The store's calls leave the device. -/
theorem DvR.store {D : Pl} (hk : 0 ≤ k) (h : DvR H g k dvb ss ns bd pwb D) (ev : Ev (SpN k) H g H' g') : DvR H' g' k dvb ss ns bd pwb D := by
  refine h.ev ev SpN.zero (fun hc => ?_) fun tg ht hc => ?_
  · rcases hc with hc | hc | hc
    · have := hc.2.1; simp at this
    · have := hc.1; simp at this
    · have := hc.1; simp at this
  · have h1 := ht.rng
    unfold eD at h1
    rcases hc with hc | hc | hc
    · omega
    · obtain ⟨q, hq, hq2⟩ := hc.2
      unfold zO at hq2
      omega
    · omega

/-- The device's calls leave the store. -/
theorem StR.dev {s : StV} (hk : 0 ≤ k) (h : StR H g k sb ss cap bd pwb s) (hpos : ∀ b ∈ s.T, 0 ≤ (s.O b).id) (ev : Ev S H g H' g') (hS : ∀ tg, S tg → SpV k tg ∨ (30 ≤ tg.1 ∧ tg.1 ≤ 42)) : StR H' g' k sb ss cap bd pwb s := by
  have nV : ∀ tg : Nat × Int, tg.1 = 0 ∨ (20 ≤ tg.1 ∧ tg.1 ≤ 25) → ¬ S tg := fun tg ht hc => by
    rcases hS tg hc with (hc | hc | hc) | hc
    · rw [hc] at ht; simp at ht
    · have := hc.rng.2; omega
    · rw [hc] at ht; simp at ht
    · omega
  refine h.ev ev (nV _ (.inl rfl)) (nV _ (by simp)) (fun tg ht => nV tg (.inr ⟨by have := ht.2.1; omega, ht.2.2⟩)) fun b hb tg ht hc => ?_
  have h1 := ht.rng
  have h2 := hpos b hb
  unfold zO at h1
  rcases hS tg hc with (hc | hc | hc) | hc
  · rw [hc] at h1; simp at h1
  · have h3 := hc.rng.1
    unfold eD at h3
    omega
  · rw [hc] at h1; simp at h1
  · omega

/-- Behind a call of the store. -/
theorem NdR.stCall {s' : StV} {P' : Pw} (hk : 0 ≤ k) (h : NdR H g k nb pwb dvb sb ss ns cap bd n) (ev : Ev (SpN k) H g H' g') (hs : StR H' g' k sb ss cap bd' pwb s') (hp : PwR H' g' k pwb P') (hb : bd ≤ bd') : Ev (SpK k) H g H' g' ∧ NdR H' g' k nb pwb dvb sb ss ns cap bd' ⟨P', n.D, s'⟩ :=
  ⟨ev.mono fun tg h => .inl h, h.nd.ev ev (fun hc => by
    rcases hc with hc | hc | hc
    · have := hc.2.1; simp at this
    · have := hc.1; simp at this
    · have := hc.1; simp at this), hp, (h.dv.store hk ev).mono hb, hs⟩

/-- Behind a call of the device. -/
theorem NdR.dvCall {D' : Pl} {P' : Pw} (hk : 0 ≤ k) (h : NdR H g k nb pwb dvb sb ss ns cap bd n) (hpos : ∀ b ∈ n.s.T, 0 ≤ (n.s.O b).id) (ev : Ev (SpV k) H g H' g') (hs : DvR H' g' k dvb ss ns bd' pwb D') (hp : PwR H' g' k pwb P') (hb : bd ≤ bd') : Ev (SpK k) H g H' g' ∧ NdR H' g' k nb pwb dvb sb ss ns cap bd' ⟨P', D', n.s⟩ :=
  ⟨ev.mono fun tg h => .inr h, h.nd.ev ev (fun hc => by
    rcases hc with hc | hc | hc
    · simp at hc
    · have := hc.rng.2; simp at this
    · simp at hc), hp, hs, (h.st.dev hk hpos ev fun tg h => .inl h).mono hb⟩

theorem f13_ht (h : NdB H g k nb pwb dvb sb) : HT Tryz.prog 13 [.pointer (some ⟨nb, 0, none⟩)] H fun v H' => H' = H ∧ v = .pointer (some ⟨dvb, 0, none⟩) := by
  obtain ⟨h1, nm, a, b, c, h2⟩ := h
  apply f13_of
  exact ⟨nb, 0, rfl, _, Cells.of h2 rfl, rfl, rfl⟩

theorem f17_ht (h : NdB H g k nb pwb dvb sb) : HT Tryz.prog 17 [.pointer (some ⟨nb, 0, none⟩)] H fun v H' => H' = H ∧ v = .pointer (some ⟨sb, 0, none⟩) := by
  obtain ⟨h1, nm, a, b, c, h2⟩ := h
  apply f17_of
  exact ⟨nb, 0, rfl, _, Cells.of h2 rfl, rfl, rfl⟩

theorem f31_ht {P : Pw} (h : NdB H g k nb pwb dvb sb) (hp : PwR H g k pwb P) : HT Tryz.prog 31 [.pointer (some ⟨nb, 0, none⟩)] H fun v H' => H' = H ∧ v = .bool P.down := by
  obtain ⟨h1, nm, a, b, c, h2⟩ := h
  apply f31_of
  exact ⟨nb, 0, rfl, _, Cells.of h2 rfl, (f85_ht hp).mono fun v H1 ⟨he, hv⟩ => ⟨_, hv, he, rfl⟩⟩

theorem f37_ht {P : Pw} (hg : GOk H g) (hG : Gl H g E) (h : NdB H g k nb pwb dvb sb) (hp : PwR H g k pwb P) (m : Int) : HT Tryz.prog 37 [.pointer (some ⟨nb, 0, none⟩), .int .i64 m] H fun v H' => v = (if P.down then E 0 else .nilIface) ∧ Ev (SpW k) H g H' g ∧ PwR H' g k pwb (if P.down then P else Pw.arm m) := by
  obtain ⟨h1, nm, a, b, c, h2⟩ := h
  apply f37_of
  exact ⟨nb, 0, rfl, _, Cells.of h2 rfl, (f89_ht hg hG hp m).mono fun v H1 hv => ⟨_, rfl, hv⟩⟩

/-- The picker that a step's list makes. -/
theorem f41_ht (hg : GOk H g) {p : Option Addr} {m c : Nat} {ys : List Int} (hm : m = ys.length) (hb : m < 2 ^ 30) (hq : 0 < m → ∃ b o, p = some ⟨b, o, none⟩ ∧ Cells H b o (ys.flatMap I64.cs)) :
    HT Tryz.prog 41 [.slice p m c] H fun v H' => ∃ lb g', v = .pointer (some ⟨lb, 0, none⟩) ∧ Ev (fun _ => False) H g H' g' ∧ g' lb = some (31, 0) ∧ ∃ (q : Option Addr) (qc : Nat), H' lb = some (.cells #[.slice q m qc, .int .i64 0] 183 (0, 0)) ∧ ReadL H' 1 I64.cs q m ys ∧ ∀ a, q = some a → g' a.block = some (0, 0) := by
  have hi3 : Tryz.prog.info? 3 = some Tryz.t3 := by kernel_rfl
  apply f41_of
  have hs : OwnL H 3 1 I64.cs none 0 0 [] := OwnL.nil I64.size
  refine appN (H0 := H) (inf := Tryz.t3) (zero := .int .i64 0) (ys := ys) (enc := I64.cs) Tryz.underlying39 hi3 rfl rfl (by decide) rfl hs hm hq (by intro x v hv; simp [I64.cs] at hv; subst hv; rfl) (by omega) (fun b o h => h) (New.none _) fun q qc H1 hsub hnew hown _ => ⟨q, _, qc, rfl, fun lb H2 ha => ?_⟩
  rw [Nat.zero_add] at ha hown
  rw [List.nil_append] at hown
  -- the copy is read only
  have hro : ∃ g1, Ev (fun _ => False) H g H1 g1 ∧ ∀ a, q = some a → g1 a.block = some (0, 0) := by
    rcases hown.own with ⟨h1, _⟩ | ⟨b, o, arr, h1, h2, _⟩
    · exact ⟨g, Ev.sub hg hsub, fun a ha => by rw [h1] at ha; cases ha⟩
    · exact ⟨gset g b (0, 0), Ev.roNew hg hsub (hnew _ h1) h2, fun a ha => by rw [h1] at ha; cases ha; simp [gset]⟩
  obtain ⟨g1, e1, t1⟩ := hro
  obtain ⟨e2, t2⟩ := Ev.al (S := fun _ => False) e1.ok ha (31, 0)
  exact ⟨lb, _, rfl, e1.trans e2, t2, q, qc, ha.same, (ReadL.of hown).sub ha.sub, fun a ha' => e2.tag _ _ (t1 a ha')⟩

/-- What a crash leaves of a node. -/
def ndCrash (ss ns cap : Nat) (n : NdV) (tr : List Ask) (n' : NdV) : Prop :=
  n'.pw = ⟨false, false, 0⟩ ∧ ∃ trD trS, dcrashR ns n.D trD n'.D ∧ crashR ss cap n.s trS n'.s ∧ tr = trD ++ trS

theorem f40l_ht {N lb : Nat} {q : Option Addr} {m qc : Nat} {ys : List Int} {T : TypeId} (hk : 0 ≤ k ∧ k < 3) (hg : GOk H g) (h : NdR H g k nb pwb dvb sb ss ns cap bd n) (hI : StI ss cap N n.s) (hbd : bd < 2 ^ 31) (tl : g lb = some (31, 0)) (hl : H lb = some (.cells #[.slice q m qc, .int .i64 0] T (0, 0))) (hm : m < 2 ^ 32) (hr : ReadL H 1 I64.cs q m ys) (hq : ∀ a, q = some a → g a.block = some (0, 0)) :
    HT Tryz.prog 40 [.pointer (some ⟨nb, 0, none⟩), .iface 94 (.pointer (some ⟨lb, 0, none⟩))] H fun v H' => ∃ (n' : NdV) (g' : Gh) (tr : List Ask) (a b c : Int), v = .agg #[.int .i64 a, .int .i64 b, .int .i64 c] ∧ Ev (SpK k) H g H' g' ∧ NdR H' g' k nb pwb dvb sb ss ns cap bd n' ∧ ndCrash ss ns cap n tr n' := by
  have hl' := hI.len
  have hpos : ∀ b ∈ n.s.T, 0 ≤ (n.s.O b).id := fun b hb => by have := (hI.idp b hb).1; omega
  apply f40l_of
  intro _ tb H1 ha
  obtain ⟨e1, t1⟩ := Ev.al (S := fun _ => False) hg ha (30, 0)
  have N1 := h.off e1 none_offN
  have hP : Picker tb (PkL tb lb) := pkl_picker
  have pk1 : PkL tb lb [] H1 _ := ⟨t1, e1.tag _ _ tl, ⟨0, 0, 0, ha.same⟩, q, m, qc, 0, ys, T, ha.keep hl, Nat.zero_le _, hm, hr.sub ha.sub, fun a haa => e1.tag _ _ (hq a haa)⟩
  obtain ⟨nm, a, b, c, nb1⟩ := N1.nd.2
  refine ⟨nb, 0, rfl, _, Cells.of nb1 rfl, ?_⟩
  refine (f95_ht e1.ok N1.pw).mono fun v H2 ⟨hv2, e2, p2⟩ => ⟨hv2, ?_⟩
  have e2W : OffD (SpW k) := SpW.offD
  have d2 := N1.dv.off e2 SpW.offD
  have s2 := N1.st.off e2 SpW.off
  have nd2 := N1.nd.ev e2 (fun hc => by cases hc)
  have pk2 := hP.ev _ _ _ _ _ _ pk1 e2 (fun tg ht hs => by rw [hs] at ht; have := ht.1; simp at this) SpW.zero
  obtain ⟨nm2, a2, b2, c2, nb2⟩ := nd2.2
  refine ⟨nb, 0, rfl, _, Cells.of nb2 rfl, ?_⟩
  refine (f96_ht hP (by decide) e2.ok d2 hbd pk2).mono fun v H3 ⟨D', g3, trD, hv3, e3, d3, hdc, pk3⟩ => ⟨hv3, ?_⟩
  have hS3 : ∀ tg, (SpV k tg ∧ tg.1 ≠ 26 ∨ Spk tg) → SpV k tg ∨ (30 ≤ tg.1 ∧ tg.1 ≤ 42) := fun tg ht => ht.elim (fun h => .inl h.1) fun h => .inr ⟨h.1, by have := h.2; omega⟩
  have s3 := s2.dev hk.1 hpos e3 hS3
  have n28 : ¬ (SpV k (28, k) ∧ (28 : Nat) ≠ 26 ∨ Spk (28, k)) := fun hc => by
    rcases hc with ⟨hc | hc | hc, _⟩ | hc
    · simp at hc
    · have := hc.rng.2; simp at this
    · simp at hc
    · have := hc.1; simp at this
  have nd3 := nd2.ev e3 n28
  have p3 := p2.ev e3 (fun hc => by
    rcases hc with ⟨_, hc⟩ | hc
    · exact hc rfl
    · have := hc.1; simp at this)
  obtain ⟨nm3, a3, b3, c3, nb3⟩ := nd3.2
  refine ⟨nb, 0, rfl, _, Cells.of nb3 rfl, ?_⟩
  have hns : ns ≤ 12 := by obtain ⟨_, _, _, hpl⟩ := d2.ex; exact hpl.nsb
  refine (f97_ht hP (by rw [List.nil_append]; have := hdc.len; omega) e3.ok s3 (hI.toN hbd) (by omega) (fun i x b hx => hI.heldT b (hI.back i x b hx)) (fun i x hx => hI.names i x hx) hI.namesB pk3).mono fun v H4 ⟨s', g4, trS, hv4, e4, s4, hsc, pk4⟩ => ⟨hv4, ?_⟩
  have e4N : Ev (SpN k) H3 g3 H4 g4 := e4.mono fun tg h => h.le
  have d4 := d3.store hk.1 e4N
  have nd4 := nd3.ev e4N (fun hc => by
    rcases hc with hc | hc | hc
    · have := hc.2.1; simp at this
    · have := hc.1; simp at this
    · have := hc.1; simp at this)
  have p4 := p3.in e4
  obtain ⟨nm4, a4, b4, c4, nb4⟩ := nd4.2
  refine ⟨nb, 0, rfl, _, Cells.of nb4 rfl, ?_⟩
  refine (f98_ht e4.ok p4).mono fun v H5 ⟨hv5, e5, p5⟩ => ⟨hv5, ?_⟩
  have d5 := d4.off e5 SpW.offD
  have s5 := s4.off e5 SpW.off
  have nd5 := nd4.ev e5 (fun hc => by cases hc)
  have pk5 := hP.ev _ _ _ _ _ _ pk4 e5 (fun tg ht hs => by rw [hs] at ht; have := ht.1; simp at this) SpW.zero
  obtain ⟨_, _, ⟨x1, x2, x3, ht5⟩, _⟩ := pk5
  have eW : ∀ {G G' : Heap} {q q' : Gh}, Ev (SpW k) G q G' q' → Ev (SpK k) G q G' q' := fun e => e.mono fun tg h => .inl (SpN.pw h)
  refine ⟨x1, x2, x3, Cells.of ht5 rfl, ⟨⟨false, false, 0⟩, D', s'⟩, g4, trD ++ trS, x1, x2, x3, rfl, ((((e1.mono fun tg h => h.elim).trans (eW e2)).trans (e3.mono fun tg h => ?_)).trans (e4N.mono fun tg h => .inl h)).trans (eW e5), ⟨nd5, p5, d5, s5⟩, rfl, trD, trS, hdc, hsc, rfl⟩
  rcases h with h | h
  · exact .inr h.1
  · exact .inl (SpN.pick h)

end

end Go.Proofs.Qxb6500695aGreatFmt
