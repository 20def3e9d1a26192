/-
  OBJECTS, PART C: settle.
-/
import Derived.Test.Qxb6500695aGreatFmtYb
namespace Go.Proofs.Qxb6500695aGreatFmt
open Go Go.Eng Go.Proofs
set_option maxRecDepth 100000
set_option linter.unusedVariables false
set_option linter.unusedSimpArgs false
set_option linter.unusedSectionVars false

/-- The size that a crash leaves, by the choice. -/
def Ob.pickSize (o : Ob) (k : Nat) : Nat := if k = 0 then o.stable else (o.sizes[k - 1]?).getD o.stable

def SpOS (z : Int) (tg : Nat × Int) : Prop := SpO z tg ∨ Spk tg

def sizeAsk (o : Ob) (k : Nat) : List Ask := if o.sizes = [] then [] else [((2, o.id, 0), o.sizes.length, k)]

/-- What a crash leaves of an object. -/
def obPost (H0 : Heap) (g0 : Gh) (z : Int) (ob ss ns bd : Nat) (o : Ob) (Pk : List Ask → Heap → Gh → Prop) (tr : List Ask) (v : Value) (H' : Heap) : Prop :=
  ∃ (g' : Gh) (P' : Pl) (k : Nat) (ch : Int → Nat) (ks : List Int), v = .tuple #[] ∧ Ev (SpOS z) H0 g0 H' g' ∧ k ≤ o.sizes.length ∧
    ObS H' g' z ob ss ns bd { o with size := o.pickSize k, stable := o.pickSize k, sizes := [], res := sect ss (o.pickSize k), pl := P' } ∧ P'.clean ∧ Dirty o.pl ns ks ∧ (∀ i, ch i ≤ (o.pl.cache i).length) ∧ (∀ i, i ∉ ks → ch i = 0) ∧
    (∀ i, P'.dur i = cutV ss (o.pickSize k) i (settled o.pl ch i)) ∧ Pk (tr ++ sizeAsk o k ++ ks.map fun i => ((3, o.id, i), (o.pl.cache i).length, ch i)) H' g'

section
variable {H : Heap} {g : Gh} {z : Int} {ob ss ns bd tb : Nat} {o : Ob} {Pk : List Ask → Heap → Gh → Prop}

theorem pickSize_le {H : Heap} {g : Gh} (h : ObS H g z ob ss ns bd o) (k : Nat) : o.pickSize k ≤ ns * ss := by
  unfold Ob.pickSize
  split
  · exact h.fit.2.1
  · cases hx : o.sizes[k - 1]? with
    | none => exact h.fit.2.1
    | some s => exact h.fit.2.2 s (List.mem_of_getElem? hx)

theorem Spk.nO {tg : Nat × Int} (h : SpO z tg) : ¬ Spk tg := by
  rcases h with h | h | h
  · intro k; have := k.1; rw [h] at this; simp at this
  · intro k; have := k.1; rw [h] at this; simp at this
  · exact Spk.nP h

theorem sizeAsk_len {o : Ob} {k : Nat} : (sizeAsk o k).length ≤ 1 := by
  unfold sizeAsk
  split <;> simp

theorem f146_L1_ht (hP : Picker tb Pk) {H0 : Heap} {g0 : Gh} {b2 b3 : Nat} (hbd : bd < 2 ^ 32) {k : Nat} (hk : k ≤ o.sizes.length) {tr : List Ask} (htr : tr.length < 2 ^ 39) {sp : Option Addr} {sn sc : Nat}
    (hE : Ev (SpOS z) H0 g0 H g) (h0 : ObS H0 g0 z ob ss ns bd o) (t2 : g b2 = some (40, 0)) (t3 : g b3 = some (40, 0)) (q2 : H b2 = some (.cells #[.pointer (some ⟨ob, 0, none⟩)] 152 (0, 0))) (q3 : H b3 = some (.cells #[.iface 178 (.pointer (some ⟨tb, 0, none⟩))] 140 (0, 0)))
    (hblk : H ob = some (.cells #[.int .u64 o.id, .pointer (some ⟨o.pb, 0, none⟩), .int .i64 (o.size : Int), .int .i64 (o.pickSize k : Int), .slice sp sn sc, .int .i64 (o.res : Int)] 166 (0, 0)))
    (tob : g ob = some (11, z)) (hpl : PlOk H g z o.pb ss ns bd o.pl) (hpk : Pk (tr ++ sizeAsk o k) H g) : f146_L1 b2 b3 H (obPost H0 g0 z ob ss ns bd o Pk tr) := by
  have hss := hpl.ssb
  have hnb := hpl.nsb
  have hmul : ns * ss ≤ 256 := Nat.le_trans (Nat.mul_le_mul hnb hss.2) (by decide)
  have hst := pickSize_le h0 k
  have hsle := sect_le hss.1 hst
  generalize hstv : o.pickSize k = st at *
  have S11 : ∀ {G G' : Heap} {q : Gh} {ob' : Obj}, q ob = some (11, z) → GOk G q → Wr G ob ob' G' → Ev (fun tg => tg = (11, z)) G q G' q := fun ht hG hw => Ev.wr hG hw fun tg htg => by rw [ht] at htg; cases htg; rfl
  have n40 : ¬ ((fun tg => tg = ((11 : Nat), z)) (40, 0)) := fun h => by cases h
  apply f146_L1_of
  refine ⟨_, Cells.of q2 rfl, ob, 0, rfl, _, _, hblk, by simp, fun H1 hw1 => ?_⟩
  have hw1' : Wr H ob (.cells #[.int .u64 o.id, .pointer (some ⟨o.pb, 0, none⟩), .int .i64 (o.size : Int), .int .i64 (st : Int), .slice none 0 0, .int .i64 (o.res : Int)] 166 (0, 0)) H1 := hw1
  have e1 := S11 tob hE.ok hw1'
  have q21 := e1.get t2 n40 q2
  refine ⟨_, Cells.of q21 rfl, _, Cells.of q21 rfl, ob, 0, rfl, _, Cells.of hw1'.same rfl, ob, 0, rfl, _, _, hw1'.same, by simp, fun H2 hw2 => ?_⟩
  have hw2' : Wr H1 ob (.cells #[.int .u64 o.id, .pointer (some ⟨o.pb, 0, none⟩), .int .i64 (st : Int), .int .i64 (st : Int), .slice none 0 0, .int .i64 (o.res : Int)] 166 (0, 0)) H2 := hw2
  have e2 := S11 tob e1.ok hw2'
  have e12 := e1.trans e2
  have q22 := e12.get t2 n40 q2
  have q32 := e12.get t3 n40 q3
  have p2 := hpl.ev e12 (fun h => by cases h) fun _ ht => SpO.n11P ht
  have hpk2 := hP.ev _ _ _ _ _ _ hpk e12 (fun tg ht hs => by rw [hs] at ht; exact Spk.n11 ht) (fun h => by cases h)
  refine ⟨_, Cells.of q22 rfl, ob, 0, rfl, _, Cells.of hw2'.same rfl, ?_⟩
  refine (f142b_ht (InvO.ev hP (cap := b2) (cap2 := b3) (ob := ob) (oid := o.id) (z := z) (tr0 := tr ++ sizeAsk o k)) (f188_ht hP (by rw [List.length_append]; have := sizeAsk_len (o := o) (k := k); omega)) e12.ok p2 hbd (tr0 := []) (by decide) ⟨e12.ok, t2, q22, t3, q32, tob, Cells.of hw2'.same rfl, by simpa using hpk2⟩).mono fun v H3 ⟨g3, P3, ch, ks, hv3, e3, p3, hc3, hD, hch, hz, hd3, hI3⟩ => ⟨hv3, ?_⟩
  obtain ⟨_, t23, q23, t33, q33, tob3, _, hpk3⟩ := hI3
  have nS11 : ¬ SpS z (11, z) := fun h => by
    rcases h with h | h
    · exact SpP.n11 h
    · exact Spk.n11 h
  have hblk3 := e3.get tob nS11 hw2'.same
  refine ⟨_, Cells.of q23 rfl, ob, 0, rfl, _, Cells.of hblk3 rfl, _, Cells.of q23 rfl, ob, 0, rfl, _, Cells.of hblk3 rfl, ?_⟩
  refine (f185_ht e3.ok p3 (size := st) hst).mono fun v H4 ⟨g4, P4, hv4, e4, p4, hc4, hd4⟩ => ⟨hv4, ?_⟩
  have nM : ∀ {w : Int}, ¬ SpM z (40, w) := fun h => SpP.n40 h.le
  have nM11 : ¬ SpM z (11, z) := fun h => SpP.n11 h.le
  have q24 := e4.get t23 nM q23
  have hblk4 := e4.get tob3 nM11 hblk3
  obtain ⟨mp, mn, mc, r, hpl4⟩ := p4.pln
  refine ⟨Cells.of q24 rfl, Cells.of q24 rfl, _, Cells.of q24 rfl, _, Cells.of q24 rfl, ob, 0, rfl, _, Cells.of hblk4 rfl, _, Cells.of q24 rfl, ob, 0, rfl, _, Cells.of hblk4 rfl, o.pb, 0, rfl, _, Cells.of hpl4 rfl, ?_⟩
  refine (f176_ht hss (by omega)).mono fun v H5 ⟨he5, hv5⟩ => ⟨_, hv5, ?_⟩
  subst he5
  refine ⟨Cells.of hblk4 rfl, Cells.of q24 rfl, Cells.of q24 rfl, Cells.of q24 rfl, ob, 0, rfl, _, _, hblk4, by simp, fun H6 hw6 => ?_⟩
  have hw6' : Wr H5 ob (.cells #[.int .u64 o.id, .pointer (some ⟨o.pb, 0, none⟩), .int .i64 (st : Int), .int .i64 (st : Int), .slice none 0 0, .int .i64 (sect ss st : Int)] 166 (0, 0)) H6 := hw6
  have t4 := e4.tag _ _ tob3
  have e6 := S11 t4 e4.ok hw6'
  have hE6 : Ev (SpOS z) H0 g0 H6 g4 := ((((hE.trans (e12.mono fun tg ht => .inl (.inl ht)))).trans (e3.mono fun tg ht => ht.elim (fun h => .inl (.inr (.inr h))) .inr)).trans (e4.mono fun tg ht => .inl (.inr (.inr ht.le)))).trans (e6.mono fun tg ht => .inl (.inl ht))
  refine ⟨g4, P4, k, ch, ks, rfl, hE6, hk, ?_, fun i => ?_, hD, hch, hz, fun i => ?_, ?_⟩
  · rw [hstv]
    exact ⟨e6.tag _ _ t4, ⟨none, 0, 0, hw6'.same, OwnT.nil I64.size⟩, p4.ev e6 (fun h => by cases h) fun _ ht => SpO.n11P ht, Nat.zero_le _, ⟨hst, hst, by simp⟩, hsle⟩
  · rw [hc4]; exact hc3 i
  · rw [hstv, hd4, hd3]
  · have h7 := hP.ev _ _ _ _ _ _ hpk3 e4 (fun tg ht hs => Spk.nP hs.le ht) (fun h => SpP.zero h.le)
    have h8 := hP.ev _ _ _ _ _ _ h7 e6 (fun tg ht hs => by rw [hs] at ht; exact Spk.n11 ht) (fun h => by cases h)
    rw [List.nil_append, List.map_map] at h8
    exact h8

theorem f146_ht (hP : Picker tb Pk) (hg : GOk H g) (h : ObS H g z ob ss ns bd o) (hbd : bd < 2 ^ 32) {tr : List Ask} (htr : tr.length < 2 ^ 39) (hpk : Pk tr H g) :
    HT Tryz.prog 146 [.pointer (some ⟨ob, 0, none⟩), .iface 178 (.pointer (some ⟨tb, 0, none⟩))] H (obPost H g z ob ss ns bd o Pk tr) := by
  obtain ⟨sp, sn, sc, h1, h2⟩ := h.ex
  have hlen := h2.own.len
  have hnb := h.nb
  simp at hlen
  apply f146_of
  intro b2 H1 ha1 b3 H2 ha2
  obtain ⟨e1, t1⟩ := Ev.al (S := fun _ => False) hg ha1 (40, 0)
  obtain ⟨e2, t2⟩ := Ev.al (S := fun _ => False) e1.ok ha2 (40, 0)
  have e12 := e1.trans e2
  have t12 := e2.tag _ _ t1
  have q2 : H2 b2 = some (.cells #[.pointer (some ⟨ob, 0, none⟩)] 152 (0, 0)) := ha2.keep ha1.same
  have hO := h.ev e12 (fun h => h) fun _ _ h => h
  have hpk2 := hP.ev _ _ _ _ _ _ hpk e12 (fun _ _ h => h) (fun h => h)
  have h12 := e12.get h.tag (fun h => h) h1
  have E0 : Ev (SpOS z) H g H2 _ := e12.mono fun _ h => h.elim
  refine ⟨_, Cells.of q2 rfl, ob, 0, rfl, _, _, _, Cells.of h12 rfl, fun hd => ?_, fun hd => ?_⟩
  · have hd := of_decide_eq_true hd
    have hne : o.sizes ≠ [] := by intro hx; rw [hx] at hlen; simp at hlen; omega
    refine ⟨_, Cells.of q2 rfl, ob, 0, rfl, _, Cells.of h12 rfl, fun _ => ⟨_, Cells.of ha2.same rfl, ?_⟩⟩
    refine (hP.pick _ (by omega) H2 _ e12.ok hpk2 2 o.id 0 sn (by omega) (by omega)).mono fun v H3 ⟨k, g3, hv3, hk3, e3, hpk3⟩ => ⟨_, hv3, ?_⟩
    refine (f144_ht (k : Int) (by omega)).mono fun v H4 ⟨he4, k4, hv4, hk4, heq⟩ => ⟨_, hv4, ?_⟩
    subst he4
    have : k4 = k := by have := heq (by omega) (by omega); omega
    subst this
    have hask : tr ++ [((2, o.id, 0), sn, k4)] = tr ++ sizeAsk o k4 := by
      unfold sizeAsk
      rw [if_neg hne, hlen]
    rw [hask] at hpk3
    have E3 : Ev (SpOS z) H g H4 g3 := E0.trans (e3.mono fun _ h => .inr h)
    have q23 := e3.get t12 Spk.n40 q2
    have q33 := e3.get t2 Spk.n40 ha2.same
    have hO3 := hO.ev e3 Spk.n0 fun tg ht => Spk.nO ht
    have h13 := e3.get (e12.tag _ _ h.tag) Spk.n11 h12
    refine ⟨fun hpos => ?_, fun hpos => ?_⟩
    · have hpos := of_decide_eq_true hpos
      have hwk : IntKind.wrap .i64 ((k4 : Int) - 1) = ((k4 - 1 : Nat) : Int) := by rw [wrapI] <;> omega
      have o2 := (h2.ev e12 (fun h => h)).ev e3 (fun h => by have := h.1; simp at this)
      obtain ⟨b, oo, hp, hc⟩ := o2.own.cells (i := k4 - 1) (by simp; omega)
      have hki : k4 - 1 < o.sizes.length := by omega
      have hst : o.pickSize k4 = o.sizes[k4 - 1] := by
        unfold Ob.pickSize
        rw [if_neg (by omega), List.getElem?_eq_getElem hki]
        rfl
      have hc' : Cells H4 b (oo + (k4 - 1) * 1) [.int .i64 (o.pickSize k4 : Int)] := by
        rw [hst]
        simpa [I64.cs, nI] using hc
      rw [hwk]
      refine ⟨_, Cells.of q23 rfl, _, Cells.of q23 rfl, ob, 0, rfl, _, _, _, Cells.of h13 rfl, b, oo, hp, by omega, by omega, (o.pickSize k4 : Int), by simpa using hc', ob, 0, rfl, _, _, h13, by simp, fun H5 hw5 => ?_⟩
      have hw5' : Wr H4 ob (.cells #[.int .u64 o.id, .pointer (some ⟨o.pb, 0, none⟩), .int .i64 (o.size : Int), .int .i64 (o.pickSize k4 : Int), .slice sp sn sc, .int .i64 (o.res : Int)] 166 (0, 0)) H5 := hw5
      have tob := e3.tag _ _ (e12.tag _ _ h.tag)
      have e5 : Ev (fun tg => tg = (11, z)) H4 g3 H5 g3 := Ev.wr e3.ok hw5' fun tg htg => by rw [tob] at htg; cases htg; rfl
      exact f146_L1_ht hP hbd (k := k4) (by omega) htr (E3.trans (e5.mono fun tg ht => .inl (.inl ht))) h (e3.tag _ _ t12) (e3.tag _ _ t2) (e5.get (e3.tag _ _ t12) (fun h => by cases h) q23) (e5.get (e3.tag _ _ t2) (fun h => by cases h) q33) hw5'.same tob
        (hO3.pl.ev e5 (fun h => by cases h) fun _ ht => SpO.n11P ht) (hP.ev _ _ _ _ _ _ hpk3 e5 (fun tg ht hs => by rw [hs] at ht; exact Spk.n11 ht) (fun h => by cases h))
    · have hpos := of_decide_eq_false hpos
      have hk0 : k4 = 0 := by omega
      subst hk0
      have hst : o.pickSize 0 = o.stable := by unfold Ob.pickSize; rw [if_pos rfl]
      exact f146_L1_ht hP hbd (k := 0) (by omega) htr E3 h (e3.tag _ _ t12) (e3.tag _ _ t2) q23 q33 (by rw [hst]; exact h13) (e3.tag _ _ (e12.tag _ _ h.tag)) hO3.pl hpk3
  · have hd := of_decide_eq_false hd
    have hs0 : o.sizes = [] := List.eq_nil_of_length_eq_zero (by omega)
    have hst : o.pickSize 0 = o.stable := by unfold Ob.pickSize; rw [if_pos rfl]
    have hask : tr ++ sizeAsk o 0 = tr := by unfold sizeAsk; rw [if_pos hs0]; simp
    exact f146_L1_ht hP hbd (k := 0) (by omega) htr E0 h t12 t2 q2 ha2.same (by rw [hst]; exact h12) (e12.tag _ _ h.tag) hO.pl (by rw [hask]; exact hpk2)

end

end Go.Proofs.Qxb6500695aGreatFmt
