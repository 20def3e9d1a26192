/-
  THE STORE, PART H: what a crash leaves of it.
-/
import Derived.Test.Qxb6500695aGreatFmtSg
namespace Go.Proofs.Qxb6500695aGreatFmt
open Go Go.Eng Go.Proofs
set_option maxRecDepth 100000
set_option linter.unusedVariables false
set_option linter.unusedSimpArgs false
set_option linter.unusedSectionVars false

def dirAsk (jr : List Jr) (kp : Nat) : List Ask := if jr = [] then [] else [((1, 0, 0), jr.length, kp)]

def crash1 (s : StV) (kp : Nat) (ys : List ByteArray) : StV := { s with used := 0, m := redoN (s.jr.take kp) s.st, xs := ys, st := redoN (s.jr.take kp) s.st, jr := [] }

theorem dirAsk_len (jr : List Jr) (kp : Nat) : (dirAsk jr kp).length ≤ 1 := by
  unfold dirAsk
  split <;> simp

theorem SetAll.len {ss ns : Nat} {s s' : StV} {bs : List Nat} {tr : List Ask} (h : SetAll ss ns s bs tr s') : tr.length ≤ (ns + 1) * bs.length := by
  induction h using SetAll.ind with
  | nil => simp
  | snoc h1 h2 ih =>
    rename_i bs tr s1 b kk ch ks P'
    have h3 := sizeAsk_len (o := s1.O b) (k := kk)
    have h4 := h2.2.2.1.2.1
    unfold setAsk
    simp only [List.length_append, List.length_map, List.length_cons, List.length_nil, Nat.mul_add, Nat.mul_one]
    omega

/-- What a crash leaves of a store. -/
def crashR (ss cap : Nat) (s : StV) (tr1 : List Ask) (s' : StV) : Prop :=
  ∃ kp ys tr2, kp ≤ s.jr.length ∧ Srt ys ∧ (∀ x, x ∈ ys ↔ redoN (s.jr.take kp) s.st x ≠ none) ∧ SetAll ss cap (crash1 s kp ys) (ys.filterMap (redoN (s.jr.take kp) s.st)) tr2 s' ∧ tr1 = dirAsk s.jr kp ++ tr2

section
variable {S : Nat × Int → Prop} {H H' : Heap} {g g' : Gh} {k : Int} {sb ss cap bd pwb tb : Nat} {s : StV} {E : Nat → Value} {P : Pw} {Pk : List Ask → Heap → Gh → Prop}

def setlR (H0 : Heap) (g0 : Gh) (k : Int) (sb ss cap bd pwb : Nat) (s : StV) (Pk : List Ask → Heap → Gh → Prop) (tr : List Ask) (v : Value) (H' : Heap) : Prop :=
  ∃ s' g' tr1, v = .tuple #[] ∧ Ev (SpI k) H0 g0 H' g' ∧ StR H' g' k sb ss cap bd pwb s' ∧ crashR ss cap s tr1 s' ∧ Pk (tr ++ tr1) H' g'

theorem f97_L1_ht (hP : Picker tb Pk) {H0 : Heap} {g0 : Gh} {kp : Nat} {tr : List Ask} (htr : tr.length < 2 ^ 30) (hE : Ev (SpI k) H0 g0 H g) (h : StR H g k sb ss cap bd pwb s) (hN : StN ss cap bd s) (hkp : kp ≤ s.jr.length) (hj : s.jr.length < 2 ^ 31) (hmT : ∀ x b, redoN (s.jr.take kp) s.st x = some b → b ∈ s.T)
    {L : List ByteArray} (hL : ∀ x, redoN (s.jr.take kp) s.st x ≠ none → x ∈ L) (hLb : L.length < 2 ^ 30) (hpk : Pk (tr ++ dirAsk s.jr kp) H g) :
    f97_L1 (some ⟨sb, 0, none⟩) (some ⟨tb, 0, none⟩) (kp : Int) H (setlR H0 g0 k sb ss cap bd pwb s Pk tr) := by
  obtain ⟨db, q, k1, d1⟩ := h.ex
  have hbdl := hN.bd
  have hcl := hN.shp.2.2
  apply f97_L1_of
  refine ⟨sb, 0, rfl, _, Cells.of k1 rfl, ?_⟩
  refine (f145_ht hE.ok d1 hkp (by omega) hL hLb).mono fun v H1 ⟨ys, g1, hv1, e1, dd1, hsrt, hmem⟩ => ⟨hv1, ?_⟩
  have hS : ∀ tg, SpT k tg → SpD k tg ∨ (40 ≤ tg.1 ∧ tg.1 ≤ 42) := fun tg ht => ht.elim .inl fun hx => .inr (by rw [hx]; simp)
  have e1I : Ev (SpI k) H g H1 g1 := e1.mono fun tg ht => by
    rcases ht with ht | ht
    · exact SpI.dir ht
    · rw [ht]; exact ⟨.inr (.inr ⟨by simp, by simp⟩), by simp⟩
  have r1 := h.dir k1 e1 hS dd1
  have k11 := e1.get h.tag (fun hc => by
    rcases hS _ hc with hx | hx
    · exact absurd hx.2.1 (by simp)
    · simp at hx) k1
  have hpk1 := hP.ev _ _ _ _ _ _ hpk e1 (fun tg ht hs => by
    rcases hS _ hs with hx | hx
    · have := ht.1; have := hx.2.2; omega
    · have := ht.2; omega) (fun hs => by
    rcases hS _ hs with hx | hx
    · exact SpD.zero hx
    · simp at hx)
  refine ⟨sb, 0, rfl, _, _, k11, by simp, fun H2 hw2 => ?_⟩
  obtain ⟨e2, r2⟩ := r1.own (used' := 0) (nxt' := s.nxt) (q' := q) e1.ok dd1 hw2 rfl
  have k2 : H2 sb = some (stB ss cap 0 s.nxt db pwb q) := hw2.same
  have dd2 := dd1.ev e2 fun tg ht hc => by rw [hc] at ht; have := ht.2.1; simp at this
  have hpk2 := hP.ev _ _ _ _ _ _ hpk1 e2 (fun tg ht hs => by rw [hs] at ht; have := ht.1; simp at this) (fun hs => by cases hs)
  obtain ⟨lr, op, on, oc, sr, jp, jn, jc, h1, h2, h3, h4, h5, h6, h7⟩ := dd2.ex
  have hlen := h4.own.len
  have hys : ys.length < 2 ^ 30 := by
    have hnd : ys.Nodup := hsrt.nodup
    have := len_le hnd fun x hx => hL x ((hmem x).1 hx)
    omega
  refine ⟨sb, 0, rfl, _, Cells.of k2 rfl, db, 0, rfl, op, on, oc, Cells.of h1 rfl, ?_⟩
  have loop : ∀ (d i : Nat) (G : Heap) (gg : Gh) (s' : StV) (tr2 : List Ask), ys.length - i = d → i ≤ ys.length → SetAll ss cap (crash1 s kp ys) ((ys.take i).filterMap (redoN (s.jr.take kp) s.st)) tr2 s' → Ev (SpI k) H0 g0 G gg → StR G gg k sb ss cap bd pwb s' → Pk (tr ++ dirAsk s.jr kp ++ tr2) G gg →
      OwnT G gg (23, k) 9 1 Str.cs op on oc ys → (0 ≤ s'.used ∧ s'.used ≤ 12 * (i : Int)) →
      f97_L2 (some ⟨sb, 0, none⟩) (some ⟨tb, 0, none⟩) op on oc (on : Int) (i : Int) G (setlR H0 g0 k sb ss cap bd pwb s Pk tr) := by
    intro d
    induction d with
    | zero =>
      intro i G gg s' tr2 hd hi hsa hE' hR hpk' hord hub
      have hil : i = ys.length := by omega
      subst hil
      rw [List.take_length] at hsa
      apply f97_L2_of
      refine ⟨fun hx => by have := of_decide_eq_true hx; omega, fun _ => ?_⟩
      obtain ⟨db', q', kk, dd⟩ := hR.ex
      refine ⟨sb, 0, rfl, _, Cells.of kk rfl, sb, 0, rfl, _, _, kk, by simp, fun G1 hw1 => ?_⟩
      obtain ⟨e3, r3⟩ := hR.own (used' := s'.used) (nxt' := s'.nxt) (q' := { q' with i := IntKind.wrap .u64 (q'.i + 1) }) hE'.ok dd hw1 rfl
      have hpk3 := hP.ev _ _ _ _ _ _ hpk' e3 (fun tg ht hs => by rw [hs] at ht; have := ht.1; simp at this) (fun hs => by cases hs)
      exact ⟨s', gg, dirAsk s.jr kp ++ tr2, rfl, hE'.trans (e3.mono fun tg h => SpI.st h), r3, ⟨kp, ys, tr2, hkp, hsrt, hmem, hsa, rfl⟩, by rw [← List.append_assoc]; exact hpk3⟩
    | succ d ih =>
      intro i G gg s' tr2 hd hi hsa hE' hR hpk' hord hub
      have hil : i < ys.length := by omega
      obtain ⟨a1, a2, a3, a4, a5, a6, a7⟩ := hsa.same
      apply f97_L2_of
      refine ⟨fun _ => ?_, fun hx => by have := of_decide_eq_false hx; omega⟩
      obtain ⟨b', o', hp, hc⟩ := hord.own.cells (i := i) hil
      obtain ⟨db', q', kk, dd⟩ := hR.ex
      obtain ⟨lr', op', on', oc', sr', jp', jn', jc', g1', g2', g3', g4', g5', g6', g7'⟩ := dd.ex
      have hmx : redoN (s.jr.take kp) s.st ys[i] ≠ none := (hmem _).1 (List.getElem_mem hil)
      obtain ⟨b, hb⟩ : ∃ b, redoN (s.jr.take kp) s.st ys[i] = some b := by
        cases hx : redoN (s.jr.take kp) s.st ys[i] with
        | none => exact absurd hx hmx
        | some b => exact ⟨b, rfl⟩
      obtain ⟨es', ck', hr', hl'⟩ := g3'.look ys[i]
      have hm' : s'.m ys[i] = some b := by rw [a2]; exact hb
      rw [hm'] at hl'
      have hbT : b ∈ s'.T := by rw [a1]; exact hmT _ _ hb
      have hO := hR.obs b hbT
      have hids := ids_same (s' := s') (s := crash1 s kp ys) hN.ids a1 a7
      have hpos : 0 ≤ (s'.O b).id := by rw [a7]; exact hN.pos b (hmT _ _ hb)
      refine ⟨b', o', hp, by omega, by omega, ys[i], by simpa [Str.cs] using hc, sb, 0, rfl, _, Cells.of kk rfl, db', 0, rfl, _, Cells.of g1' rfl, lr', es', ck', rfl, hr', _, hl', ?_⟩
      have hlen' : (tr ++ dirAsk s.jr kp ++ tr2).length < 2 ^ 39 := by
        rw [List.length_append, List.length_append]
        have q1 := dirAsk_len s.jr kp
        have q2 := hsa.len
        have q3 : ((ys.take i).filterMap (redoN (s.jr.take kp) s.st)).length ≤ 2 ^ 30 := by
          have := List.length_filterMap_le (redoN (s.jr.take kp) s.st) (ys.take i)
          rw [List.length_take] at this
          omega
        have q4 : (cap + 1) * ((ys.take i).filterMap (redoN (s.jr.take kp) s.st)).length ≤ 13 * 2 ^ 30 := Nat.mul_le_mul (by omega) q3
        omega
      refine (f146_ht hP hE'.ok hO (by omega) hlen' hpk').mono fun v G1 ⟨gg1, P', kk', ch, ks, hv1', e1', hkl, O1, hcl', hdirty, hch, hchz, hdur, hpk1'⟩ => ⟨hv1', ?_⟩
      have r1' := hR.obj (b := b) (bd' := bd) hids hbT e1' (fun tg ht => by
        rcases ht with ht | ht
        · exact .inl ht
        · exact .inr (.inl ht)) O1 rfl (Nat.le_refl _)
      have eI : Ev (SpI k) G gg G1 gg1 := e1'.mono fun tg ht => by
        rcases ht with ht | ht
        · exact SpI.obj hpos ht
        · exact SpI.pick ht
      have n20 : ¬ SpOS (zO k (s'.O b).id) (20, k) := fun hc => by
        rcases hc with hc | hc
        · have := hc.rng.2; simp at this
        · have := hc.1; simp at this
      have kk1 := e1'.get hR.tag n20 kk
      have dd1' := dd.ev e1' fun tg ht hc => by
        have h3 := ht.2
        rcases hc with hc | hc
        · have := hc.rng.2; omega
        · have := hc.1; omega
      obtain ⟨sp, sn, sc, oo, _⟩ := O1.ex
      have hsl : sect ss ((s'.O b).pickSize kk') ≤ cap := O1.rb
      refine ⟨sb, 0, rfl, _, Cells.of kk1 rfl, b, 0, rfl, _, Cells.of oo rfl, sb, 0, rfl, _, _, kk1, by simp, fun G2 hw2' => ?_⟩
      have hwu : IntKind.wrap .i64 (s'.used + (sect ss ((s'.O b).pickSize kk') : Int)) = s'.used + (sect ss ((s'.O b).pickSize kk') : Int) := by rw [wrapI] <;> omega
      obtain ⟨e2', r2'⟩ := r1'.own (used' := s'.used + (sect ss ((s'.O b).pickSize kk') : Int)) (nxt' := s'.nxt) (q' := q') e1'.ok dd1' hw2' (by rw [hwu]; rfl)
      have hpk2' := hP.ev _ _ _ _ _ _ hpk1' e2' (fun tg ht hs => by rw [hs] at ht; have := ht.1; simp at this) (fun hs => by cases hs)
      rw [wrapS (by omega)]
      refine ih (i + 1) G2 gg1 (setS ss s' b kk' P') (tr2 ++ setAsk (s'.O b) kk' ch ks) (by omega) (by omega) ?_ ((hE'.trans eI).trans (e2'.mono fun tg h => SpI.st h)) r2' ?_ ((hord.ev e1' fun hc => ?_).ev e2' (fun hc => by simp at hc)) ?_
      · rw [take_succ hil, List.filterMap_append]
        have : List.filterMap (redoN (s.jr.take kp) s.st) [ys[i]] = [b] := by simp [hb]
        rw [this]
        exact .snoc hsa ⟨hkl, hcl', hdirty, hch, hchz, hdur⟩
      · have heq : tr ++ dirAsk s.jr kp ++ (tr2 ++ setAsk (s'.O b) kk' ch ks) = tr ++ dirAsk s.jr kp ++ tr2 ++ sizeAsk (s'.O b) kk' ++ ks.map (fun i => ((3, (s'.O b).id, i), ((s'.O b).pl.cache i).length, ch i)) := by
          unfold setAsk
          simp only [List.append_assoc]
        rw [heq]
        exact hpk2'
      · rcases hc with hc | hc
        · have := hc.rng.2; simp at this
        · have := hc.1; simp at this
      · simp only [setS]
        omega
  refine loop _ 0 H2 g1 (crash1 s kp ys) [] rfl (Nat.zero_le _) (by simpa using SetAll.nil) ((hE.trans e1I).trans (e2.mono fun tg h => SpI.st h)) r2 (by simpa using hpk2) h4 (by simp [crash1])

theorem f97_ht (hP : Picker tb Pk) {tr : List Ask} (htr : tr.length < 2 ^ 30) (hg : GOk H g) (h : StR H g k sb ss cap bd pwb s) (hN : StN ss cap bd s) (hj : s.jr.length < 2 ^ 31) (hmT : ∀ i x b, redoN (s.jr.take i) s.st x = some b → b ∈ s.T)
    {L : List ByteArray} (hL : ∀ i x, redoN (s.jr.take i) s.st x ≠ none → x ∈ L) (hLb : L.length < 2 ^ 30) (hpk : Pk tr H g) :
    HT Tryz.prog 97 [.pointer (some ⟨sb, 0, none⟩), .iface 178 (.pointer (some ⟨tb, 0, none⟩))] H (setlR H g k sb ss cap bd pwb s Pk tr) := by
  obtain ⟨db, q, k1, d1⟩ := h.ex
  obtain ⟨lr, op, on, oc, sr, jp, jn, jc, h1, h2, h3, h4, h5, h6, h7⟩ := d1.ex
  have hlen := h7.own.len
  apply f97_of
  refine ⟨sb, 0, rfl, _, Cells.of k1 rfl, db, 0, rfl, jp, jn, jc, Cells.of h1 rfl, fun hd => ?_, fun hd => ?_⟩
  · have hd := of_decide_eq_true hd
    have hne : s.jr ≠ [] := by intro hc; rw [hc] at hlen; simp at hlen; omega
    refine (hP.pick _ (by omega) H g hg hpk 1 0 0 jn (by omega) (by omega)).mono fun v H1 ⟨kp, g1, hv, hkp, e1, hpk1⟩ => ⟨_, hv, ?_⟩
    refine (f144_ht (kp : Int) (by omega)).mono fun v H2 ⟨he2, k2, hv2, hk2, heq⟩ => ⟨_, hv2, ?_⟩
    subst he2
    have : k2 = kp := by have := heq (by omega) (by omega); omega
    subst this
    have hask : tr ++ [((1, 0, 0), jn, k2)] = tr ++ dirAsk s.jr k2 := by
      unfold dirAsk
      rw [if_neg hne, hlen]
    rw [hask] at hpk1
    exact f97_L1_ht hP htr (e1.mono fun tg h => SpI.pick h) (h.off e1 Spk.off) hN (by omega) hj (hmT k2) (hL k2) hLb hpk1
  · have hd := of_decide_eq_false hd
    have hnil : s.jr = [] := List.eq_nil_of_length_eq_zero (by omega)
    have hask : tr ++ dirAsk s.jr 0 = tr := by unfold dirAsk; rw [if_pos hnil]; simp
    exact f97_L1_ht hP htr (Ev.refl hg) h hN (Nat.zero_le _) hj (hmT 0) (hL 0) hLb (by rw [hask]; exact hpk)

end

end Go.Proofs.Qxb6500695aGreatFmt
