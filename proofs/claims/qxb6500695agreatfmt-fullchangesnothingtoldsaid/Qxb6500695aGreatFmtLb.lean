/-
  FULL CHANGES NOTHING, PART B: what can be seen, exactly: dirty counts, images, the device.
-/
import Derived.Test.Qxb6500695aGreatFmtLa
import Derived.Test.Qxb6500695aGreatFmtSi
namespace Go.Proofs.Qxb6500695aGreatFmt
open Go Go.Eng Go.Proofs
set_option maxRecDepth 100000
set_option linter.unusedVariables false
set_option linter.unusedSimpArgs false
set_option linter.unusedSectionVars false

/-- How many sectors are unsynced. -/
def dkeys (P : Pl) : List Int := ((List.range 12).map fun i : Nat => (i : Int)).filter fun i => !(P.cache i).isEmpty
def dcnt (P : Pl) : Nat := (dkeys P).length

section
variable {S : Nat × Int → Prop} {H H' : Heap} {g g' : Gh} {k e z : Int} {pb ob sb ss ns cap bd pwb : Nat} {P Q : Pl} {o : Ob} {s : StV} {E : Nat → Value}

theorem dcnt_A (h : PlA P Q) : dcnt P = dcnt Q := by unfold dcnt dkeys; rw [h.1]

theorem lat_A (h : PlA P Q) (i : Nat) : P.lat i = Q.lat i := by unfold Pl.lat; rw [h.1, h.2]

theorem rdF_A (h : PlA P Q) : ∀ (k off n : Nat), rdF ss P k off n = rdF ss Q k off n
  | 0, _, _ => rfl
  | k + 1, off, n => by
    rw [rdF, rdF, rdF_A h k]
    unfold Pl.seen
    rw [lat_A h]

theorem range_nodup : ((List.range 12).map fun i : Nat => (i : Int)).Nodup := by decide

theorem f99x_ht (h : PlOk H g e pb ss ns bd P) : HT Tryz.prog 99 [.pointer (some ⟨pb, 0, none⟩)] H fun v H' => H' = H ∧ v = .int .i64 (dcnt P : Int) := by
  have hns := h.nsb
  obtain ⟨mp, mn, mc, r, ml, es, ck, h1, h2, h3, h4, h5, h6, h7, h8, h9⟩ := h.ex
  apply f99_of
  refine ⟨pb, 0, rfl, _, Cells.of h1 rfl, ?_⟩
  refine semOk_lenM Tryz.underlying61 h6 ⟨_, rfl, rfl, ?_⟩
  have hp : (es.toList.map fun en => keyN en.key).Perm (dkeys P) := by
    refine (List.perm_ext_iff_of_nodup h7.2.1 (range_nodup.filter _)).2 fun x => ?_
    rw [List.mem_filter]
    constructor
    · intro hx
      obtain ⟨en, hen, rfl⟩ := List.mem_map.1 hx
      obtain ⟨k1, k2, k3, k4, _⟩ := h8 en hen
      refine ⟨List.mem_map.2 ⟨(keyN en.key).toNat, List.mem_range.2 (by omega), by omega⟩, ?_⟩
      cases hc : P.cache (keyN en.key) with
      | nil => rw [hc] at k4; simp at k4
      | cons a l => rfl
    · rintro ⟨_, hx⟩
      cases hg : iget es.toList x with
      | none => rw [h9 x hg] at hx; simp at hx
      | some v =>
        obtain ⟨en, hen, hk, _⟩ := iget_mem hg
        exact List.mem_map.2 ⟨en, hen, hk⟩
  have hl : es.size = dcnt P := by
    show es.size = (dkeys P).length
    have := hp.length_eq
    simpa using this
  rw [hl]

theorem f77x_ht (h : ObS H g z ob ss ns bd o) : HT Tryz.prog 77 [.pointer (some ⟨ob, 0, none⟩)] H fun v H' => H' = H ∧ v = .agg #[.int .u64 o.id, .int .i64 (o.size : Int), .int .i64 (o.res : Int), .int .i64 (dcnt o.pl : Int)] := by
  obtain ⟨sp, sn, sc, h1, h2⟩ := h.ex
  apply f77_of
  intro _
  refine ⟨ob, 0, rfl, _, Cells.of h1 rfl, ob, 0, rfl, _, Cells.of h1 rfl, ob, 0, rfl, _, Cells.of h1 rfl, ob, 0, rfl, _, Cells.of h1 rfl, ?_⟩
  refine (f99x_ht h.pl).mono fun v H1 ⟨he, hv⟩ => ?_
  subst he
  exact ⟨_, hv, Cells.of h1 rfl, Cells.of h1 rfl, Cells.of h1 rfl, rfl, rfl⟩

/-- An image of an object, with its bytes. -/
def ImX (H0 H : Heap) (ss : Nat) (s : StV) (nm : ByteArray) (i : Im) : Prop :=
  i.nm = nm ∧ ∃ b nb arr, s.m nm = some b ∧ i.id = (s.O b).id ∧ i.size = (s.O b).size ∧ i.res = (s.O b).res ∧ i.uns = dcnt (s.O b).pl ∧
    i.dp = some ⟨nb, 0, none⟩ ∧ i.dn = (s.O b).size ∧ i.dc = (s.O b).size ∧ H0 nb = none ∧ H nb = some (.cells arr 5 (0, 0)) ∧ arr.toList = ((rdF ss (s.O b).pl (s.O b).size 0 (s.O b).size).map fun x => .int .u8 x) ∧ arr.size = (s.O b).size

theorem ImX.mv {H0 G : Heap} {nm : ByteArray} {i : Im} (h : ImX H0 H ss s nm i) (hk : ∀ b arr, H0 b = none → H b = some (.cells arr 5 (0, 0)) → G b = some (.cells arr 5 (0, 0))) : ImX H0 G ss s nm i := by
  obtain ⟨h1, b, nb, arr, a1, a2, a3, a4, a5, a6, a7, a8, a9, a10, a11⟩ := h
  exact ⟨h1, b, nb, arr, a1, a2, a3, a4, a5, a6, a7, a8, a9, hk _ _ a9 a10, a11⟩

def imgX (H : Heap) (ss : Nat) (s : StV) (v : Value) (H' : Heap) : Prop :=
  Sub H H' ∧ ∃ p n c ims, v = .tuple #[.slice p n c, .nilIface] ∧ New H p ∧ OwnL H' 103 6 Im.cs p n c ims ∧ ims.length = s.xs.length ∧ ∀ i (h : i < ims.length) (hx : i < s.xs.length), ImX H H' ss s s.xs[i] ims[i]

theorem f49x_L1_ht {H0 : Heap} (hg : GOk H0 g) (hR0 : StR H0 g k sb ss cap bd pwb s) (hN : StN ss cap bd s) (hmem : ∀ x, x ∈ s.xs ↔ s.m x ≠ none) (hmT : ∀ x b, s.m x = some b → b ∈ s.T) (hxb : s.xs.length < 2 ^ 30) {op : Option Addr} {on oc : Nat} (hord : OwnT H0 g (23, k) 9 1 Str.cs op on oc s.xs) :
    ∀ (d i : Nat) (H : Heap) (p : Option Addr) (n c : Nat) (ims : List Im), s.xs.length - i = d → i ≤ s.xs.length → Sub H0 H → New H0 p → OwnL H 103 6 Im.cs p n c ims → ims.length = i →
      (∀ j (h : j < ims.length) (hx : j < s.xs.length), ImX H0 H ss s s.xs[j] ims[j]) →
      f49_L1 (some ⟨sb, 0, none⟩) p n c op on oc (on : Int) (i : Int) H (imgX H0 ss s) := by
  have hon := hord.own.len
  intro d
  induction d with
  | zero =>
    intro i H p n c ims hd hi hs hnew hims hlen hall
    apply f49_L1_of
    exact ⟨fun hx => by have := of_decide_eq_true hx; omega, fun _ => ⟨hs, p, n, c, ims, rfl, hnew, hims, by omega, hall⟩⟩
  | succ d ih =>
    intro i H p n c ims hd hi hs hnew hims hlen hall
    have hil : i < s.xs.length := by omega
    have hm : cap * ss ≤ 12 * 16 := Nat.mul_le_mul hN.shp.2.2 hN.shp.2.1
    have hbdl := hN.bd
    have e0 : Ev (fun _ => False) H0 g H g := Ev.sub hg hs
    have hR := hR0.off e0 none_off
    apply f49_L1_of
    refine ⟨fun _ => ?_, fun hx => by have := of_decide_eq_false hx; omega⟩
    obtain ⟨b', o', hp, hc⟩ := (hord.own.sub hs).cells (i := i) hil
    obtain ⟨db, q, kk, dd⟩ := hR.ex
    obtain ⟨lr, op', on', oc', sr, jp, jn, jc, h1, h2, h3, h4, h5, h6, h7⟩ := dd.ex
    obtain ⟨b, hb⟩ : ∃ b, s.m s.xs[i] = some b := by
      cases hx : s.m s.xs[i] with
      | none => exact absurd hx ((hmem _).1 (List.getElem_mem hil))
      | some b => exact ⟨b, rfl⟩
    obtain ⟨es, ck, hr, hl⟩ := h3.look s.xs[i]
    rw [hb] at hl
    have hbT := hmT _ _ hb
    have hO := hR.obs b hbT
    obtain ⟨sp, sn, sc, oo, _⟩ := hO.ex
    have hfit := hO.fit.1
    refine ⟨b', o', hp, by omega, by omega, s.xs[i], by simpa [Str.cs] using hc, sb, 0, rfl, _, Cells.of kk rfl, db, 0, rfl, some lr, Cells.of h1 rfl, lr, es, ck, rfl, hr, _, hl, b, 0, rfl, _, Cells.of oo rfl, ?_⟩
    refine semOk_make (T := 5) (inf := Tryz.t5) (z := .int .u8 0) (l := (s.O b).size) (c := (s.O b).size) Tryz.underlying35 (by kernel_rfl) (by kernel_rfl) rfl rfl (Nat.le_refl _) (by omega) (by decide) fun nb H1 ha1 => ⟨_, _, _, rfl, ?_⟩
    have e1 : Ev (fun _ => False) H g H1 g := Ev.sub e0.ok ha1.sub
    have hgn := GOk.fresh e0.ok ha1.fresh
    have oo1 := ha1.keep oo
    have hO1 := hO.ev e1 (fun hc => hc) fun tg _ hc => hc
    have hnb0 : H0 nb = none := by
      cases hx : H0 nb with
      | none => rfl
      | some x => have := hs _ _ hx; rw [ha1.fresh] at this; cases this
    refine ⟨b, 0, rfl, _, Cells.of oo1 rfl, ?_⟩
    refine (f78_ht e1.ok hO1.pl (by omega) hgn ha1.same (o := 0) (n := (s.O b).size) (c := (s.O b).size) (off := 0) (by simp) (Nat.le_refl _) (by omega) (by omega)).mono fun v H2 ⟨hv2, hk2, arr', hb2, harr⟩ => ⟨hv2, ?_⟩
    have e2 := Ev.untag e1.ok hgn hk2
    have hO2 := hO1.ev e2 (fun hc => hc) fun tg _ hc => hc
    have hs2 : Sub H0 H2 := fun x ob hx => by
      rw [hk2 x (fun hc => by rw [hc, hnb0] at hx; cases hx)]
      exact ha1.keep (hs _ _ hx)
    refine (f77x_ht hO2).mono fun v H3 ⟨he3, hv3⟩ => ⟨_, _, _, _, hv3, fun ab H4 ha4 => ?_⟩
    subst he3
    have hpnb : ∀ a, p = some a → a.block ≠ nb := fun a ha hc => by
      rcases hims.own with ⟨hp0, _⟩ | ⟨b9, o9, arr9, hp9, hb9, _⟩
      · rw [hp0] at ha; cases ha
      · rw [hp9] at ha
        cases ha
        simp only at hc
        rw [hc, ha1.fresh] at hb9
        cases hb9
    have hims2 : OwnL H3 103 6 Im.cs p n c ims := (hims.sub ha1.sub).keep fun a ha => hk2 _ (hpnb a ha)
    have himn := hims2.len
    have hi103 : Tryz.prog.info? 103 = some Tryz.t103 := by kernel_rfl
    refine app1 (H0 := H0) (inf := Tryz.t103) (zero := .agg #[.string ⟨#[]⟩, .int .u64 0, .int .i64 0, .int .i64 0, .int .i64 0, .slice none 0 0]) (x := (⟨s.xs[i], (s.O b).id, (s.O b).size, (s.O b).res, dcnt (s.O b).pl, some ⟨nb, 0, none⟩, (s.O b).size, (s.O b).size⟩ : Im)) (enc := Im.cs) Tryz.underlying99 hi103 (by kernel_rfl) rfl (by decide) rfl ha4 rfl (by intro v hv; simp [Im.cs] at hv; rcases hv with rfl | rfl | rfl | rfl | rfl | rfl <;> rfl) hims2 (by omega) hs2 hnew fun p' c' H5 a1 a2 a3 a4 => ⟨p', _, c', rfl, ?_⟩
    rw [wrapS (by omega)]
    have mv : ∀ x arr, H0 x = none → H3 x = some (.cells arr 5 (0, 0)) → H5 x = some (.cells arr 5 (0, 0)) := fun x arr _ hx => a4 x _ hx (own_ne hims2 hx (by intro arr h; simp at h))
    have hover : arr'.toList = (rdF ss (s.O b).pl (s.O b).size 0 (s.O b).size).map fun x => .int .u8 x := by
      rw [harr]
      have hl9 := rdF_len hO1.pl (s.O b).size 0 (s.O b).size (Nat.le_refl _)
      unfold over
      simp [hl9]
    have hasz : arr'.size = (s.O b).size := by
      have hl9 := rdF_len hO1.pl (s.O b).size 0 (s.O b).size (Nat.le_refl _)
      have := congrArg List.length hover
      simpa [hl9] using this
    refine ih (i + 1) H5 p' (n + 1) c' _ (by omega) (by omega) a1 a2 a3 (by simp; omega) fun j hj hx => ?_
    rcases Nat.lt_or_ge j ims.length with hlt | hge
    · rw [List.getElem_append_left hlt]
      refine (hall j hlt hx).mv fun x arr h0 hx1 => ?_
      refine mv x arr h0 ?_
      have hxn : x ≠ nb := fun hc => by rw [hc, ha1.fresh] at hx1; cases hx1
      rw [hk2 x hxn]
      exact ha1.keep hx1
    · have hji : j = i := by simp at hj; omega
      subst hji
      rw [List.getElem_append_right hge]
      simp only [hlen, Nat.sub_self, List.getElem_cons_zero]
      exact ⟨rfl, b, nb, arr', hb, rfl, rfl, rfl, rfl, rfl, rfl, rfl, hnb0, mv _ _ hnb0 hb2, hover, hasz⟩

theorem f49x_ht {P : Pw} (hg : GOk H g) (hG : Gl H g E) (h : StR H g k sb ss cap bd pwb s) (hp : PwR H g k pwb P) (hN : StN ss cap bd s) (hmem : ∀ x, x ∈ s.xs ↔ s.m x ≠ none) (hmT : ∀ x b, s.m x = some b → b ∈ s.T) (hxb : s.xs.length < 2 ^ 30) (hup : P.down = false) :
    HT Tryz.prog 49 [.pointer (some ⟨sb, 0, none⟩)] H (imgX H ss s) := by
  apply f49_of
  refine checkK hG h hp (fun hd => by rw [hup] at hd; cases hd) fun _ => ?_
  obtain ⟨db, q, kk, dd⟩ := h.ex
  obtain ⟨lr, op, on, oc, sr, jp, jn, jc, h1, h2, h3, h4, h5, h6, h7⟩ := dd.ex
  have hlen := h4.own.len
  have hi103 : Tryz.prog.info? 103 = some Tryz.t103 := by kernel_rfl
  refine ⟨sb, 0, rfl, _, Cells.of kk rfl, db, 0, rfl, op, on, oc, Cells.of h1 rfl, ?_⟩
  refine semOk_make0 (inf := Tryz.t103) (z := .agg #[.string ⟨#[]⟩, .int .u64 0, .int .i64 0, .int .i64 0, .int .i64 0, .slice none 0 0]) Tryz.underlying99 hi103 (by kernel_rfl) (by omega) (by decide) fun b H1 arr hsz ha => ⟨_, _, _, rfl, ?_⟩
  have kk1 := ha.keep kk
  have h11 := ha.keep h1
  refine ⟨sb, 0, rfl, _, Cells.of kk1 rfl, db, 0, rfl, op, on, oc, Cells.of h11 rfl, ?_⟩
  refine f49x_L1_ht hg h hN hmem hmT hxb h4 _ 0 H1 _ 0 _ [] rfl (Nat.zero_le _) ha.sub (fun a ha' => by cases ha'; exact ha.fresh) ⟨rfl, Im.sz, .inr ⟨b, 0, arr, rfl, ha.same, Nat.zero_le _, ?_, by simp⟩⟩ rfl fun j hj => by simp at hj
  rw [hsz]
  show 0 + on * 6 ≤ on * 6
  omega

/-- The whole device read. -/
theorem f63x_ht {dvb b n : Nat} {D : Pl} {P : Pw} {arr : Array Value} {T : TypeId} (hg : GOk H g) (hG : Gl H g E) (h : DvR H g k dvb ss ns bd pwb D) (hp : PwR H g k pwb P) (hup : P.down = false) (hbd : bd < 2 ^ 31) (hgb : g b = none) (hb : H b = some (.cells arr T (0, 0))) (hn : n = ns * ss) (hfit : n = arr.size) :
    HT Tryz.prog 63 [.pointer (some ⟨dvb, 0, none⟩), .slice (some ⟨b, 0, none⟩) n n, .int .i64 0] H fun v H' => v = .tuple #[.int .i64 (n : Int), .nilIface] ∧ Ev (fun tg => tg = (27, k)) H g H' g ∧ DvR H' g k dvb ss ns bd pwb D ∧ PwR H' g k pwb P ∧
      (∃ arr', H' b = some (.cells arr' T (0, 0)) ∧ arr'.toList = ((rdF ss D n 0 n).map fun x => .int .u8 x) ∧ arr'.size = n) ∧ ∀ x, x ≠ b → x ≠ dvb → H' x = H x := by
  obtain ⟨plb, q, k1, pl1⟩ := h.ex
  have hm : ns * ss ≤ 12 * 16 := Nat.mul_le_mul pl1.nsb pl1.ssb.2
  have hbdv : b ≠ dvb := fun hc => by rw [hc, h.tag] at hgb; cases hgb
  apply f63_of
  refine ⟨dvb, 0, rfl, _, Cells.of k1 rfl, ?_⟩
  refine (f75_ht hG hp).mono fun v H1 ⟨he, hv⟩ => ⟨_, rfl, ?_⟩
  subst he
  rw [hup] at hv
  have hv' : v = .nilIface := hv
  refine errK hG (.inl hv') (fun hne => absurd hv' hne) fun hnil => ?_
  refine ⟨fun hneg => by simp at hneg, fun hneg => ?_⟩
  refine (f100_ht h).mono fun v2 H2 ⟨he2, hv2⟩ => ⟨_, hv2, ?_⟩
  subst he2
  have hbig : decide ((0 : Int) > ((ns * ss : Nat) : Int)) = false := decide_eq_false (Int.not_lt.2 (Int.natCast_nonneg _))
  rw [hbig]
  have hw : IntKind.wrap .i64 (((ns * ss : Nat) : Int) - 0) = ((ns * ss : Nat) : Int) := by rw [wrapI] <;> omega
  have last : f63_L2 (some ⟨dvb, 0, none⟩) (some ⟨b, 0, none⟩) n n 0 (n : Int) H2 fun v H' => v = .tuple #[.int .i64 (n : Int), .nilIface] ∧ Ev (fun tg => tg = (27, k)) H2 g H' g ∧ DvR H' g k dvb ss ns bd pwb D ∧ PwR H' g k pwb P ∧
      (∃ arr', H' b = some (.cells arr' T (0, 0)) ∧ arr'.toList = ((rdF ss D n 0 n).map fun x => .int .u8 x) ∧ arr'.size = n) ∧ ∀ x, x ≠ b → x ≠ dvb → H' x = H2 x := by
    have hi5 : Tryz.prog.info? 5 = some Tryz.t5 := by kernel_rfl
    apply f63_L2_of
    refine ⟨dvb, 0, rfl, _, Cells.of k1 rfl, _, _, _, sliceIs_hi' Tryz.underlying35 hi5 (by omega), ?_⟩
    refine (f78_ht hg pl1 (by omega) hgb hb (o := 0) (n := n) (c := n) (off := 0) (by omega) (by omega) (by omega) (by omega)).mono fun v H3 ⟨hv3, hk3, arr', hb3, harr⟩ => ⟨hv3, ?_⟩
    have e3 := Ev.untag hg hgb hk3
    have r3 := h.off e3 none_offD
    obtain ⟨plb3, q3, k3, pl3⟩ := r3.ex
    refine ⟨dvb, 0, rfl, _, Cells.of k3 rfl, dvb, 0, rfl, _, _, k3, by simp, fun H4 hw4 => ?_⟩
    obtain ⟨e4, r4⟩ := r3.own (q' := { q3 with a := IntKind.wrap .u64 (q3.a + 1) }) e3.ok pl3 hw4 rfl
    have EE : Ev (fun tg => tg = (27, k)) H2 g H4 g := (e3.mono fun tg h => h.elim).trans e4
    have p4 := (hp.off e3 fun tg h => h.elim).off e4 (fun tg hc => by rw [hc]; simp)
    have hover : arr'.toList = (rdF ss D n 0 n).map fun x => .int .u8 x := by
      rw [harr]
      have hl9 := rdF_len pl1 n 0 n (Nat.le_refl _)
      unfold over
      simp [hl9]
      omega
    refine ⟨fun hlt => by have hlt := of_decide_eq_true hlt; omega, fun hlt => ⟨rfl, EE, r4, p4, ⟨arr', ?_, hover, ?_⟩, fun x h1 h2 => ?_⟩⟩
    · rw [hw4.other hbdv]; exact hb3
    · have hl9 := rdF_len pl1 n 0 n (Nat.le_refl _)
      have := congrArg List.length hover
      simpa [hl9] using this
    · rw [hw4.other h2, hk3 x h1]
  apply f63_L1_of
  refine ⟨(fun h => by cases h), fun _ => ?_⟩
  refine (f100_ht h).mono fun v3 H3 ⟨he3, hv3⟩ => ⟨_, hv3, fun hg1 => ?_, fun hg1 => ?_⟩
  · subst he3
    rw [hw] at hg1
    have hg1 := of_decide_eq_true hg1
    omega
  · subst he3
    exact last

end

end Go.Proofs.Qxb6500695aGreatFmt
