/-
  READERS, WITH THE BYTES: Size, ReadAt, sectorNow, ReadSector, Durable, Clone.
-/
import Derived.Test.Qxb6500695aGreatFmtKb
import Derived.Test.Qxb6500695aGreatFmtVp
import Derived.Test.Qxb6500695aGreatFmtNd
import Derived.Test.Qxb6500695aGreatFmtSj
namespace Go.Proofs.Qxb6500695aGreatFmt
open Go Go.Eng Go.Proofs
set_option maxRecDepth 100000
set_option linter.unusedVariables false
set_option linter.unusedSimpArgs false
set_option linter.unusedSectionVars false

def u8 (x : Int) : Value := .int .u8 x

section
variable {S : Nat × Int → Prop} {H H' : Heap} {g g' : Gh} {k : Int} {sb ss cap bd pwb : Nat} {s : StV} {E : Nat → Value} {P : Pw}

theorem f81_ht (hG : Gl H g E) (h : StR H g k sb ss cap bd pwb s) (hp : PwR H g k pwb P) (hmT : ∀ x b, s.m x = some b → b ∈ s.T) (hup : P.down = false) {nm : ByteArray} {b : Nat} (hf : fnd s nm = some b) :
    HT Tryz.prog 81 [.pointer (some ⟨sb, 0, none⟩), .string nm] H fun v H' => H' = H ∧ v = .tuple #[.int .i64 ((s.O b).size : Int), .nilIface] := by
  apply f81_of
  refine (f21_ht hG h hp hmT (nm := nm)).mono fun v H1 ⟨he, hv⟩ => ?_
  rcases hv with ⟨hd, _⟩ | ⟨_, ⟨hn, _⟩ | ⟨b', n, hb', hv, _⟩⟩
  · rw [hup] at hd; cases hd
  · rw [hf] at hn; cases hn
  · rw [hf] at hb'
    cases hb'
    exact ⟨_, _, _, _, _, hv, fun _ => ⟨he, rfl⟩⟩

theorem f69x_ht (hg : GOk H g) (hG : Gl H g E) (h : StR H g k sb ss cap bd pwb s) (hp : PwR H g k pwb P) (hN : StN ss cap bd s) (hmT : ∀ x b, s.m x = some b → b ∈ s.T) (hup : P.down = false) {nm : ByteArray} {ob : Nat} (hf : fnd s nm = some ob) {o b n : Nat} {arr : Array Value} {T : TypeId} (hgb : g b = none) (hb : H b = some (.cells arr T (0, 0))) (hfit : n ≤ arr.size) (hn : n < 2 ^ 31) (hol : o ≤ (s.O ob).size) :
    HT Tryz.prog 69 [.pointer (some ⟨sb, 0, none⟩), .string nm, .slice (some ⟨b, 0, none⟩) n n, .int .i64 (o : Int)] H fun v H' => Ev (fun tg => tg = (20, k)) H g H' g ∧ StR H' g k sb ss cap bd pwb s ∧ (∃ (m : Int) (e : Value), v = .tuple #[.int .i64 m, e]) ∧ ∃ arr', H' b = some (.cells arr' T (0, 0)) ∧ arr'.toList = over arr.toList 0 ((rdF ss (s.O ob).pl (min n ((s.O ob).size - o)) o (min n ((s.O ob).size - o))).map fun x => .int .u8 x) := by
  have hm : cap * ss ≤ 12 * 16 := Nat.mul_le_mul hN.shp.2.2 hN.shp.2.1
  have hbdl := hN.bd
  apply f69_of
  refine checkK hG h hp (fun hd => by rw [hup] at hd; cases hd) fun hd => ?_
  refine findK hG h (fun hx => by rw [hf] at hx; cases hx) fun ob' hf' => ?_
  rw [hf] at hf'
  cases hf'
  have hbT := fnd_T hmT hf
  have hO := h.obs ob hbT
  obtain ⟨sp, sn, sc, oo, _⟩ := hO.ex
  have hfs := hO.fit.1
  refine ⟨fun ho => by have := of_decide_eq_true ho; omega, fun ho => ⟨ob, 0, rfl, _, Cells.of oo rfl, ?_⟩⟩
  have hbig : decide ((o : Int) > ((s.O ob).size : Int)) = false := by simp; omega
  rw [hbig]
  have hw : IntKind.wrap .i64 (((s.O ob).size : Int) - (o : Int)) = (((s.O ob).size - o : Nat) : Int) := by rw [wrapI] <;> omega
  have last : ∀ kk : Nat, kk = min n ((s.O ob).size - o) → f69_L2 (some ⟨sb, 0, none⟩) (some ⟨b, 0, none⟩) n n (o : Int) (some ⟨ob, 0, none⟩) (kk : Int) H fun v H' => Ev (fun tg => tg = (20, k)) H g H' g ∧ StR H' g k sb ss cap bd pwb s ∧ (∃ (m : Int) (e : Value), v = .tuple #[.int .i64 m, e]) ∧ ∃ arr', H' b = some (.cells arr' T (0, 0)) ∧ arr'.toList = over arr.toList 0 ((rdF ss (s.O ob).pl (min n ((s.O ob).size - o)) o (min n ((s.O ob).size - o))).map fun x => .int .u8 x) := by
    intro kk hkk
    have hi5 : Tryz.prog.info? 5 = some Tryz.t5 := by kernel_rfl
    apply f69_L2_of
    refine ⟨ob, 0, rfl, _, Cells.of oo rfl, _, _, _, sliceIs_hi' Tryz.underlying35 hi5 (by omega), ?_⟩
    refine (f78_ht hg hO.pl (by omega) hgb hb (o := 0) (n := kk) (c := n) (off := o) (by omega) (by omega) (by omega) (by omega)).mono fun v H1 ⟨hv1, hk1, arr', hb1, ha1⟩ => ⟨hv1, ?_⟩
    have e1 := Ev.untag hg hgb hk1
    have r1 := h.off e1 none_off
    obtain ⟨db, q, k1, d1⟩ := r1.ex
    refine ⟨sb, 0, rfl, _, Cells.of k1 rfl, sb, 0, rfl, _, _, k1, by simp, fun H2 hw2 => ?_⟩
    obtain ⟨e2, r2⟩ := r1.own (used' := s.used) (nxt' := s.nxt) (q' := { q with a := IntKind.wrap .u64 (q.a + 1) }) e1.ok d1 hw2 rfl
    have EE : Ev (fun tg => tg = (20, k)) H g H2 g := (e1.mono fun tg h => h.elim).trans e2
    have hsb : b ≠ sb := fun hc => by have := h.tag; rw [← hc, hgb] at this; cases this
    have hb2 : H2 b = some (.cells arr' T (0, 0)) := by rw [hw2.other hsb]; exact hb1
    subst hkk
    refine ⟨fun hlt => ?_, fun hlt => ⟨EE, r2, ⟨_, _, rfl⟩, arr', hb2, ha1⟩⟩
    obtain ⟨t, x, he, hc⟩ := (hG.ev EE (fun hc => by simp at hc)).get 6 (by decide) (by decide)
    exact ⟨t, x, hc, EE, r2, ⟨_, _, rfl⟩, arr', hb2, ha1⟩
  apply f69_L1_of
  refine ⟨(fun h => by cases h), fun _ => ⟨ob, 0, rfl, _, Cells.of oo rfl, fun hg1 => ?_, fun hg1 => ?_⟩⟩
  · rw [hw] at hg1 ⊢
    have hg1 := of_decide_eq_true hg1
    exact last _ (by omega)
  · rw [hw] at hg1
    have hg1 := of_decide_eq_false hg1
    exact last n (by omega)

theorem secNow_split {o : Ob} {i : Nat} (h : i * ss ≤ o.size) : secNow ss o i = ((List.range (min ss (o.size - i * ss))).map fun j => byt ss o.pl (i * ss + j)) ++ List.replicate (ss - min ss (o.size - i * ss)) 0 := by
  unfold secNow
  apply List.ext_getElem?
  intro r
  rw [List.getElem?_map]
  by_cases hr : r < ss
  · rw [List.getElem?_range hr, Option.map_some]
    by_cases hk : r < min ss (o.size - i * ss)
    · rw [List.getElem?_append_left (by simpa using hk), List.getElem?_map, List.getElem?_range hk, Option.map_some, if_pos (by omega)]
    · have hlm : ((List.range (min ss (o.size - i * ss))).map fun j => byt ss o.pl (i * ss + j)).length = min ss (o.size - i * ss) := by simp
      rw [List.getElem?_append_right (by omega), List.getElem?_replicate, hlm]
      have h1 : ¬ (i * ss + r < o.size) := by omega
      have h2 : r - min ss (o.size - i * ss) < ss - min ss (o.size - i * ss) := by omega
      rw [if_pos h2, if_neg h1]
  · rw [List.getElem?_eq_none (by simp; omega), List.getElem?_eq_none (by simp; omega)]
    rfl

theorem f80_ht (hg : GOk H g) (hG : Gl H g E) (h : StR H g k sb ss cap bd pwb s) (hp : PwR H g k pwb P) (hN : StN ss cap bd s) (hmT : ∀ x b, s.m x = some b → b ∈ s.T) (hup : P.down = false) {nm : ByteArray} {ob : Nat} (hf : fnd s nm = some ob) {i : Nat} (hi : i < 2 ^ 20) :
    HT Tryz.prog 80 [.pointer (some ⟨sb, 0, none⟩), .string nm, .int .i64 (i : Int)] H fun v H' => ∃ (sx : Sec) (g' : Gh), v = sx.val ∧ Ev (fun tg => tg = (20, k)) H g H' g' ∧ StR H' g' k sb ss cap bd pwb s ∧ SecOk H' g' ss sx (secNow ss (s.O ob) i) := by
  have hm : cap * ss ≤ 12 * 16 := Nat.mul_le_mul hN.shp.2.2 hN.shp.2.1
  have hss := hN.shp
  have hbT := fnd_T hmT hf
  have hO := h.obs ob hbT
  have hfs := hO.fit.1
  have hsz := sized_ssz hO.pl.sized
  have hi5 : Tryz.prog.info? 5 = some Tryz.t5 := by kernel_rfl
  have h18 : HT Tryz.prog 18 [.pointer (some ⟨sb, 0, none⟩)] H fun v H' => H' = H ∧ v = .int .i64 (ss : Int) := by
    obtain ⟨db, q, h1, h2⟩ := h.ex
    apply f18_of
    exact ⟨sb, 0, rfl, _, Cells.of h1 rfl, rfl, rfl⟩
  apply f80_of
  refine h18.mono fun v H0 ⟨he, hv⟩ => ⟨_, hv, ?_⟩
  subst he
  refine semOk_make (l := ss) (c := ss) Tryz.underlying35 hi5 (z := .int .u8 0) rfl rfl rfl (Nat.le_refl _) (by omega) (by decide) fun vb H1 ha => ⟨_, _, _, rfl, ?_⟩
  have hvg : g vb = none := GOk.fresh hg ha.fresh
  have e1 : Ev (fun _ => False) H0 g H1 g := Ev.sub hg ha.sub
  have G1 := hG.ev e1 (fun h => h)
  have r1 := h.off e1 none_off
  have p1 := hp.ev e1 (fun h => h)
  have himul : ((i : Int) * (ss : Int)) = ((i * ss : Nat) : Int) := by simp
  have hib : i * ss < 2 ^ 36 := by
    have := Nat.mul_le_mul (Nat.le_of_lt hi) hss.2.1
    exact Nat.lt_of_le_of_lt this (by decide)
  have hwr : IntKind.wrap .i64 ((i : Int) * (ss : Int)) = ((i * ss : Nat) : Int) := by rw [himul, wrapI] <;> omega
  -- the end: the buffer is read only from here on
  have fin : ∀ {H2 : Heap} {arr' : Array Value}, Ev (fun tg => tg = (20, k)) H0 g H2 g → StR H2 g k sb ss cap bd pwb s → H2 vb = some (.cells arr' 5 (0, 0)) → arr'.toList = (secNow ss (s.O ob) i).map (fun x => .int .u8 x) →
      f80_L2 (some ⟨vb, 0, none⟩) ss ss H2 fun v H' => ∃ (sx : Sec) (g' : Gh), v = sx.val ∧ Ev (fun tg => tg = (20, k)) H0 g H' g' ∧ StR H' g' k sb ss cap bd pwb s ∧ SecOk H' g' ss sx (secNow ss (s.O ob) i) := by
    intro H2 arr' e2 r2 hb2 harr
    apply f80_L2_of
    have e3 : Ev (fun _ => False) H2 g H2 (gset g vb (0, 0)) := Ev.tagU e2.ok hvg (by rw [hb2]; simp)
    refine ⟨⟨some ⟨vb, 0, none⟩, ss, ss⟩, gset g vb (0, 0), rfl, e2.trans (e3.mono fun tg h => h.elim), r2.off e3 none_off, rfl, Nat.le_refl _, secNow_len i, vb, 0, arr', rfl, by simp [gset], hb2, ?_, ?_⟩
    · have : arr'.toList.length = ss := by rw [harr, List.length_map, secNow_len]
      simpa using Nat.le_of_eq this.symm
    · rw [List.drop_zero, harr, List.take_of_length_le (by rw [List.length_map, secNow_len]; exact Nat.le_refl _)]
  refine (f81_ht G1 r1 p1 hmT hup hf).mono fun v H2 ⟨he2, hv2⟩ => ⟨_, _, hv2, _, binIs_if_eql (.inl rfl) Tryz.underlying48, fun _ => ?_, (fun h => by cases h)⟩
  subst he2
  rw [hwr]
  apply f80_L1_of
  refine ⟨fun hlt => ?_, fun hge => ?_⟩
  · have hlt := of_decide_eq_true hlt
    rw [hwr]
    refine (f69x_ht e1.ok G1 r1 p1 hN hmT hup hf hvg ha.same (n := ss) (by simp) (by omega) (o := i * ss) (by omega)).mono fun v H3 ⟨e3, r3, ⟨m, e, hv3⟩, arr', hb3, harr⟩ => ⟨m, e, hv3, ?_⟩
    refine fin ((e1.mono fun tg h => h.elim).trans e3) r3 hb3 ?_
    rw [harr, rdF_byt hss.1 hsz _ _ _ (Nat.le_refl _), secNow_split (by omega)]
    unfold over
    rw [List.take_zero, List.nil_append, List.map_append]
    congr 1
    simp
  · have hge := of_decide_eq_false hge
    refine fin (e1.mono fun tg h => h.elim) r1 ha.same ?_
    have : secNow ss (s.O ob) i = List.replicate ss 0 := by
      unfold secNow
      exact (zer_eq _ fun r hr => by rw [if_neg (by omega)]).symm
    rw [this]
    simp

end

section
variable {S : Nat × Int → Prop} {H H' : Heap} {g g' : Gh} {k : Int} {dvb ss ns bd pwb : Nat} {D : Pl} {E : Nat → Value} {P : Pw}

theorem f15_ht (h : DvR H g k dvb ss ns bd pwb D) : HT Tryz.prog 15 [.pointer (some ⟨dvb, 0, none⟩)] H fun v H' => H' = H ∧ v = .int .i64 (ss : Int) := by
  obtain ⟨plb, q, h1, h2⟩ := h.ex
  apply f15_of
  exact ⟨dvb, 0, rfl, _, Cells.of h1 rfl, rfl, rfl⟩

theorem f14_ht (h : DvR H g k dvb ss ns bd pwb D) : HT Tryz.prog 14 [.pointer (some ⟨dvb, 0, none⟩)] H fun v H' => H' = H ∧ v = .int .i64 (ns : Int) := by
  obtain ⟨plb, q, h1, h2⟩ := h.ex
  apply f14_of
  exact ⟨dvb, 0, rfl, _, Cells.of h1 rfl, rfl, rfl⟩

/-- ReadSector into a new buffer. -/
theorem f22_ht (hg : GOk H g) (hG : Gl H g E) (h : DvR H g k dvb ss ns bd pwb D) (hp : PwR H g k pwb P) (hbd : bd < 2 ^ 31) (hup : P.down = false) {i b : Nat} {arr : Array Value} (hi : i < ns) (hgb : g b = none) (hb : H b = some (.cells arr 5 (0, 0))) (hfit : arr.size = ss) :
    HT Tryz.prog 22 [.pointer (some ⟨dvb, 0, none⟩), .int .i64 (i : Int), .slice (some ⟨b, 0, none⟩) ss ss] H fun v H' => v = .nilIface ∧ ∃ g', Ev (fun tg => tg = (27, k)) H g H' g' ∧ DvR H' g' k dvb ss ns bd pwb D ∧ SecOk H' g' ss ⟨some ⟨b, 0, none⟩, ss, ss⟩ (D.seen ss i) := by
  obtain ⟨plb, q, h1, h2⟩ := h.ex
  have hss := h2.ssb
  have hns := h2.nsb
  have hsz := sized_ssz h2.sized
  have himul : ((i : Int) * (ss : Int)) = ((i * ss : Nat) : Int) := by simp
  have hib : i * ss ≤ 12 * 16 := Nat.mul_le_mul (by omega) hss.2
  have hwr : IntKind.wrap .i64 ((i : Int) * (ss : Int)) = ((i * ss : Nat) : Int) := by rw [himul, wrapI] <;> omega
  apply f22_of
  refine ⟨dvb, 0, rfl, _, Cells.of h1 rfl, ?_⟩
  refine (f75_ht hG hp).mono fun v H1 ⟨he, hv⟩ => ⟨_, rfl, ?_⟩
  subst he
  rw [hup] at hv
  subst hv
  refine ⟨_, binIs_if_neq (.inl rfl) Tryz.underlying48, (fun h => by cases h), fun _ => ⟨dvb, 0, rfl, _, Cells.of h1 rfl, fun hx => by simp at hx, fun _ => ⟨fun hx => by have := of_decide_eq_true hx; omega, fun _ => ⟨dvb, 0, rfl, _, Cells.of h1 rfl, ?_⟩⟩⟩⟩
  have hd : decide ((i : Int) ≥ (ns : Int)) = false := by simp; omega
  rw [hd]
  apply f22_L1_of
  refine ⟨(fun h => by cases h), fun _ => ⟨dvb, 0, rfl, _, Cells.of h1 rfl, dvb, 0, rfl, _, Cells.of h1 rfl, ?_⟩⟩
  rw [hwr]
  refine (f78_ht hg h2 (by omega) hgb hb (o := 0) (n := ss) (c := ss) (off := i * ss) (by omega) (Nat.le_refl _) (by omega) (by omega)).mono fun v H2 ⟨hv2, hk2, arr', hb2, ha2⟩ => ⟨hv2, ?_⟩
  have e2 := Ev.untag hg hgb hk2
  have d2 := h.off e2 none_offD
  obtain ⟨plb', q', k1, k2⟩ := d2.ex
  have hk1 := e2.get h.tag (fun h => h) h1
  refine ⟨Cells.of hk1 rfl, dvb, 0, rfl, _, Cells.of k1 rfl, dvb, 0, rfl, _, _, k1, by simp, fun H3 hw3 => ⟨rfl, ?_⟩⟩
  obtain ⟨e3, d3⟩ := d2.own (q' := { q' with a := IntKind.wrap .u64 (q'.a + 1) }) e2.ok k2 hw3 rfl
  have hdb : b ≠ dvb := fun hc => by have := h.tag; rw [← hc, hgb] at this; cases this
  have hb3 : H3 b = some (.cells arr' 5 (0, 0)) := by rw [hw3.other hdb]; exact hb2
  have e4 : Ev (fun _ => False) H3 g H3 (gset g b (0, 0)) := Ev.tagU e3.ok hgb (by rw [hb3]; simp)
  have hrd : rdF ss D ss (i * ss) ss = D.seen ss i := by rw [rdF_byt hss.1 hsz _ _ _ (Nat.le_refl _), byt_seen hss.1 hsz]
  have hl : (D.seen ss i).length = ss := hsz i
  have harr : arr'.toList = (D.seen ss i).map fun x => .int .u8 x := by
    rw [ha2, hrd]
    unfold over
    rw [List.take_zero, List.nil_append, List.drop_of_length_le (by simp [hl, hfit]), List.append_nil]
  refine ⟨gset g b (0, 0), ((e2.mono fun tg h => h.elim).trans e3).trans (e4.mono fun tg h => h.elim), d3.off e4 none_offD, rfl, Nat.le_refl _, hl, b, 0, arr', rfl, by simp [gset], hb3, ?_, ?_⟩
  · have : arr'.toList.length = ss := by rw [harr, List.length_map, hl]
    simpa using Nat.le_of_eq this.symm
  · rw [List.drop_zero, harr, List.take_of_length_le (by rw [List.length_map, hl]; exact Nat.le_refl _)]

end

end Go.Proofs.Qxb6500695aGreatFmt
