/-
  THE STORE, PART E: Create, Delete, Rename.
-/
import Derived.Test.Qxb6500695aGreatFmtSd
import Derived.Test.Qxb6500695aGreatFmtVb
import Derived.Test.Qxb6500695aGreatFmtVc
namespace Go.Proofs.Qxb6500695aGreatFmt
open Go Go.Eng Go.Proofs
set_option maxRecDepth 100000
set_option linter.unusedVariables false
set_option linter.unusedSimpArgs false
set_option linter.unusedSectionVars false

/-- A new object. -/
def newOb (id : Int) (pb : Nat) : Ob := ⟨id, pb, 0, 0, [], 0, ⟨[], fun _ => []⟩⟩

/-- What a call leaves: the store, the supply, an answer. -/
def callPost (H0 : Heap) (g0 : Gh) (k : Int) (sb ss cap bd pwb : Nat) (P' : Pw) (R : Value → StV → Prop) (v : Value) (H' : Heap) : Prop :=
  ∃ s' g', Ev (SpN k) H0 g0 H' g' ∧ StR H' g' k sb ss cap bd pwb s' ∧ PwR H' g' k pwb P' ∧ R v s'

def createS (s : StV) (nm : ByteArray) (i b pb : Nat) : StV :=
  { s with nxt := s.nxt + 1, m := mset s.m nm (some b), xs := insN s.xs nm i, jr := s.jr ++ [⟨0, nm, ⟨#[]⟩, b, none⟩], T := s.T ++ [b], O := oset s.O b (newOb ((s.nxt + 1 : Nat) : Int) pb) }

def createR (E : Nat → Value) (P : Pw) (s : StV) (nm : ByteArray) (v : Value) (s' : StV) : Prop :=
  (P.spend.2 = false ∧ v = E 0 ∧ s' = s) ∨ (P.spend.2 = true ∧ ((vn nm = false ∧ v = E 4 ∧ s' = s) ∨ (vn nm = true ∧ s.m nm ≠ none ∧ v = E 7 ∧ s' = s) ∨
    (vn nm = true ∧ s.m nm = none ∧ v = .nilIface ∧ ∃ i b pb, Spot s.xs nm i ∧ b ∉ s.T ∧ s' = createS s nm i b pb)))

section
variable {S : Nat × Int → Prop} {H H' : Heap} {g g' : Gh} {k : Int} {sb ss cap bd pwb : Nat} {s : StV} {E : Nat → Value} {P : Pw}

theorem SpN.n26 {tg : Nat × Int} (h : SpD k tg) : tg.1 ≠ 26 := fun hc => by have := h.2.2; omega

theorem f65_ht (hg : GOk H g) (hG : Gl H g E) (h : StR H g k sb ss cap bd pwb s) (hp : PwR H g k pwb P) (hN : StN ss cap bd s) (hs : Srt s.xs) (hb : s.xs.length < 2 ^ 30) (hj : s.jr.length < 2 ^ 31) (hT : ∀ b ∈ s.T, (s.O b).id ≤ s.nxt) {nm : ByteArray} :
    HT Tryz.prog 65 [.pointer (some ⟨sb, 0, none⟩), .string nm] H (callPost H g k sb ss cap bd pwb P.spend.1 (createR E P s nm)) := by
  apply f65_of
  refine spendK hg hG h hp (fun hsp H1 e1 r1 p1 => ⟨s, g, e1.mono fun tg h => SpN.pw h, r1, p1, .inl ⟨hsp, rfl, rfl⟩⟩) fun hsp H1 e1 r1 p1 G1 => ?_
  have E1 : Ev (SpN k) H g H1 g := e1.mono fun tg h => SpN.pw h
  refine (f93_ht nm).mono fun v H2 ⟨he, hv⟩ => ⟨_, hv, fun hn => ?_, fun hn => ?_⟩
  · subst he
    obtain ⟨t, x, he, hc⟩ := G1.get 4 (by decide) (by decide)
    exact ⟨t, x, hc, s, g, E1, r1, p1, .inr ⟨hsp, .inl ⟨by simpa using hn, he.symm, rfl⟩⟩⟩
  · subst he
    have hvn : vn nm = true := by simpa using hn
    obtain ⟨db, q, k1, d1⟩ := r1.ex
    refine ⟨sb, 0, rfl, _, Cells.of k1 rfl, ?_⟩
    refine (f94_ht d1 nm).mono fun v H3 ⟨he3, hv3⟩ => ⟨_, hv3, _, binIs_ptr_neq Tryz.underlying152, fun hx => ?_, fun hx => ?_⟩
    · subst he3
      obtain ⟨t, x, he, hc⟩ := G1.get 7 (by decide) (by decide)
      refine ⟨t, x, hc, s, g, E1, r1, p1, .inr ⟨hsp, .inr (.inl ⟨hvn, fun hm => ?_, he.symm, rfl⟩)⟩⟩
      rw [hm] at hx
      simp [oP] at hx
    · subst he3
      have hm : s.m nm = none := by
        cases hm : s.m nm with
        | none => rfl
        | some b => rw [hm] at hx; simp [oP] at hx
      have hnx := hN.nxt
      have hwn : IntKind.wrap .u64 ((s.nxt : Int) + 1) = ((s.nxt + 1 : Nat) : Int) := by
        simp only [IntKind.wrap, IntKind.bits, IntKind.signed]
        simp
        omega
      refine ⟨sb, 0, rfl, _, Cells.of k1 rfl, sb, 0, rfl, _, _, k1, by simp, fun H4 hw4 => ?_⟩
      have hw4' : Wr H3 sb (stB ss cap s.used (s.nxt + 1) db pwb q) H4 := by
        have := hw4
        rw [hwn] at this
        exact this
      obtain ⟨e4, r4⟩ := r1.own (used' := s.used) (nxt' := s.nxt + 1) (q' := q) e1.ok d1 hw4' rfl
      have k4 : H4 sb = some (stB ss cap s.used (s.nxt + 1) db pwb q) := hw4'.same
      have n20 : ∀ tg, SpD k tg → ¬ ((fun tg : Nat × Int => tg = (20, k)) tg) := fun tg ht hc => by
        have hc' : tg = (20, k) := hc
        rw [hc'] at ht
        have := ht.2.1
        simp at this
      have d4 := d1.ev e4 n20
      have p4 := p1.off e4 (fun tg hc => by rw [hc]; simp)
      refine ⟨sb, 0, rfl, _, Cells.of k4 rfl, sb, 0, rfl, _, Cells.of k4 rfl, sb, 0, rfl, _, Cells.of k4 rfl, ?_⟩
      have h121 : HT Tryz.prog 121 [.int .i64 (ss : Int)] H4 fun v H' => ∃ rb pb H5, v = .pointer (some ⟨pb, 0, none⟩) ∧ Al H4 (.map #[] 0) rb H5 ∧ Al H5 (.cells #[.int .i64 (ss : Int), .slice none 0 0, .map (some rb)] 244 (0, 0)) pb H' := by
        apply f121_of
        exact fun rb H5 ha5 pb H6 ha6 => ⟨rb, pb, H5, rfl, ha5, ha6⟩
      refine h121.mono fun v H6 ⟨rb, pb, H5, hv6, ha5, ha6⟩ => ⟨_, hv6, ?_⟩
      have hz : ∃ z, z = zO k ((s.nxt + 1 : Nat) : Int) := ⟨_, rfl⟩
      obtain ⟨z, hz⟩ := hz
      obtain ⟨e5, t5⟩ := Ev.al (S := fun _ => False) e4.ok ha5 (14, z)
      obtain ⟨e6, t6⟩ := Ev.al (S := fun _ => False) e5.ok ha6 (12, z)
      have e56 := e5.trans e6
      have k6 := ha6.keep (ha5.keep k4)
      refine ⟨Cells.of k6 rfl, Cells.of k6 rfl, fun ob H7 ha7 => ?_⟩
      obtain ⟨e7, t7⟩ := Ev.al (S := fun _ => False) e6.ok ha7 (11, z)
      have e57 := e56.trans e7
      have d7 := d4.ev e57 fun tg _ hc => hc
      have r7 := r4.off e57 none_off
      have hOb : ObS H7 (gset (gset (gset g rb (14, z)) pb (12, z)) ob (11, z)) z ob ss cap bd (newOb ((s.nxt + 1 : Nat) : Int) pb) := by
        refine ⟨t7, ⟨none, 0, 0, ha7.same, OwnT.nil I64.size⟩, ⟨⟨hN.shp.1, hN.shp.2.1⟩, hN.shp.2.2, e7.tag _ _ t6, none, 0, 0, rb, [], #[], 0, ha7.keep ha6.same, OwnT.nil Sec.size, trivial, Nat.zero_le _, e7.tag _ _ (e6.tag _ _ t5), ha7.keep (ha6.keep ha5.same), MapOk.empty _ _, by simp, fun _ _ => rfl⟩, Nat.zero_le _, ⟨Nat.zero_le _, Nat.zero_le _, by simp [newOb]⟩, Nat.zero_le _⟩
      have hobT : ob ∉ s.T := fun hc => by
        have := (r4.off e56 none_off).obs ob hc
        obtain ⟨_, _, _, hx, _⟩ := this.ex
        rw [ha7.fresh] at hx
        cases hx
      refine (f120_ht (nm := nm) (ob := ob) e7.ok d7 hs hb (by omega)).mono fun v H8 ⟨i, g8, hv8, hsp8, e8, d8⟩ => ⟨hv8, ?_⟩
      have k7 := ha7.keep k6
      have k8 := e8.get (e57.tag _ _ r4.tag) (fun hc => by have := hc.2.1; simp at this) k7
      refine ⟨Cells.of k8 rfl, sb, 0, rfl, _, Cells.of k8 rfl, sb, 0, rfl, _, _, k8, by simp, fun H9 hw9 => ?_⟩
      have hr8 : StR H8 g8 k sb ss cap bd pwb (createS s nm i ob pb) := by
        refine ⟨e8.tag _ _ (e57.tag _ _ r4.tag), ⟨db, q, k8, d8⟩, fun b hb => ?_⟩
        show ObS H8 g8 (zO k (oset s.O ob (newOb ((s.nxt + 1 : Nat) : Int) pb) b).id) b ss cap bd (oset s.O ob (newOb ((s.nxt + 1 : Nat) : Int) pb) b)
        have n0 : ¬ SpD k (0, 0) := SpD.zero
        have nO : ∀ z tg, SpO z tg → ¬ SpD k tg := fun z tg ht hc => by have := ht.rng.2; have := hc.2; omega
        simp only [oset]
        by_cases hbb : b = ob
        · subst hbb
          rw [if_pos rfl]
          have := hOb.ev e8 n0 (nO z)
          rw [hz] at this
          exact this
        · rw [if_neg hbb]
          have hbT : b ∈ s.T := by
            rcases List.mem_append.1 hb with h | h
            · exact h
            · exact absurd (List.mem_singleton.1 h) hbb
          exact (r7.obs b hbT).ev e8 n0 (nO _)
      obtain ⟨e9, r9⟩ := hr8.own (used' := s.used) (nxt' := s.nxt + 1) (q' := { q with f := IntKind.wrap .u64 (q.f + 1) }) e8.ok d8 hw9 rfl
      refine ⟨createS s nm i ob pb, g8, ((((E1.trans (e4.mono fun tg h => SpN.st h)).trans (e57.mono fun tg h => h.elim)).trans (e8.mono fun tg h => SpN.dir h))).trans (e9.mono fun tg h => SpN.st h), r9, ?_, .inr ⟨hsp, .inr (.inr ⟨hvn, hm, rfl, i, ob, pb, hsp8, hobT, rfl⟩)⟩⟩
      exact ((p4.off e57 fun tg hc => hc.elim).off e8 fun tg hc => SpN.n26 hc).off e9 fun tg hc => by rw [hc]; simp

def deleteS (s : StV) (nm : ByteArray) (i b : Nat) : StV := { s with m := mset s.m nm none, xs := delN s.xs i, jr := s.jr ++ [⟨1, nm, ⟨#[]⟩, b, some b⟩] }

def deleteR (E : Nat → Value) (P : Pw) (s : StV) (nm : ByteArray) (v : Value) (s' : StV) : Prop :=
  (P.spend.2 = false ∧ v = E 0 ∧ s' = s) ∨ (P.spend.2 = true ∧ ((fnd s nm = none ∧ v = fe E nm ∧ s' = s) ∨ (∃ b i, fnd s nm = some b ∧ v = .nilIface ∧ s.xs[i]? = some nm ∧ s' = deleteS s nm i b)))

theorem fnd_some {nm : ByteArray} {b : Nat} (h : fnd s nm = some b) : vn nm = true ∧ s.m nm = some b := by
  unfold fnd at h
  split at h
  · rename_i hv; exact ⟨hv, h⟩
  · cases h

theorem f73_ht (hg : GOk H g) (hG : Gl H g E) (h : StR H g k sb ss cap bd pwb s) (hp : PwR H g k pwb P) (hs : Srt s.xs) (hb : s.xs.length < 2 ^ 30) (hj : s.jr.length < 2 ^ 31) (hmem : ∀ x, x ∈ s.xs ↔ s.m x ≠ none) {nm : ByteArray} :
    HT Tryz.prog 73 [.pointer (some ⟨sb, 0, none⟩), .string nm] H (callPost H g k sb ss cap bd pwb P.spend.1 (deleteR E P s nm)) := by
  apply f73_of
  refine spendK hg hG h hp (fun hsp H1 e1 r1 p1 => ⟨s, g, e1.mono fun tg h => SpN.pw h, r1, p1, .inl ⟨hsp, rfl, rfl⟩⟩) fun hsp H1 e1 r1 p1 G1 => ?_
  have E1 : Ev (SpN k) H g H1 g := e1.mono fun tg h => SpN.pw h
  refine findK G1 r1 (fun hf => ⟨s, g, E1, r1, p1, .inr ⟨hsp, .inl ⟨hf, rfl, rfl⟩⟩⟩) fun b hf => ?_
  obtain ⟨hvn, hm⟩ := fnd_some hf
  obtain ⟨db, q, k1, d1⟩ := r1.ex
  refine ⟨sb, 0, rfl, _, Cells.of k1 rfl, ?_⟩
  refine (f127_ht (nm := nm) (ob := b) e1.ok d1 hs hb (by omega) ((hmem nm).2 (by rw [hm]; simp)) hm).mono fun v H2 ⟨i, g2, hv2, hi, e2, d2⟩ => ⟨hv2, ?_⟩
  have k2 := e2.get r1.tag (fun hc => by have := hc.2.1; simp at this) k1
  have r2 := r1.dir k1 e2 (fun tg h => .inl h) d2
  refine ⟨sb, 0, rfl, _, Cells.of k2 rfl, sb, 0, rfl, _, _, k2, by simp, fun H3 hw3 => ?_⟩
  obtain ⟨e3, r3⟩ := r2.own (used' := s.used) (nxt' := s.nxt) (q' := { q with f := IntKind.wrap .u64 (q.f + 1) }) e2.ok d2 hw3 rfl
  exact ⟨_, g2, (E1.trans (e2.mono fun tg h => SpN.dir h)).trans (e3.mono fun tg h => SpN.st h), r3, (p1.off e2 fun tg hc => SpN.n26 hc).off e3 (fun tg hc => by rw [hc]; simp), .inr ⟨hsp, .inr ⟨b, i, hf, rfl, hi, rfl⟩⟩⟩

def renameS (s : StV) (nm to : ByteArray) (b : Nat) (ys : List ByteArray) : StV := { s with m := mset (mset s.m nm none) to (some b), xs := ys, jr := s.jr ++ [⟨2, nm, to, b, s.m to⟩] }

def renameR (E : Nat → Value) (P : Pw) (s : StV) (nm to : ByteArray) (v : Value) (s' : StV) : Prop :=
  (P.spend.2 = false ∧ v = E 0 ∧ s' = s) ∨ (P.spend.2 = true ∧ ((vn to = false ∧ v = E 4 ∧ s' = s) ∨ (vn to = true ∧ fnd s nm = none ∧ v = fe E nm ∧ s' = s) ∨ (∃ b, vn to = true ∧ fnd s nm = some b ∧ nm = to ∧ v = .nilIface ∧ s' = s) ∨
    (∃ b ys, vn to = true ∧ fnd s nm = some b ∧ nm ≠ to ∧ v = .nilIface ∧ renN s.m s.xs nm to ys ∧ s' = renameS s nm to b ys)))

theorem f72_ht (hg : GOk H g) (hG : Gl H g E) (h : StR H g k sb ss cap bd pwb s) (hp : PwR H g k pwb P) (hs : Srt s.xs) (hb : s.xs.length < 2 ^ 30) (hj : s.jr.length < 2 ^ 31) (hmem : ∀ x, x ∈ s.xs ↔ s.m x ≠ none) {nm to : ByteArray} :
    HT Tryz.prog 72 [.pointer (some ⟨sb, 0, none⟩), .string nm, .string to] H (callPost H g k sb ss cap bd pwb P.spend.1 (renameR E P s nm to)) := by
  apply f72_of
  refine spendK hg hG h hp (fun hsp H1 e1 r1 p1 => ⟨s, g, e1.mono fun tg h => SpN.pw h, r1, p1, .inl ⟨hsp, rfl, rfl⟩⟩) fun hsp H1 e1 r1 p1 G1 => ?_
  have E1 : Ev (SpN k) H g H1 g := e1.mono fun tg h => SpN.pw h
  refine (f93_ht to).mono fun v H2 ⟨he, hv⟩ => ⟨_, hv, fun hn => ?_, fun hn => ?_⟩
  · subst he
    obtain ⟨t, x, he, hc⟩ := G1.get 4 (by decide) (by decide)
    exact ⟨t, x, hc, s, g, E1, r1, p1, .inr ⟨hsp, .inl ⟨by simpa using hn, he.symm, rfl⟩⟩⟩
  · subst he
    have hvt : vn to = true := by simpa using hn
    refine findK G1 r1 (fun hf => ⟨s, g, E1, r1, p1, .inr ⟨hsp, .inr (.inl ⟨hvt, hf, rfl, rfl⟩)⟩⟩) fun b hf => ?_
    obtain ⟨hvn, hm⟩ := fnd_some hf
    refine ⟨_, binIs_str_eql, fun heq => ⟨s, g, E1, r1, p1, .inr ⟨hsp, .inr (.inr (.inl ⟨b, hvt, hf, of_decide_eq_true heq, rfl, rfl⟩))⟩⟩, fun heq => ?_⟩
    obtain ⟨db, q, k1, d1⟩ := r1.ex
    refine ⟨sb, 0, rfl, _, Cells.of k1 rfl, ?_⟩
    refine (f126_ht (nm := nm) (to := to) (ob := b) e1.ok d1 hs hb (by omega) ((hmem nm).2 (by rw [hm]; simp)) hm).mono fun v H3 ⟨ys, g3, hv3, hys, e3, d3⟩ => ⟨hv3, ?_⟩
    have k3 := e3.get r1.tag (fun hc => by have := hc.2.1; simp at this) k1
    have r3 := r1.dir k1 e3 (fun tg h => .inl h) d3
    refine ⟨sb, 0, rfl, _, Cells.of k3 rfl, sb, 0, rfl, _, _, k3, by simp, fun H4 hw4 => ?_⟩
    obtain ⟨e4, r4⟩ := r3.own (used' := s.used) (nxt' := s.nxt) (q' := { q with f := IntKind.wrap .u64 (q.f + 1) }) e3.ok d3 hw4 rfl
    exact ⟨_, g3, (E1.trans (e3.mono fun tg h => SpN.dir h)).trans (e4.mono fun tg h => SpN.st h), r4, (p1.off e3 fun tg hc => SpN.n26 hc).off e4 (fun tg hc => by rw [hc]; simp), .inr ⟨hsp, .inr (.inr (.inr ⟨b, ys, hvt, hf, of_decide_eq_false heq, rfl, hys, rfl⟩))⟩⟩

end

end Go.Proofs.Qxb6500695aGreatFmt
