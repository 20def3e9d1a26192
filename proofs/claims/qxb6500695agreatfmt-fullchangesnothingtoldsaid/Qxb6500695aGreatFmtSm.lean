/-
  THE STORE, PART M: every call leaves what always holds; Publish.
-/
import Derived.Test.Qxb6500695aGreatFmtSl
namespace Go.Proofs.Qxb6500695aGreatFmt
open Go Go.Eng Go.Proofs
set_option maxRecDepth 100000
set_option linter.unusedVariables false
set_option linter.unusedSimpArgs false
set_option linter.unusedSectionVars false

/-- An error, or none. -/
def errV (E : Nat → Value) (v : Value) : Prop := v = .nilIface ∨ ∃ b, b < 9 ∧ b ≠ 5 ∧ v = E b

section
variable {S : Nat × Int → Prop} {H H' : Heap} {g g' : Gh} {k : Int} {sb ss cap bd pwb N : Nat} {s s' : StV} {E : Nat → Value} {P : Pw} {v : Value} {nm to : ByteArray}

theorem errV.fe : errV E (fe E nm) := by
  unfold Qxb6500695aGreatFmt.fe
  split
  · exact .inr ⟨8, by decide, by decide, rfl⟩
  · exact .inr ⟨4, by decide, by decide, rfl⟩

theorem E_ne (hG : Gl H g E) {b : Nat} (hb : b < 9) (h5 : b ≠ 5) : E b ≠ .nilIface := by
  obtain ⟨t, x, he, _⟩ := hG.get b hb h5
  rw [he]; simp

theorem errK {tx : Operand} {A B : Prop} (hG : Gl H g E) (hv : errV E v) (hA : v ≠ .nilIface → A) (hB : v = .nilIface → B) : ∃ x : Bool, BinIs Tryz.prog .neq 48 tx (.const .nilIface) v .nilIface (.bool x) ∧ (x = true → A) ∧ (x = false → B) := by
  rcases hv with hv | ⟨b, hb, h5, hv⟩
  · subst hv
    exact ⟨_, binIs_if_neq (.inl rfl) Tryz.underlying48, (fun h => by cases h), fun _ => hB rfl⟩
  · obtain ⟨hI, hnil⟩ := isI_E hG b hb h5
    have hne := E_ne hG hb h5
    subst hv
    exact ⟨_, binIs_if_neq hI Tryz.underlying48, fun _ => hA hne, (fun h => by rw [hnil] at h; cases h)⟩

theorem createR.err (h : createR E P s nm v s') : errV E v := by
  rcases h with ⟨_, h, _⟩ | ⟨_, ⟨_, h, _⟩ | ⟨_, _, h, _⟩ | ⟨_, _, h, _⟩⟩
  · exact .inr ⟨0, by decide, by decide, h⟩
  · exact .inr ⟨4, by decide, by decide, h⟩
  · exact .inr ⟨7, by decide, by decide, h⟩
  · exact .inl h

theorem createR.inv (h : createR E P s nm v s') (hI : StI ss cap N s) (hb : N + 2 < 2 ^ 28) : StI ss cap (N + 2) s' := by
  rcases h with ⟨_, _, h⟩ | ⟨_, ⟨_, _, h⟩ | ⟨_, _, _, h⟩ | ⟨_, hm, _, i, b, pb, hsp, hbT, h⟩⟩
  · subst h; exact hI.mono (by omega) hb
  · subst h; exact hI.mono (by omega) hb
  · subst h; exact hI.mono (by omega) hb
  · subst h; exact hI.create (by omega) hb hm hsp hbT

theorem deleteR.err (h : deleteR E P s nm v s') : errV E v := by
  rcases h with ⟨_, h, _⟩ | ⟨_, ⟨_, h, _⟩ | ⟨b, i, _, h, _⟩⟩
  · exact .inr ⟨0, by decide, by decide, h⟩
  · rw [h]; exact errV.fe
  · exact .inl h

theorem deleteR.inv (h : deleteR E P s nm v s') (hI : StI ss cap N s) (hb : N + 2 < 2 ^ 28) : StI ss cap (N + 2) s' := by
  rcases h with ⟨_, _, h⟩ | ⟨_, ⟨_, _, h⟩ | ⟨b, i, hf, _, hi, h⟩⟩
  · subst h; exact hI.mono (by omega) hb
  · subst h; exact hI.mono (by omega) hb
  · subst h; exact hI.del (by omega) hb (fnd_some hf).2 hi

theorem renameR.err (h : renameR E P s nm to v s') : errV E v := by
  rcases h with ⟨_, h, _⟩ | ⟨_, ⟨_, h, _⟩ | ⟨_, _, h, _⟩ | ⟨b, _, _, _, h, _⟩ | ⟨b, ys, _, _, _, h, _⟩⟩
  · exact .inr ⟨0, by decide, by decide, h⟩
  · exact .inr ⟨4, by decide, by decide, h⟩
  · rw [h]; exact errV.fe
  · exact .inl h
  · exact .inl h

theorem renameR.inv (h : renameR E P s nm to v s') (hI : StI ss cap N s) (hb : N + 2 < 2 ^ 28) : StI ss cap (N + 2) s' := by
  rcases h with ⟨_, _, h⟩ | ⟨_, ⟨_, _, h⟩ | ⟨_, _, _, h⟩ | ⟨b, _, _, _, _, h⟩ | ⟨b, ys, _, hf, hne, _, hr, h⟩⟩
  · subst h; exact hI.mono (by omega) hb
  · subst h; exact hI.mono (by omega) hb
  · subst h; exact hI.mono (by omega) hb
  · subst h; exact hI.mono (by omega) hb
  · subst h; exact hI.ren (by omega) hb (fnd_some hf).2 hne hr

theorem writeR.shape {off : Int} {src : List Int} (h : writeR ss cap E P s nm off src v s') : ∃ (n : Int) (e : Value), v = .tuple #[.int .i64 n, e] ∧ errV E e := by
  rcases h with ⟨_, h, _⟩ | ⟨_, ⟨_, h, _⟩ | ⟨b, _, ⟨_, h, _⟩ | ⟨_, ⟨_, h, _⟩ | ⟨_, h⟩⟩⟩⟩
  · exact ⟨_, _, h, .inr ⟨0, by decide, by decide, rfl⟩⟩
  · exact ⟨_, _, h, errV.fe⟩
  · exact ⟨_, _, h, .inr ⟨3, by decide, by decide, rfl⟩⟩
  · exact ⟨_, _, h, .inr ⟨1, by decide, by decide, rfl⟩⟩
  · exact ⟨_, _, h, .inl rfl⟩

theorem writeR.inv {off : Int} {src : List Int} (h : writeR ss cap E P s nm off src v s') (hI : StI ss cap N s) : StI ss cap N s' := by
  rcases h with ⟨_, _, h⟩ | ⟨_, ⟨_, _, h⟩ | ⟨b, hf, ⟨_, _, h⟩ | ⟨_, ⟨_, _, h⟩ | ⟨h, _⟩⟩⟩⟩
  · subst h; exact hI
  · subst h; exact hI
  · subst h; exact hI
  · subst h; exact hI
  · exact hI.put (hI.mh _ _ (fnd_some hf).2) h

theorem appendR.shape {src : List Int} (h : appendR ss cap E P s nm src v s') : ∃ (n : Int) (e : Value), v = .tuple #[.int .i64 n, e] ∧ errV E e := by
  rcases h with ⟨_, h, _⟩ | ⟨_, ⟨_, h, _⟩ | ⟨b, _, ⟨_, h, _⟩ | ⟨_, h⟩⟩⟩
  · exact ⟨_, _, h, .inr ⟨0, by decide, by decide, rfl⟩⟩
  · exact ⟨_, _, h, errV.fe⟩
  · exact ⟨_, _, h, .inr ⟨1, by decide, by decide, rfl⟩⟩
  · exact ⟨_, _, h, .inl rfl⟩

theorem appendR.inv {src : List Int} (h : appendR ss cap E P s nm src v s') (hI : StI ss cap N s) : StI ss cap N s' := by
  rcases h with ⟨_, _, h⟩ | ⟨_, ⟨_, _, h⟩ | ⟨b, hf, ⟨_, _, h⟩ | ⟨h, _⟩⟩⟩
  · subst h; exact hI
  · subst h; exact hI
  · subst h; exact hI
  · exact hI.put (hI.mh _ _ (fnd_some hf).2) h

theorem truncR.err {size : Int} (h : truncR ss cap E P s nm size v s') : errV E v := by
  rcases h with ⟨_, h, _⟩ | ⟨_, ⟨_, h, _⟩ | ⟨b, _, ⟨_, h, _⟩ | ⟨_, ⟨_, h, _⟩ | ⟨_, h⟩⟩⟩⟩
  · exact .inr ⟨0, by decide, by decide, h⟩
  · rw [h]; exact errV.fe
  · exact .inr ⟨3, by decide, by decide, h⟩
  · exact .inr ⟨1, by decide, by decide, h⟩
  · exact .inl h

theorem truncR.inv {size : Int} (h : truncR ss cap E P s nm size v s') (hI : StI ss cap N s) : StI ss cap N s' := by
  rcases h with ⟨_, _, h⟩ | ⟨_, ⟨_, _, h⟩ | ⟨b, hf, ⟨_, _, h⟩ | ⟨_, ⟨_, _, h⟩ | ⟨h, _⟩⟩⟩⟩
  · subst h; exact hI
  · subst h; exact hI
  · subst h; exact hI
  · subst h; exact hI
  · exact hI.trunc (hI.mh _ _ (fnd_some hf).2) h

theorem syncR.err (h : syncR ss E P s nm v s') : errV E v := by
  rcases h with ⟨_, h, _⟩ | ⟨_, ⟨_, h, _⟩ | ⟨b, P', _, h, _⟩⟩
  · exact .inr ⟨0, by decide, by decide, h⟩
  · rw [h]; exact errV.fe
  · exact .inl h

theorem syncR.inv (h : syncR ss E P s nm v s') (hI : StI ss cap N s) : StI ss cap N s' := by
  rcases h with ⟨_, _, h⟩ | ⟨_, ⟨_, _, h⟩ | ⟨b, P', hf, _, _, h⟩⟩
  · subst h; exact hI
  · subst h; exact hI
  · subst h; exact hI.hard (hI.mh _ _ (fnd_some hf).2)

theorem syncDirR.err (h : syncDirR E P s v s') : errV E v := by
  rcases h with ⟨_, h, _⟩ | ⟨_, h, _⟩
  · exact .inr ⟨0, by decide, by decide, h⟩
  · exact .inl h

theorem syncDirR.inv (h : syncDirR E P s v s') (hI : StI ss cap N s) : StI ss cap N s' := by
  rcases h with ⟨_, _, h⟩ | ⟨_, _, h⟩
  · subst h; exact hI
  · subst h; exact hI.commit

theorem syncAllR.err (h : syncAllR ss E P s v s') : errV E v := by
  rcases h with ⟨_, h, _⟩ | ⟨_, h, _⟩
  · exact .inr ⟨0, by decide, by decide, h⟩
  · exact .inl h

theorem syncAllR.inv (h : syncAllR ss E P s v s') (hI : StI ss cap N s) : StI ss cap N s' := by
  rcases h with ⟨_, _, h⟩ | ⟨_, _, bs, h, _, hb⟩
  · subst h; exact hI
  · refine hI.commit.hardAll h fun b hx => ?_
    obtain ⟨x, hx⟩ := (hb b).1 hx
    exact hI.commit.mh x b hx

/-- What a call that is a sequence of calls leaves. -/
def seqPost (H0 : Heap) (g0 : Gh) (k : Int) (sb ss cap bd pwb : Nat) (R : Value → StV → Pw → Prop) (v : Value) (H' : Heap) : Prop :=
  ∃ s' P' g', Ev (SpN k) H0 g0 H' g' ∧ StR H' g' k sb ss cap bd pwb s' ∧ PwR H' g' k pwb P' ∧ R v s' P'

/-- Publish, from its last call back. -/
def pub5 (E : Nat → Value) (P : Pw) (s : StV) (v : Value) (s' : StV) (P' : Pw) : Prop := syncDirR E P s v s' ∧ P' = P.spend.1
def pub4 (E : Nat → Value) (temp final : ByteArray) (P : Pw) (s : StV) (v : Value) (s' : StV) (P' : Pw) : Prop :=
  ∃ v4 s4, renameR E P s temp final v4 s4 ∧ ((v4 ≠ .nilIface ∧ v = v4 ∧ s' = s4 ∧ P' = P.spend.1) ∨ (v4 = .nilIface ∧ pub5 E P.spend.1 s4 v s' P'))
def pub3 (ss : Nat) (E : Nat → Value) (temp final : ByteArray) (P : Pw) (s : StV) (v : Value) (s' : StV) (P' : Pw) : Prop :=
  ∃ v3 s3, syncR ss E P s temp v3 s3 ∧ ((v3 ≠ .nilIface ∧ v = v3 ∧ s' = s3 ∧ P' = P.spend.1) ∨ (v3 = .nilIface ∧ pub4 E temp final P.spend.1 s3 v s' P'))
def pub2 (ss cap : Nat) (E : Nat → Value) (temp final : ByteArray) (data : List Int) (P : Pw) (s : StV) (v : Value) (s' : StV) (P' : Pw) : Prop :=
  ∃ n v2 s2, writeR ss cap E P s temp 0 data (.tuple #[.int .i64 n, v2]) s2 ∧ ((v2 ≠ .nilIface ∧ v = v2 ∧ s' = s2 ∧ P' = P.spend.1) ∨ (v2 = .nilIface ∧ pub3 ss E temp final P.spend.1 s2 v s' P'))
def pub1 (ss cap : Nat) (E : Nat → Value) (temp final : ByteArray) (data : List Int) (P : Pw) (s : StV) (v : Value) (s' : StV) (P' : Pw) : Prop :=
  ∃ v1 s1, ((s.m temp ≠ none ∧ truncR ss cap E P s temp 0 v1 s1) ∨ (s.m temp = none ∧ createR E P s temp v1 s1)) ∧ ((v1 ≠ .nilIface ∧ v = v1 ∧ s' = s1 ∧ P' = P.spend.1) ∨ (v1 = .nilIface ∧ pub2 ss cap E temp final data P.spend.1 s1 v s' P'))
def pubR (ss cap : Nat) (E : Nat → Value) (temp final : ByteArray) (data : List Int) (P : Pw) (s : StV) (v : Value) (s' : StV) (P' : Pw) : Prop :=
  (P.down = true ∧ v = E 0 ∧ s' = s ∧ P' = P) ∨ (P.down = false ∧ (((vn temp = false ∨ vn final = false) ∧ v = E 4 ∧ s' = s ∧ P' = P) ∨ (vn temp = true ∧ vn final = true ∧ ((temp = final ∧ v = E 2 ∧ s' = s ∧ P' = P) ∨ (temp ≠ final ∧ pub1 ss cap E temp final data P s v s' P')))))

theorem f39_L2_ht {H0 : Heap} {g0 : Gh} {temp final : ByteArray} {n c : Nat} {p : Option Addr} {data : List Int} {R : Value → StV → Pw → Prop} (hE : Ev (SpN k) H0 g0 H g) (hG : Gl H g E) (h : StR H g k sb ss cap bd pwb s) (hp : PwR H g k pwb P) (hI : StI ss cap N s) (hN : N + 2 < 2 ^ 28) (hbd : bd + 64 < 2 ^ 31)
    (hsrc : Src H p n c data) (ht : ∀ a, p = some a → 0 < n → g a.block = some (0, 0)) (hn : n < 2 ^ 32) {e : Value} (he : errV E e) (hR1 : e ≠ .nilIface → R e s P) (hR2 : e = .nilIface → ∀ v s' P', pub2 ss cap E temp final data P s v s' P' → R v s' P') :
    f39_L2 (some ⟨sb, 0, none⟩) temp final p n c e H (seqPost H0 g0 k sb ss cap (bd + 64) pwb R) := by
  apply f39_L2_of
  refine errK hG he (fun hne => ⟨s, P, g, hE, h.mono (by omega), hp, hR1 hne⟩) fun hnil => ?_
  have hR2 := hR2 hnil
  refine (f66_ht hE.ok hG h hp (hI.toN (by omega)) hI.mT hsrc ht (nm := temp) (off := 0) (by decide) hn).mono fun v H2 ⟨s2, g2, e2, r2, p2, hw⟩ => ?_
  obtain ⟨n2, v2, hv2, herr2⟩ := hw.shape
  subst hv2
  have G2 := hG.ev e2 SpN.zero
  have E2 := hE.trans e2
  have I2 := hw.inv hI
  refine ⟨n2, v2, rfl, errK G2 herr2 (fun hne => ⟨s2, P.spend.1, g2, E2, r2.mono (by omega), p2, hR2 _ _ _ ⟨n2, v2, s2, hw, .inl ⟨hne, rfl, rfl, rfl⟩⟩⟩) fun hnil2 => ?_⟩
  refine (f70_ht e2.ok G2 r2 p2 (I2.toN (by omega)) I2.mT (nm := temp)).mono fun v3 H3 ⟨s3, g3, e3, r3, p3, hsy⟩ => ⟨_, rfl, ?_⟩
  have G3 := G2.ev e3 SpN.zero
  have E3 := E2.trans e3
  have I3 := hsy.inv I2
  refine errK G3 hsy.err (fun hne => ⟨s3, P.spend.1.spend.1, g3, E3, r3.mono (by omega), p3, hR2 _ _ _ ⟨n2, v2, s2, hw, .inr ⟨hnil2, v3, s3, hsy, .inl ⟨hne, rfl, rfl, rfl⟩⟩⟩⟩) fun hnil3 => ?_
  have hl3 := I3.len
  refine (f72_ht e3.ok G3 r3 p3 I3.srt (by omega) (by omega) I3.mem (nm := temp) (to := final)).mono fun v4 H4 ⟨s4, g4, e4, r4, p4, hrn⟩ => ⟨_, rfl, ?_⟩
  have G4 := G3.ev e4 SpN.zero
  have E4 := E3.trans e4
  have I4 := hrn.inv I3 hN
  refine errK G4 hrn.err (fun hne => ⟨s4, _, g4, E4, r4.mono (by omega), p4, hR2 _ _ _ ⟨n2, v2, s2, hw, .inr ⟨hnil2, v3, s3, hsy, .inr ⟨hnil3, v4, s4, hrn, .inl ⟨hne, rfl, rfl, rfl⟩⟩⟩⟩⟩) fun hnil4 => ?_
  have hl4 := I4.len
  refine (f71_ht e4.ok G4 r4 p4 (I4.toN (by omega)) (by omega) I4.vT).mono fun v5 H5 ⟨s5, g5, e5, r5, p5, hsd⟩ => ⟨_, rfl, ?_⟩
  exact ⟨s5, _, g5, E4.trans e5, r5.mono (by omega), p5, hR2 _ _ _ ⟨n2, v2, s2, hw, .inr ⟨hnil2, v3, s3, hsy, .inr ⟨hnil3, v4, s4, hrn, .inr ⟨hnil4, hsd, rfl⟩⟩⟩⟩⟩

theorem f39_ht {temp final : ByteArray} {n c : Nat} {p : Option Addr} {data : List Int} (hg : GOk H g) (hG : Gl H g E) (h : StR H g k sb ss cap bd pwb s) (hp : PwR H g k pwb P) (hI : StI ss cap N s) (hN : N + 4 < 2 ^ 28) (hbd : bd + 80 < 2 ^ 31)
    (hsrc : Src H p n c data) (ht : ∀ a, p = some a → 0 < n → g a.block = some (0, 0)) (hn : n < 2 ^ 32) :
    HT Tryz.prog 39 [.pointer (some ⟨sb, 0, none⟩), .string temp, .string final, .slice p n c] H (seqPost H g k sb ss cap (bd + 80) pwb (pubR ss cap E temp final data P s)) := by
  have hl := hI.len
  apply f39_of
  refine checkK hG h hp (fun hd => ⟨s, P, g, Ev.refl hg, h.mono (by omega), hp, .inl ⟨hd, rfl, rfl, rfl⟩⟩) fun hd => ?_
  have bad : (vn temp = false ∨ vn final = false) → f39_L1 (some ⟨sb, 0, none⟩) temp final p n c true H (seqPost H g k sb ss cap (bd + 80) pwb (pubR ss cap E temp final data P s)) := by
    intro hx
    apply f39_L1_of
    refine ⟨fun _ => ?_, (fun h => by cases h)⟩
    obtain ⟨t, x, he, hc⟩ := hG.get 4 (by decide) (by decide)
    exact ⟨t, x, hc, s, P, g, Ev.refl hg, h.mono (by omega), hp, .inr ⟨hd, .inl ⟨hx, he.symm, rfl, rfl⟩⟩⟩
  refine (f93_ht temp).mono fun v H1 ⟨he1, hv1⟩ => ⟨_, hv1, fun hn1 => ?_, fun hn1 => ?_⟩
  · subst he1
    exact bad (.inl (by simpa using hn1))
  subst he1
  have hvt : vn temp = true := by simpa using hn1
  refine (f93_ht final).mono fun v H2 ⟨he2, hv2⟩ => ⟨_, hv2, ?_⟩
  subst he2
  cases hvf : vn final with
  | false => exact bad (.inr hvf)
  | true =>
    apply f39_L1_of
    refine ⟨(fun h => by cases h), fun _ => ⟨_, binIs_str_eql, fun heq => ?_, fun heq => ?_⟩⟩
    · obtain ⟨t, x, he, hc⟩ := hG.get 2 (by decide) (by decide)
      exact ⟨t, x, hc, s, P, g, Ev.refl hg, h.mono (by omega), hp, .inr ⟨hd, .inr ⟨hvt, hvf, .inl ⟨of_decide_eq_true heq, he.symm, rfl, rfl⟩⟩⟩⟩
    · have hne := of_decide_eq_false heq
      have fin : ∀ v s' P', pub1 ss cap E temp final data P s v s' P' → pubR ss cap E temp final data P s v s' P' := fun v s' P' hx => .inr ⟨hd, .inr ⟨hvt, hvf, .inr ⟨hne, hx⟩⟩⟩
      obtain ⟨db, q, kk, dd⟩ := h.ex
      refine ⟨sb, 0, rfl, _, Cells.of kk rfl, ?_⟩
      refine (f94_ht dd temp).mono fun v H3 ⟨he3, hv3⟩ => ⟨_, hv3, _, binIs_ptr_neq Tryz.underlying152, fun hx => ?_, fun hx => ?_⟩
      · subst he3
        have hm : s.m temp ≠ none := by intro hc; rw [hc] at hx; simp [oP] at hx
        refine (f68_ht hg hG h hp (hI.toN (by omega)) hI.mT (nm := temp) (size := 0)).mono fun v1 H4 ⟨s1, g1, e1, r1, p1, htr⟩ => ⟨_, rfl, ?_⟩
        have := f39_L2_ht (temp := temp) (final := final) (R := pubR ss cap E temp final data P s) e1 (hG.ev e1 SpN.zero) r1 p1 (htr.inv hI) (by omega) (by omega) (hsrc.ev ht e1 SpN.zero) (fun a ha h0 => e1.tag _ _ (ht a ha h0)) hn htr.err (fun hne1 => fin _ _ _ ⟨v1, s1, .inl ⟨hm, htr⟩, .inl ⟨hne1, rfl, rfl, rfl⟩⟩) fun hnil v s' P' hp2 => fin _ _ _ ⟨v1, s1, .inl ⟨hm, htr⟩, .inr ⟨hnil, hp2⟩⟩
        rw [show bd + 16 + 64 = bd + 80 from rfl] at this
        exact this
      · subst he3
        have hm : s.m temp = none := by
          cases hc : s.m temp with
          | none => rfl
          | some b => rw [hc] at hx; simp [oP] at hx
        refine (f65_ht hg hG h hp (hI.toN (by omega)) hI.srt (by omega) (by omega) (fun b hb => (hI.idp b hb).2) (nm := temp)).mono fun v1 H4 ⟨s1, g1, e1, r1, p1, hcr⟩ => ⟨_, rfl, ?_⟩
        have := f39_L2_ht (temp := temp) (final := final) (R := pubR ss cap E temp final data P s) (N := N + 2) e1 (hG.ev e1 SpN.zero) (r1.mono (bd' := bd + 16) (by omega)) p1 (hcr.inv hI (by omega)) (by omega) (by omega) (hsrc.ev ht e1 SpN.zero) (fun a ha h0 => e1.tag _ _ (ht a ha h0)) hn hcr.err (fun hne1 => fin _ _ _ ⟨v1, s1, .inr ⟨hm, hcr⟩, .inl ⟨hne1, rfl, rfl, rfl⟩⟩) fun hnil v s' P' hp2 => fin _ _ _ ⟨v1, s1, .inr ⟨hm, hcr⟩, .inr ⟨hnil, hp2⟩⟩
        rw [show bd + 16 + 64 = bd + 80 from rfl] at this
        exact this

theorem pubR.inv {temp final : ByteArray} {data : List Int} {P' : Pw} (h : pubR ss cap E temp final data P s v s' P') (hI : StI ss cap N s) (hb : N + 4 < 2 ^ 28) : StI ss cap (N + 4) s' := by
  rcases h with ⟨_, _, h, _⟩ | ⟨_, ⟨_, _, h, _⟩ | ⟨_, _, ⟨_, _, h, _⟩ | ⟨_, v1, s1, h1, hr⟩⟩⟩
  · subst h; exact hI.mono (by omega) hb
  · subst h; exact hI.mono (by omega) hb
  · subst h; exact hI.mono (by omega) hb
  · have I1 : StI ss cap (N + 2) s1 := by
      rcases h1 with ⟨_, h1⟩ | ⟨_, h1⟩
      · exact (h1.inv hI).mono (by omega) (by omega)
      · exact h1.inv hI (by omega)
    rcases hr with ⟨_, _, h, _⟩ | ⟨_, n2, v2, s2, h2, hr⟩
    · subst h; exact I1.mono (by omega) hb
    · have I2 := h2.inv I1
      rcases hr with ⟨_, _, h, _⟩ | ⟨_, v3, s3, h3, hr⟩
      · subst h; exact I2.mono (by omega) hb
      · have I3 := h3.inv I2
        rcases hr with ⟨_, _, h, _⟩ | ⟨_, v4, s4, h4, hr⟩
        · subst h; exact I3.mono (by omega) hb
        · have I4 := h4.inv I3 (by omega)
          rcases hr with ⟨_, _, h, _⟩ | ⟨_, h5, _⟩
          · subst h; exact I4.mono (by omega) hb
          · exact (h5.inv I4).mono (by omega) hb

end

end Go.Proofs.Qxb6500695aGreatFmt
