/-
  THE STORE, PART F: WriteAt, Append, Truncate, Sync, SyncDir, Stat.
-/
import Derived.Test.Qxb6500695aGreatFmtSe
namespace Go.Proofs.Qxb6500695aGreatFmt
open Go Go.Eng Go.Proofs
set_option maxRecDepth 100000
set_option linter.unusedVariables false
set_option linter.unusedSimpArgs false
set_option linter.unusedSectionVars false

def writeR (ss cap : Nat) (E : Nat → Value) (P : Pw) (s : StV) (nm : ByteArray) (off : Int) (src : List Int) (v : Value) (s' : StV) : Prop :=
  (P.spend.2 = false ∧ v = .tuple #[.int .i64 0, E 0] ∧ s' = s) ∨ (P.spend.2 = true ∧ ((fnd s nm = none ∧ v = .tuple #[.int .i64 0, fe E nm] ∧ s' = s) ∨ ∃ b, fnd s nm = some b ∧
    ((off < 0 ∧ v = .tuple #[.int .i64 0, E 3] ∧ s' = s) ∨ (0 ≤ off ∧ ((putF ss cap s b off.toNat src = none ∧ v = .tuple #[.int .i64 0, E 1] ∧ s' = s) ∨ (putF ss cap s b off.toNat src = some s' ∧ v = .tuple #[.int .i64 (src.length : Int), .nilIface]))))))

def appendR (ss cap : Nat) (E : Nat → Value) (P : Pw) (s : StV) (nm : ByteArray) (src : List Int) (v : Value) (s' : StV) : Prop :=
  (P.spend.2 = false ∧ v = .tuple #[.int .i64 0, E 0] ∧ s' = s) ∨ (P.spend.2 = true ∧ ((fnd s nm = none ∧ v = .tuple #[.int .i64 0, fe E nm] ∧ s' = s) ∨ ∃ b, fnd s nm = some b ∧
    ((putF ss cap s b (s.O b).size src = none ∧ v = .tuple #[.int .i64 0, E 1] ∧ s' = s) ∨ (putF ss cap s b (s.O b).size src = some s' ∧ v = .tuple #[.int .i64 ((s.O b).size : Int), .nilIface]))))

/-- A change of size, on the object. -/
def truncOb (ss : Nat) (o : Ob) (size : Nat) : Ob := (if size < o.size then ({ o with pl := zrF ss (o.size - size) o.pl size (o.size - size) } : Ob) else o).setSize size

def truncF (ss cap : Nat) (s : StV) (b size : Nat) : Option StV :=
  if size > cap * ss then none else match resv ss cap s b size with
    | none => none
    | some s1 => some { s1 with O := oset s1.O b (truncOb ss (s1.O b) size) }

def truncR (ss cap : Nat) (E : Nat → Value) (P : Pw) (s : StV) (nm : ByteArray) (size : Int) (v : Value) (s' : StV) : Prop :=
  (P.spend.2 = false ∧ v = E 0 ∧ s' = s) ∨ (P.spend.2 = true ∧ ((fnd s nm = none ∧ v = fe E nm ∧ s' = s) ∨ ∃ b, fnd s nm = some b ∧
    ((size < 0 ∧ v = E 3 ∧ s' = s) ∨ (0 ≤ size ∧ ((truncF ss cap s b size.toNat = none ∧ v = E 1 ∧ s' = s) ∨ (truncF ss cap s b size.toNat = some s' ∧ v = .nilIface))))))

def syncR (ss : Nat) (E : Nat → Value) (P : Pw) (s : StV) (nm : ByteArray) (v : Value) (s' : StV) : Prop :=
  (P.spend.2 = false ∧ v = E 0 ∧ s' = s) ∨ (P.spend.2 = true ∧ ((fnd s nm = none ∧ v = fe E nm ∧ s' = s) ∨ ∃ b P', fnd s nm = some b ∧ v = .nilIface ∧ hardP ss (s.O b) P' ∧ s' = hardS ss s b P'))

def syncDirR (E : Nat → Value) (P : Pw) (s : StV) (v : Value) (s' : StV) : Prop :=
  (P.spend.2 = false ∧ v = E 0 ∧ s' = s) ∨ (P.spend.2 = true ∧ v = .nilIface ∧ s' = comS s)

section
variable {S : Nat × Int → Prop} {H H' : Heap} {g g' : Gh} {k : Int} {sb ss cap bd pwb : Nat} {s : StV} {E : Nat → Value} {P : Pw}

theorem PwR.in (h : PwR H g k pwb P) (ev : Ev (SpI k) H g H' g') : PwR H' g' k pwb P := h.off ev fun tg hc => hc.2

theorem fnd_T (hmT : ∀ x b, s.m x = some b → b ∈ s.T) {nm : ByteArray} {b : Nat} (h : fnd s nm = some b) : b ∈ s.T := hmT _ _ (fnd_some h).2

theorem f66_ht (hg : GOk H g) (hG : Gl H g E) (h : StR H g k sb ss cap bd pwb s) (hp : PwR H g k pwb P) (hN : StN ss cap bd s) (hmT : ∀ x b, s.m x = some b → b ∈ s.T) {nm : ByteArray} {n c : Nat} {p : Option Addr} {src : List Int} (hsrc : Src H p n c src) (ht : ∀ a, p = some a → 0 < n → g a.block = some (0, 0)) {off : Int} (hoff : off < 2 ^ 63) (hn : n < 2 ^ 32) :
    HT Tryz.prog 66 [.pointer (some ⟨sb, 0, none⟩), .string nm, .slice p n c, .int .i64 off] H (callPost H g k sb ss cap (bd + 16) pwb P.spend.1 (writeR ss cap E P s nm off src)) := by
  have hlen := hsrc.len
  apply f66_of
  refine spendK hg hG h hp (fun hsp H1 e1 r1 p1 => ⟨s, g, e1.mono fun tg h => SpN.pw h, r1.mono (Nat.le_add_right _ _), p1, .inl ⟨hsp, rfl, rfl⟩⟩) fun hsp H1 e1 r1 p1 G1 => ?_
  have E1 : Ev (SpN k) H g H1 g := e1.mono fun tg h => SpN.pw h
  refine findK G1 r1 (fun hf => ⟨s, g, E1, r1.mono (Nat.le_add_right _ _), p1, .inr ⟨hsp, .inl ⟨hf, rfl, rfl⟩⟩⟩) fun b hf => ⟨fun ho => ?_, fun ho => ?_⟩
  · obtain ⟨t, x, he, hc⟩ := G1.get 3 (by decide) (by decide)
    exact ⟨t, x, hc, s, g, E1, r1.mono (Nat.le_add_right _ _), p1, .inr ⟨hsp, .inr ⟨b, hf, .inl ⟨of_decide_eq_true ho, by rw [he], rfl⟩⟩⟩⟩
  · have ho := of_decide_eq_false ho
    have hoN : off = (off.toNat : Int) := by omega
    have h122 := f122_ht e1.ok G1 r1 hN (off := off.toNat) (fnd_T hmT hf) (hsrc.ev ht e1 SpW.zero) ht (by omega) hn
    rw [← hoN] at h122
    refine h122.mono fun v H2 ⟨s', g2, e2, r2, hor⟩ => ⟨_, rfl, ?_⟩
    have E2 := E1.trans (e2.mono fun tg h => h.le)
    have p2 := p1.in e2
    rcases hor with ⟨hv, hpf⟩ | ⟨hv, hpf, hss⟩
    · subst hv
      refine ⟨_, binIs_if_neq (.inl rfl) Tryz.underlying48, (fun h => by cases h), fun _ => ⟨s', g2, E2, r2, p2, .inr ⟨hsp, .inr ⟨b, hf, .inr ⟨by omega, .inr ⟨hpf, by rw [hlen]⟩⟩⟩⟩⟩⟩
    · subst hv
      obtain ⟨hI, hnil⟩ := isI_E hG 1 (by decide) (by decide)
      refine ⟨_, binIs_if_neq hI Tryz.underlying48, fun _ => ⟨s', g2, E2, r2, p2, .inr ⟨hsp, .inr ⟨b, hf, .inr ⟨by omega, .inl ⟨hpf, rfl, hss⟩⟩⟩⟩⟩, (fun h => by rw [hnil] at h; cases h)⟩

theorem f67_ht (hg : GOk H g) (hG : Gl H g E) (h : StR H g k sb ss cap bd pwb s) (hp : PwR H g k pwb P) (hN : StN ss cap bd s) (hmT : ∀ x b, s.m x = some b → b ∈ s.T) {nm : ByteArray} {n c : Nat} {p : Option Addr} {src : List Int} (hsrc : Src H p n c src) (ht : ∀ a, p = some a → 0 < n → g a.block = some (0, 0)) (hn : n < 2 ^ 32) :
    HT Tryz.prog 67 [.pointer (some ⟨sb, 0, none⟩), .string nm, .slice p n c] H (callPost H g k sb ss cap (bd + 16) pwb P.spend.1 (appendR ss cap E P s nm src)) := by
  have hlen := hsrc.len
  have hm : cap * ss ≤ 12 * 16 := Nat.mul_le_mul hN.shp.2.2 hN.shp.2.1
  apply f67_of
  refine spendK hg hG h hp (fun hsp H1 e1 r1 p1 => ⟨s, g, e1.mono fun tg h => SpN.pw h, r1.mono (Nat.le_add_right _ _), p1, .inl ⟨hsp, rfl, rfl⟩⟩) fun hsp H1 e1 r1 p1 G1 => ?_
  have E1 : Ev (SpN k) H g H1 g := e1.mono fun tg h => SpN.pw h
  refine findK G1 r1 (fun hf => ⟨s, g, E1, r1.mono (Nat.le_add_right _ _), p1, .inr ⟨hsp, .inl ⟨hf, rfl, rfl⟩⟩⟩) fun b hf => ?_
  have hbT := fnd_T hmT hf
  have hO := r1.obs b hbT
  obtain ⟨sp, sn, sc, o1, o2⟩ := hO.ex
  have hfit := hO.fit.1
  refine ⟨b, 0, rfl, _, Cells.of o1 rfl, ?_⟩
  refine (f122_ht e1.ok G1 r1 hN (off := (s.O b).size) hbT (hsrc.ev ht e1 SpW.zero) ht (by omega) hn).mono fun v H2 ⟨s', g2, e2, r2, hor⟩ => ⟨_, rfl, ?_⟩
  have E2 := E1.trans (e2.mono fun tg h => h.le)
  have p2 := p1.in e2
  rcases hor with ⟨hv, hpf⟩ | ⟨hv, hpf, hss⟩
  · subst hv
    exact ⟨_, binIs_if_neq (.inl rfl) Tryz.underlying48, (fun h => by cases h), fun _ => ⟨s', g2, E2, r2, p2, .inr ⟨hsp, .inr ⟨b, hf, .inr ⟨hpf, rfl⟩⟩⟩⟩⟩
  · subst hv
    obtain ⟨hI, hnil⟩ := isI_E hG 1 (by decide) (by decide)
    exact ⟨_, binIs_if_neq hI Tryz.underlying48, fun _ => ⟨s', g2, E2, r2, p2, .inr ⟨hsp, .inr ⟨b, hf, .inl ⟨hpf, rfl, hss⟩⟩⟩⟩, (fun h => by rw [hnil] at h; cases h)⟩

theorem f70_ht (hg : GOk H g) (hG : Gl H g E) (h : StR H g k sb ss cap bd pwb s) (hp : PwR H g k pwb P) (hN : StN ss cap bd s) (hmT : ∀ x b, s.m x = some b → b ∈ s.T) {nm : ByteArray} :
    HT Tryz.prog 70 [.pointer (some ⟨sb, 0, none⟩), .string nm] H (callPost H g k sb ss cap bd pwb P.spend.1 (syncR ss E P s nm)) := by
  have hu := hN.used
  have hcl := hN.shp.2.2
  have hbd := hN.bd
  apply f70_of
  refine spendK hg hG h hp (fun hsp H1 e1 r1 p1 => ⟨s, g, e1.mono fun tg h => SpN.pw h, r1, p1, .inl ⟨hsp, rfl, rfl⟩⟩) fun hsp H1 e1 r1 p1 G1 => ?_
  have E1 : Ev (SpN k) H g H1 g := e1.mono fun tg h => SpN.pw h
  refine findK G1 r1 (fun hf => ⟨s, g, E1, r1, p1, .inr ⟨hsp, .inl ⟨hf, rfl, rfl⟩⟩⟩) fun b hf => ?_
  have hbT := fnd_T hmT hf
  refine (f92_ht e1.ok r1 (by omega) hN.ids (by omega) hbT (hN.pos b hbT)).mono fun v H2 ⟨P', g2, hv2, e2', r2, hh⟩ => ⟨hv2, ?_⟩
  have e2 : Ev (SpI k) H1 g H2 g2 := e2'.mono fun tg h => hardI (hN.pos b hbT) h
  obtain ⟨db, q, k2, d2⟩ := r2.ex
  refine ⟨sb, 0, rfl, _, Cells.of k2 rfl, sb, 0, rfl, _, _, k2, by simp, fun H3 hw3 => ?_⟩
  obtain ⟨e3, r3⟩ := r2.own (used' := (hardS ss s b P').used) (nxt' := s.nxt) (q' := { q with d := IntKind.wrap .u64 (q.d + 1) }) e2.ok d2 hw3 rfl
  exact ⟨_, g2, (E1.trans (e2.mono fun tg h => h.le)).trans (e3.mono fun tg h => SpN.st h), r3, (p1.in e2).in (e3.mono fun tg h => SpI.st h), .inr ⟨hsp, .inr ⟨b, P', hf, rfl, hh, rfl⟩⟩⟩

theorem f71_ht (hg : GOk H g) (hG : Gl H g E) (h : StR H g k sb ss cap bd pwb s) (hp : PwR H g k pwb P) (hN : StN ss cap bd s) (hj : s.jr.length < 2 ^ 31) (hv : ∀ b ∈ vics s.jr, b ∈ s.T) :
    HT Tryz.prog 71 [.pointer (some ⟨sb, 0, none⟩)] H (callPost H g k sb ss cap bd pwb P.spend.1 (syncDirR E P s)) := by
  have hu := hN.used
  have hcl := hN.shp.2.2
  apply f71_of
  refine spendK hg hG h hp (fun hsp H1 e1 r1 p1 => ⟨s, g, e1.mono fun tg h => SpN.pw h, r1, p1, .inl ⟨hsp, rfl, rfl⟩⟩) fun hsp H1 e1 r1 p1 G1 => ?_
  have E1 : Ev (SpN k) H g H1 g := e1.mono fun tg h => SpN.pw h
  refine (f91_ht e1.ok r1 hcl hj (by omega) hv).mono fun v H2 ⟨g2, hv2, e2, r2⟩ => ⟨hv2, ?_⟩
  obtain ⟨db, q, k2, d2⟩ := r2.ex
  refine ⟨sb, 0, rfl, _, Cells.of k2 rfl, sb, 0, rfl, _, _, k2, by simp, fun H3 hw3 => ?_⟩
  obtain ⟨e3, r3⟩ := r2.own (used' := (comS s).used) (nxt' := s.nxt) (q' := { q with g := IntKind.wrap .u64 (q.g + 1) }) e2.ok d2 hw3 rfl
  exact ⟨_, g2, (E1.trans (e2.mono fun tg h => h.le)).trans (e3.mono fun tg h => SpN.st h), r3, (p1.in e2).in (e3.mono fun tg h => SpI.st h), .inr ⟨hsp, rfl, rfl⟩⟩

theorem oset_ids {O : Nat → Ob} {T : List Nat} {b : Nat} {o : Ob} (hid : o.id = (O b).id) (h : (T.map fun x => (O x).id).Nodup) : (T.map fun x => (oset O b o x).id).Nodup := by
  have : (T.map fun x => (oset O b o x).id) = T.map fun x => (O x).id := by
    refine List.map_congr_left fun x _ => ?_
    simp only [oset]
    split
    · rename_i hx; rw [hx, hid]
    · rfl
  rw [this]; exact h

theorem oset_same {O : Nat → Ob} {b : Nat} {o : Ob} : oset O b o b = o := by simp [oset]
theorem oset_oset {O : Nat → Ob} {b : Nat} {o o' : Ob} : oset (oset O b o) b o' = oset O b o' := by
  funext x
  simp only [oset]
  split <;> rfl

theorem setSize_id {o : Ob} {n : Nat} : (o.setSize n).id = o.id := by unfold Ob.setSize; split <;> rfl

theorem f68_ht (hg : GOk H g) (hG : Gl H g E) (h : StR H g k sb ss cap bd pwb s) (hp : PwR H g k pwb P) (hN : StN ss cap bd s) (hmT : ∀ x b, s.m x = some b → b ∈ s.T) {nm : ByteArray} {size : Int} :
    HT Tryz.prog 68 [.pointer (some ⟨sb, 0, none⟩), .string nm, .int .i64 size] H (callPost H g k sb ss cap (bd + 16) pwb P.spend.1 (truncR ss cap E P s nm size)) := by
  have hm : cap * ss ≤ 12 * 16 := Nat.mul_le_mul hN.shp.2.2 hN.shp.2.1
  have hcl := hN.shp.2.2
  have hbdl := hN.bd
  apply f68_of
  refine spendK hg hG h hp (fun hsp H1 e1 r1 p1 => ⟨s, g, e1.mono fun tg h => SpN.pw h, r1.mono (Nat.le_add_right _ _), p1, .inl ⟨hsp, rfl, rfl⟩⟩) fun hsp H1 e1 r1 p1 G1 => ?_
  have E1 : Ev (SpN k) H g H1 g := e1.mono fun tg h => SpN.pw h
  refine findK G1 r1 (fun hf => ⟨s, g, E1, r1.mono (Nat.le_add_right _ _), p1, .inr ⟨hsp, .inl ⟨hf, rfl, rfl⟩⟩⟩) fun b hf => ⟨fun ho => ?_, fun ho => ?_⟩
  · obtain ⟨t, x, he, hc⟩ := G1.get 3 (by decide) (by decide)
    exact ⟨t, x, hc, s, g, E1, r1.mono (Nat.le_add_right _ _), p1, .inr ⟨hsp, .inr ⟨b, hf, .inl ⟨of_decide_eq_true ho, he.symm, rfl⟩⟩⟩⟩
  · have ho := of_decide_eq_false ho
    obtain ⟨z, hz⟩ : ∃ z : Nat, size = (z : Int) := ⟨size.toNat, by omega⟩
    subst hz
    have hbT := fnd_T hmT hf
    refine (f101_ht r1 hN.shp.2).mono fun v H2 ⟨he, hv⟩ => ⟨_, hv, fun hbig => ?_, fun hbig => ?_⟩
    · subst he
      have hbig := of_decide_eq_true hbig
      obtain ⟨db, q, k1, d1⟩ := r1.ex
      refine ⟨sb, 0, rfl, _, Cells.of k1 rfl, sb, 0, rfl, _, _, k1, by simp, fun H3 hw3 => ?_⟩
      obtain ⟨e3, r3⟩ := r1.own (used' := s.used) (nxt' := s.nxt) (q' := { q with h := IntKind.wrap .u64 (q.h + 1) }) e1.ok d1 hw3 rfl
      obtain ⟨t, x, he, hc⟩ := (G1.ev e3 (fun hc => by cases hc)).get 1 (by decide) (by decide)
      refine ⟨t, x, hc, s, g, E1.trans (e3.mono fun tg h => SpN.st h), r3.mono (Nat.le_add_right _ _), p1.in (e3.mono fun tg h => SpI.st h), .inr ⟨hsp, .inr ⟨b, hf, .inr ⟨by omega, .inl ⟨?_, he.symm, rfl⟩⟩⟩⟩⟩
      unfold truncF
      rw [if_pos (by simp; omega)]
    · subst he
      have hbig := of_decide_eq_false hbig
      have hfit : z ≤ cap * ss := by omega
      refine (f123_ht e1.ok G1 r1 hN hbT hfit).mono fun v H3 ⟨s1, e3, r3, hor⟩ => ⟨_, rfl, ?_⟩
      have E3 := E1.trans (e3.mono fun tg h => h.le)
      have p3 := p1.in e3
      have htF : truncF ss cap s b z = match resv ss cap s b z with
          | none => none
          | some s1 => some { s1 with O := oset s1.O b (truncOb ss (s1.O b) z) } := by
        unfold truncF
        rw [if_neg (by omega)]
      rcases hor with ⟨hv3, hs1⟩ | ⟨hv3, hs1, hss⟩
      · subst hv3
        rw [hs1] at htF
        simp only at htF
        obtain ⟨a1, a2, a3, a4, a5, a6, a7, a8⟩ := resv_some hs1
        have hN1 := hN.same a1 a7 a6 (resv_used hN.used hs1)
        have hb1 : b ∈ s1.T := by rw [a1]; exact hbT
        have hO := r3.obs b hb1
        have hOf := hO.fit.1
        obtain ⟨sp, sn, sc, o1, o2⟩ := hO.ex
        obtain ⟨db1, q1, k3, d3⟩ := r3.ex
        have last : ∀ {H4 : Heap} {g4 : Gh} {o4 : Ob}, Ev (SpI k) H3 g H4 g4 → o4.id = (s1.O b).id → StR H4 g4 k sb ss cap (bd + cap + 1) pwb { s1 with O := oset s1.O b o4 } → truncOb ss (s1.O b) z = o4.setSize z →
            f68_L1 (some ⟨sb, 0, none⟩) (z : Int) (some ⟨b, 0, none⟩) H4 (callPost H g k sb ss cap (bd + 16) pwb P.spend.1 (truncR ss cap E P s nm (z : Int))) := by
          intro H4 g4 o4 e4 hid4 r4 htr
          have O4 := r4.obs b hb1
          simp only [oset_same] at O4
          apply f68_L1_of
          refine (f125_ht e4.ok O4 (by omega) (s := z) hfit).mono fun v H5 ⟨g5, hv5, e5, O5⟩ => ⟨hv5, ?_⟩
          have r5 := r4.obj (b := b) (bd' := bd + cap + 1 + 1) (oset_ids hid4 hN1.ids) hb1 e5 (fun tg h => .inl (by simp only [oset_same]; exact h)) (by simp only [oset_same]; exact O5) (by simp only [oset_same]; exact setSize_id) (by omega)
          obtain ⟨db, q, k5, d5⟩ := r5.ex
          refine ⟨sb, 0, rfl, _, Cells.of k5 rfl, sb, 0, rfl, _, _, k5, by simp, fun H6 hw6 => ?_⟩
          obtain ⟨e6, r6⟩ := r5.own (used' := s1.used) (nxt' := s1.nxt) (q' := { q with b := IntKind.wrap .u64 (q.b + 1) }) e5.ok d5 hw6 rfl
          have e5' : Ev (SpI k) H4 g4 H5 g5 := e5.mono fun tg h => SpI.obj (by rw [hid4]; exact hN1.pos b hb1) h
          refine ⟨_, g5, (((E3.trans (e4.mono fun tg h => h.le)).trans (e5'.mono fun tg h => h.le)).trans (e6.mono fun tg h => SpN.st h)), r6.mono (by omega), ((p3.in e4).in e5').in (e6.mono fun tg h => SpI.st h), .inr ⟨hsp, .inr ⟨b, hf, .inr ⟨by omega, .inr ⟨?_, rfl⟩⟩⟩⟩⟩
          show truncF ss cap s b ((z : Int).toNat) = _
          rw [Int.toNat_natCast, htF, htr]
          simp only [oset_oset]
        refine ⟨_, binIs_if_neq (.inl rfl) Tryz.underlying48, (fun h => by cases h), fun _ => ⟨b, 0, rfl, _, Cells.of o1 rfl, fun hlt => ?_, fun hlt => ?_⟩⟩
        · have hlt := of_decide_eq_true hlt
          refine ⟨sb, 0, rfl, _, Cells.of k3 rfl, b, 0, rfl, _, Cells.of o1 rfl, b, 0, rfl, _, Cells.of o1 rfl, ?_⟩
          have h124 := f124_ht e3.ok hO.pl (by omega) (off := z) (n := (s1.O b).size - z) (by omega)
          rw [show z + ((s1.O b).size - z) = (s1.O b).size by omega] at h124
          refine h124.mono fun v H4 ⟨g4, mm, hv4, e4, p4⟩ => ⟨_, hv4, ?_⟩
          have O4 := hO.plane e4 p4 (by omega)
          have r4 := r3.obj (b := b) (bd' := bd + cap + 1) hN1.ids hb1 e4 (fun tg h => .inl (.inr (.inr h))) O4 rfl (by omega)
          have n20 : ¬ SpP (zO k (s1.O b).id) (20, k) := fun h => by rcases h.2 with h | h | h | h | h <;> simp at h
          have k4 := e4.get r3.tag n20 k3
          have d4 : DirR H4 g4 k db1 s1.m s1.xs s1.st s1.jr := d3.ev e4 fun tg ht hc => by
            have := ht.2
            rcases hc.2 with h | h | h | h | h <;> omega
          refine ⟨Cells.of k4 rfl, sb, 0, rfl, _, _, k4, by simp, fun H5 hw5 => ?_⟩
          obtain ⟨e5, r5⟩ := r4.own (used' := s1.used) (nxt' := s1.nxt) (q' := { q1 with c := IntKind.wrap .u64 (q1.c + IntKind.wrap .u64 mm) }) e4.ok d4 hw5 rfl
          refine last (o4 := { s1.O b with pl := zrF ss ((s1.O b).size - z) (s1.O b).pl z ((s1.O b).size - z) }) ((e4.mono fun tg h => SpI.obj (hN1.pos b hb1) (.inr (.inr h))).trans (e5.mono fun tg h => SpI.st h)) rfl r5 ?_
          unfold truncOb
          rw [if_pos (by omega)]
        · have hlt := of_decide_eq_false hlt
          refine last (o4 := s1.O b) (Ev.refl e3.ok) rfl ?_ ?_
          · have : oset s1.O b (s1.O b) = s1.O := by
              funext x
              simp only [oset]
              split
              · rename_i hx; rw [hx]
              · rfl
            rw [this]
            exact r3.mono (by omega)
          · unfold truncOb
            rw [if_neg (by omega)]
      · subst hv3
        obtain ⟨hI, hnil⟩ := isI_E hG 1 (by decide) (by decide)
        refine ⟨_, binIs_if_neq hI Tryz.underlying48, fun _ => ⟨s1, g, E3, r3.mono (Nat.le_add_right _ _), p3, .inr ⟨hsp, .inr ⟨b, hf, .inr ⟨by omega, .inl ⟨?_, rfl, hss⟩⟩⟩⟩⟩, (fun h => by rw [hnil] at h; cases h)⟩
        show truncF ss cap s b ((z : Int).toNat) = _
        rw [Int.toNat_natCast, htF, hs1]

/-- What Stat answers. -/
def statV (E : Nat → Value) (P : Pw) (s : StV) (nm : ByteArray) (v : Value) : Prop :=
  (P.down = true ∧ v = .tuple #[.agg #[.int .u64 0, .int .i64 0, .int .i64 0, .int .i64 0], E 0]) ∨ (P.down = false ∧ ((fnd s nm = none ∧ v = .tuple #[.agg #[.int .u64 0, .int .i64 0, .int .i64 0, .int .i64 0], fe E nm]) ∨
    ∃ b n, fnd s nm = some b ∧ v = .tuple #[.agg #[.int .u64 (s.O b).id, .int .i64 ((s.O b).size : Int), .int .i64 ((s.O b).res : Int), .int .i64 ((n : Nat) : Int)], .nilIface] ∧ (n = 0 ↔ (s.O b).pl.clean)))

theorem f21_ht (hG : Gl H g E) (h : StR H g k sb ss cap bd pwb s) (hp : PwR H g k pwb P) (hmT : ∀ x b, s.m x = some b → b ∈ s.T) {nm : ByteArray} :
    HT Tryz.prog 21 [.pointer (some ⟨sb, 0, none⟩), .string nm] H fun v H' => H' = H ∧ statV E P s nm v := by
  apply f21_of
  intro _
  refine checkK hG h hp (fun hd => ⟨rfl, .inl ⟨hd, rfl⟩⟩) fun hd => ?_
  refine findK hG h (fun hf => ⟨rfl, .inr ⟨hd, .inl ⟨hf, rfl⟩⟩⟩) fun b hf => ?_
  refine (f77_ht (h.obs b (fnd_T hmT hf))).mono fun v H1 ⟨he, n, hv, hn⟩ => ⟨_, _, _, _, hv, he, .inr ⟨hd, .inr ⟨b, n, hf, rfl, hn⟩⟩⟩

end

end Go.Proofs.Qxb6500695aGreatFmt
