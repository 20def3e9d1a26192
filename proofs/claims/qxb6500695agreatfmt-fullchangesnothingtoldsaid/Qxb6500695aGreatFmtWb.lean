/-
  THE DIRECTORY, PART B: create, remove, rename, redo.
-/
import Derived.Test.Qxb6500695aGreatFmtWa
namespace Go.Proofs.Qxb6500695aGreatFmt
open Go Go.Eng Go.Proofs
set_option maxRecDepth 100000
set_option linter.unusedVariables false
set_option linter.unusedSimpArgs false
set_option linter.unusedSectionVars false

section
variable {S : Nat × Int → Prop} {H H' : Heap} {g g' : Gh} {k : Int} {db r : Nat} {m st : NM} {xs : List ByteArray} {jr : List Jr} {nm : ByteArray}

theorem ntag {i j : Nat} (h : j ≠ i) : ¬ ((fun tg : Nat × Int => tg = (i, k)) (j, k)) := fun hc => h (by simpa using hc)

theorem DirR.putL {ob : Nat} (hg : GOk H g) (h : DirR H g k db m xs st jr) {K : Unit → Heap → Prop} (hK : ∀ H', Ev (fun tg => tg = (22, k)) H g H' g → DirR H' g k db (mset m nm (some ob)) xs st jr → K () H') :
    ∃ (x : Option Nat), Cells H db 0 [.map x] ∧ SemOk Tryz.prog (Instr.mapUpdate 168 (.map x) (.string nm) (.pointer (oP (some ob)))) H K := by
  obtain ⟨lr, op, on, oc, sr, jp, jn, jc, h1, h2, h3, h4, h5, h6, h7⟩ := h.ex
  exact ⟨some lr, Cells.of h1 rfl, h3.put (S := fun tg => tg = (22, k)) hg h2 rfl fun H' e hm => hK H' e ⟨h.tag, lr, op, on, oc, sr, jp, jn, jc, e.get h.tag (ntag (by decide)) h1, h2, hm, h4.ev e (ntag (by decide)), h5, h6.ev h5 e (ntag (by decide)), h7.ev e (ntag (by decide))⟩⟩

theorem DirR.delL (hg : GOk H g) (h : DirR H g k db m xs st jr) {K : Value → Heap → Prop} (hK : ∀ H', Ev (fun tg => tg = (22, k)) H g H' g → DirR H' g k db (mset m nm none) xs st jr → K (.tuple #[]) H') :
    ∃ (x : Option Nat), Cells H db 0 [.map x] ∧ SemOk Tryz.prog (Builtin.delete_ #[168, 9] 0 #[.map x, .string nm]) H K := by
  obtain ⟨lr, op, on, oc, sr, jp, jn, jc, h1, h2, h3, h4, h5, h6, h7⟩ := h.ex
  exact ⟨some lr, Cells.of h1 rfl, h3.del (S := fun tg => tg = (22, k)) hg h2 rfl fun H' e hm => hK H' e ⟨h.tag, lr, op, on, oc, sr, jp, jn, jc, e.get h.tag (ntag (by decide)) h1, h2, hm, h4.ev e (ntag (by decide)), h5, h6.ev h5 e (ntag (by decide)), h7.ev e (ntag (by decide))⟩⟩

theorem DirR.putS {ob : Nat} (hg : GOk H g) (h : DirR H g k db m xs st jr) {K : Unit → Heap → Prop} (hK : ∀ H', Ev (fun tg => tg = (24, k)) H g H' g → DirR H' g k db m xs (mset st nm (some ob)) jr → K () H') :
    ∃ (x : Option Nat), Cells H db (0 + 2) [.map x] ∧ SemOk Tryz.prog (Instr.mapUpdate 168 (.map x) (.string nm) (.pointer (oP (some ob)))) H K := by
  obtain ⟨lr, op, on, oc, sr, jp, jn, jc, h1, h2, h3, h4, h5, h6, h7⟩ := h.ex
  exact ⟨some sr, Cells.of h1 rfl, h6.put (S := fun tg => tg = (24, k)) hg h5 rfl fun H' e hm => hK H' e ⟨h.tag, lr, op, on, oc, sr, jp, jn, jc, e.get h.tag (ntag (by decide)) h1, h2, h3.ev h2 e (ntag (by decide)), h4.ev e (ntag (by decide)), h5, hm, h7.ev e (ntag (by decide))⟩⟩

theorem DirR.delS (hg : GOk H g) (h : DirR H g k db m xs st jr) {K : Value → Heap → Prop} (hK : ∀ H', Ev (fun tg => tg = (24, k)) H g H' g → DirR H' g k db m xs (mset st nm none) jr → K (.tuple #[]) H') :
    ∃ (x : Option Nat), Cells H db (0 + 2) [.map x] ∧ SemOk Tryz.prog (Builtin.delete_ #[168, 9] 0 #[.map x, .string nm]) H K := by
  obtain ⟨lr, op, on, oc, sr, jp, jn, jc, h1, h2, h3, h4, h5, h6, h7⟩ := h.ex
  exact ⟨some sr, Cells.of h1 rfl, h6.del (S := fun tg => tg = (24, k)) hg h5 rfl fun H' e hm => hK H' e ⟨h.tag, lr, op, on, oc, sr, jp, jn, jc, e.get h.tag (ntag (by decide)) h1, h2, h3.ev h2 e (ntag (by decide)), h4.ev e (ntag (by decide)), h5, hm, h7.ev e (ntag (by decide))⟩⟩

theorem DirR.appJ (hg : GOk H g) (h : DirR H g k db m xs st jr) (j : Jr) (hb : jr.length < 2 ^ 32) {R : Heap → Prop} (hR : ∀ H' g', Ev (SpD k) H g H' g' → DirR H' g' k db m xs st (jr ++ [j]) → R H') :
    ∃ (x : Option Addr) (xn xc : Nat), Cells H db (0 + 3) [.slice x xn xc] ∧ ∀ (b : Nat) (H1 : Heap), Al H (.cells #[.int .u8 j.ch, .string j.name, .string j.to, .pointer (oP (some j.ob)), .pointer (oP j.vic)] 271 (0, 0)) b H1 →
      SemOk Tryz.prog (Builtin.append_ #[169, 169] 169 #[.slice x xn xc, .slice (some ⟨b, 0, none⟩) 1 1]) H1 fun v H2 => ∃ (y : Option Addr) (yn yc : Nat), v = .slice y yn yc ∧ ∃ (b' o' : Nat), some (⟨db, 0, none⟩ : Addr) = some ⟨b', o', none⟩ ∧ ∃ (c5 : Array Value) (T5 : TypeId), H2 b' = some (.cells c5 T5 (0, 0)) ∧ (o' + 3) + 1 ≤ c5.size ∧
        ∀ (H3 : Heap), Wr H2 b' (.cells (setAll c5 (o' + 3) [.slice y yn yc]) T5 (0, 0)) H3 → R H3 := by
  obtain ⟨lr, op, on, oc, sr, jp, jn, jc, h1, h2, h3, h4, h5, h6, h7⟩ := h.ex
  have hlen := h7.own.len
  have hi : Tryz.prog.info? 271 = some Tryz.t271 := by kernel_rfl
  refine ⟨jp, jn, jc, Cells.of h1 rfl, fun b H1 ha => ?_⟩
  refine appT (S := fun tg => tg = (25, k)) (inf := Tryz.t271) (zero := .agg #[.int .u8 0, .string ⟨#[]⟩, .string ⟨#[]⟩, .pointer none, .pointer none]) (x := j) (enc := Jr.cs) Tryz.underlying169 hi (by kernel_rfl) rfl (by decide) rfl ha rfl (by intro v hv; simp [Jr.cs] at hv; rcases hv with rfl | rfl | rfl | rfl | rfl <;> rfl) hg h7 rfl (by omega) fun p' c' H2 g2 hpn e2 o2 _ => ⟨p', _, c', rfl, db, 0, rfl, _, _, e2.get h.tag (ntag (by decide)) h1, by simp, fun H3 hw => ?_⟩
  have hw' : Wr H2 db (.cells #[.map (some lr), .slice op on oc, .map (some sr), .slice p' (jn + 1) c'] 171 (0, 0)) H3 := hw
  have e3 : Ev (fun tg => tg = (21, k)) H2 g2 H3 g2 := dirWr e2.ok (e2.tag _ _ h.tag) rfl hw'
  refine hR H3 g2 ((e2.mono fun tg ht => by rw [ht]; exact ⟨rfl, by simp, by simp⟩).trans (e3.mono fun tg ht => by rw [ht]; exact ⟨rfl, by simp, by simp⟩)) ⟨e2.tag _ _ h.tag, lr, op, on, oc, sr, p', jn + 1, c', hw'.same, e2.tag _ _ h2, (h3.ev h2 e2 (ntag (by decide))).ev (e2.tag _ _ h2) e3 (ntag (by decide)), (h4.ev e2 (ntag (by decide))).ev e3 (ntag (by decide)), e2.tag _ _ h5, (h6.ev h5 e2 (ntag (by decide))).ev (e2.tag _ _ h5) e3 (ntag (by decide)), o2.ev e3 (ntag (by decide))⟩

theorem sp22 {tg : Nat × Int} (h : tg = (22, k)) : SpD k tg := by rw [h]; exact ⟨rfl, by simp, by simp⟩
theorem sp24 {tg : Nat × Int} (h : tg = (24, k)) : SpD k tg := by rw [h]; exact ⟨rfl, by simp, by simp⟩

theorem f120_ht {ob : Nat} (hg : GOk H g) (h : DirR H g k db m xs st jr) (hs : Srt xs) (hb : xs.length < 2 ^ 30) (hj : jr.length < 2 ^ 32) :
    HT Tryz.prog 120 [.pointer (some ⟨db, 0, none⟩), .string nm, .pointer (some ⟨ob, 0, none⟩)] H fun v H' => ∃ i g', v = .tuple #[] ∧ Spot xs nm i ∧ Ev (SpD k) H g H' g' ∧ DirR H' g' k db (mset m nm (some ob)) (insN xs nm i) st (jr ++ [⟨0, nm, ⟨#[]⟩, ob, none⟩]) := by
  apply f120_of
  refine ⟨db, 0, rfl, ?_⟩
  refine h.putL (nm := nm) (ob := ob) hg fun H1 e1 d1 => ?_
  refine (f175_ht (nm := nm) e1.ok d1 hs hb).mono fun v H2 ⟨i, g2, hv2, hsp, e2, d2⟩ => ⟨hv2, db, 0, rfl, ?_⟩
  refine d2.appJ e2.ok ⟨0, nm, ⟨#[]⟩, ob, none⟩ hj (R := fun H5 => ∃ i g', Value.tuple #[] = .tuple #[] ∧ Spot xs nm i ∧ Ev (SpD k) H g H5 g' ∧ DirR H5 g' k db (mset m nm (some ob)) (insN xs nm i) st (jr ++ [⟨0, nm, ⟨#[]⟩, ob, none⟩])) fun H3 g3 e3 d3 => ⟨i, g3, rfl, hsp, ((e1.mono fun _ h => sp22 h).trans (e2.mono fun _ h => h.le)).trans e3, d3⟩

theorem f127_ht {ob : Nat} (hg : GOk H g) (h : DirR H g k db m xs st jr) (hs : Srt xs) (hb : xs.length < 2 ^ 30) (hj : jr.length < 2 ^ 32) (hm : nm ∈ xs) (hob : m nm = some ob) :
    HT Tryz.prog 127 [.pointer (some ⟨db, 0, none⟩), .string nm] H fun v H' => ∃ i g', v = .tuple #[] ∧ xs[i]? = some nm ∧ Ev (SpD k) H g H' g' ∧ DirR H' g' k db (mset m nm none) (delN xs i) st (jr ++ [⟨1, nm, ⟨#[]⟩, ob, some ob⟩]) := by
  obtain ⟨lr0, op, on, oc, sr, jp, jn, jc, h1, h2, h3, h4, h5, h6, h7⟩ := h.ex
  obtain ⟨es, ck, hr, hl⟩ := h3.look nm
  rw [hob] at hl
  apply f127_of
  refine ⟨db, 0, rfl, some lr0, Cells.of h1 rfl, lr0, es, ck, rfl, hr, _, hl, db, 0, rfl, ?_⟩
  refine h.delL (nm := nm) hg fun H1 e1 d1 => ?_
  refine ⟨rfl, ?_⟩
  refine (f177_ht (nm := nm) e1.ok d1 hs hb hm).mono fun v H2 ⟨i, g2, hv2, hi, e2, d2⟩ => ⟨hv2, db, 0, rfl, ?_⟩
  refine d2.appJ e2.ok ⟨1, nm, ⟨#[]⟩, ob, some ob⟩ hj (R := fun H5 => ∃ i g', Value.tuple #[] = .tuple #[] ∧ xs[i]? = some nm ∧ Ev (SpD k) H g H5 g' ∧ DirR H5 g' k db (mset m nm none) (delN xs i) st (jr ++ [⟨1, nm, ⟨#[]⟩, ob, some ob⟩])) fun H3 g3 e3 d3 => ⟨i, g3, rfl, hi, ((e1.mono fun _ h => sp22 h).trans (e2.mono fun _ h => h.le)).trans e3, d3⟩

theorem delN_sub (xs : List ByteArray) (i : Nat) : (delN xs i).Sublist xs := by
  unfold delN
  rw [← List.eraseIdx_eq_take_drop_succ]
  exact List.eraseIdx_sublist _ _

theorem delN_srt {i : Nat} (h : Srt xs) : Srt (delN xs i) := List.Pairwise.sublist (delN_sub xs i) h

/-- What a rename leaves of the names. -/
def renN (m : NM) (xs : List ByteArray) (nm to : ByteArray) (ys : List ByteArray) : Prop :=
  ∃ i, xs[i]? = some nm ∧ (m to = none → ∃ j, Spot (delN xs i) to j ∧ ys = insN (delN xs i) to j) ∧ (m to ≠ none → ys = delN xs i)

theorem f126_ht {ob : Nat} {to : ByteArray} (hg : GOk H g) (h : DirR H g k db m xs st jr) (hs : Srt xs) (hb : xs.length < 2 ^ 30) (hj : jr.length < 2 ^ 32) (hm : nm ∈ xs) (hob : m nm = some ob) :
    HT Tryz.prog 126 [.pointer (some ⟨db, 0, none⟩), .string nm, .string to] H fun v H' => ∃ ys g', v = .tuple #[] ∧ renN m xs nm to ys ∧ Ev (SpD k) H g H' g' ∧ DirR H' g' k db (mset (mset m nm none) to (some ob)) ys st (jr ++ [⟨2, nm, to, ob, m to⟩]) := by
  obtain ⟨lr0, op, on, oc, sr, jp, jn, jc, h1, h2, h3, h4, h5, h6, h7⟩ := h.ex
  obtain ⟨es, ck, hr, hl⟩ := h3.look nm
  obtain ⟨es', ck', hr', hl'⟩ := h3.look to
  rw [hob] at hl
  have last : ∀ {H2 : Heap} {g2 : Gh} {ys : List ByteArray}, renN m xs nm to ys → Ev (SpD k) H g H2 g2 → DirR H2 g2 k db (mset m nm none) ys st jr →
      f126_L1 (some ⟨db, 0, none⟩) nm to (oP (some ob)) (oP (m to)) H2 fun v H' => ∃ ys g', v = .tuple #[] ∧ renN m xs nm to ys ∧ Ev (SpD k) H g H' g' ∧ DirR H' g' k db (mset (mset m nm none) to (some ob)) ys st (jr ++ [⟨2, nm, to, ob, m to⟩]) := by
    intro H2 g2 ys hys e2 d2
    apply f126_L1_of
    refine ⟨db, 0, rfl, ?_⟩
    refine d2.putL (nm := to) (ob := ob) e2.ok fun H3 e3 d3 => ?_
    refine ⟨db, 0, rfl, ?_⟩
    refine d3.appJ e3.ok ⟨2, nm, to, ob, m to⟩ hj (R := fun H' => ∃ ys g', Value.tuple #[] = .tuple #[] ∧ renN m xs nm to ys ∧ Ev (SpD k) H g H' g' ∧ DirR H' g' k db (mset (mset m nm none) to (some ob)) ys st (jr ++ [⟨2, nm, to, ob, m to⟩])) fun H4 g4 e4 d4 => ⟨ys, g4, rfl, hys, (e2.trans (e3.mono fun _ h => sp22 h)).trans e4, d4⟩
  apply f126_of
  refine ⟨db, 0, rfl, some lr0, Cells.of h1 rfl, lr0, es, ck, rfl, hr, _, hl, db, 0, rfl, some lr0, Cells.of h1 rfl, lr0, es', ck', rfl, hr', _, hl', db, 0, rfl, ?_⟩
  refine h.delL (nm := nm) hg fun H1 e1 d1 => ?_
  refine ⟨rfl, ?_⟩
  refine (f177_ht (nm := nm) e1.ok d1 hs hb hm).mono fun v H2 ⟨i, g2, hv2, hi, e2, d2⟩ => ⟨hv2, _, binIs_ptr_eql Tryz.underlying152, ?_⟩
  have e12 : Ev (SpD k) H g H2 g2 := (e1.mono fun _ h => sp22 h).trans (e2.mono fun _ h => h.le)
  refine ⟨fun hv => ?_, fun hv => ?_⟩
  · have hnone : m to = none := by
      cases hc : m to with
      | none => rfl
      | some x => rw [hc] at hv; simp [oP] at hv
    refine (f175_ht (nm := to) e2.ok d2 (delN_srt hs) (Nat.lt_of_le_of_lt (delN_sub xs i).length_le hb)).mono fun v H3 ⟨j, g3, hv3, hsp, e3, d3⟩ => ⟨hv3, ?_⟩
    exact last ⟨i, hi, fun _ => ⟨j, hsp, rfl⟩, fun hx => absurd hnone hx⟩ (e12.trans (e3.mono fun _ h => h.le)) d3
  · have hsome : m to ≠ none := by
      intro hc
      rw [hc] at hv
      simp [oP] at hv
    exact last ⟨i, hi, fun hx => absurd hx hsome, fun _ => rfl⟩ e12 d2

/-- A record done again on the media. -/
def redo (j : Jr) (st : NM) : NM := if j.ch = 0 then mset st j.name (some j.ob) else if j.ch = 1 then mset st j.name none else if j.ch = 2 then mset (mset st j.name none) j.to (some j.ob) else st

def redoN : List Jr → NM → NM
  | [], st => st
  | j :: r, st => redoN r (redo j st)

theorem redoN_append (a b : List Jr) (st : NM) : redoN (a ++ b) st = redoN b (redoN a st) := by
  induction a generalizing st with
  | nil => rfl
  | cons x r ih => exact ih _

theorem f184_ht (hg : GOk H g) (h : DirR H g k db m xs st jr) (j : Jr) :
    HT Tryz.prog 184 [.pointer (some ⟨db, 0, none⟩), .agg #[.int .u8 j.ch, .string j.name, .string j.to, .pointer (oP (some j.ob)), .pointer (oP j.vic)]] H fun v H' => v = .tuple #[] ∧ Ev (fun tg => tg = (24, k)) H g H' g ∧ DirR H' g k db m xs (redo j st) jr := by
  apply f184_of
  intro _
  unfold redo
  refine ⟨fun h0 => ?_, fun h0 => ⟨fun h1 => ?_, fun h1 => ⟨fun h2 => ?_, fun h2 => ?_⟩⟩⟩
  · rw [if_pos (by simpa using h0)]
    refine ⟨db, 0, rfl, ?_⟩
    exact h.putS (nm := j.name) (ob := j.ob) hg fun H1 e1 d1 => (⟨rfl, e1, d1⟩ : Value.tuple #[] = .tuple #[] ∧ Ev (fun tg => tg = (24, k)) H g H1 g ∧ DirR H1 g k db m xs (mset st j.name (some j.ob)) jr)
  · rw [if_neg (by simpa using h0), if_pos (by simpa using h1)]
    refine ⟨db, 0, rfl, ?_⟩
    exact h.delS (nm := j.name) hg fun H1 e1 d1 => ⟨rfl, (⟨rfl, e1, d1⟩ : Value.tuple #[] = .tuple #[] ∧ Ev (fun tg => tg = (24, k)) H g H1 g ∧ DirR H1 g k db m xs (mset st j.name none) jr)⟩
  · rw [if_neg (by simpa using h0), if_neg (by simpa using h1), if_pos (by simpa using h2)]
    refine ⟨db, 0, rfl, ?_⟩
    refine h.delS (nm := j.name) hg fun H1 e1 d1 => ?_
    refine ⟨rfl, db, 0, rfl, ?_⟩
    exact d1.putS (nm := j.to) (ob := j.ob) e1.ok fun H2 e2 d2 => (⟨rfl, e1.trans e2, d2⟩ : Value.tuple #[] = .tuple #[] ∧ Ev (fun tg => tg = (24, k)) H g H2 g ∧ DirR H2 g k db m xs (mset (mset st j.name none) j.to (some j.ob)) jr)
  · rw [if_neg (by simpa using h0), if_neg (by simpa using h1), if_neg (by simpa using h2)]
    exact ⟨rfl, Ev.refl hg, h⟩

end

end Go.Proofs.Qxb6500695aGreatFmt
