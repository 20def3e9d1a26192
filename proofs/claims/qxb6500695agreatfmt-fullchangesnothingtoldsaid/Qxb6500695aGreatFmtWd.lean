/-
  THE DIRECTORY, PART D: what a crash leaves of it.
-/
import Derived.Test.Qxb6500695aGreatFmtWc
import Derived.Test.Qxb6500695aGreatFmtXj
import Derived.Test.Qxb6500695aGreatFmtZe
namespace Go.Proofs.Qxb6500695aGreatFmt
open Go Go.Eng Go.Proofs
set_option maxRecDepth 100000
set_option linter.unusedVariables false
set_option linter.unusedSimpArgs false
set_option linter.unusedSectionVars false

def sumOf {α : Type} (f : α → Nat) : List α → Nat
  | [] => 0
  | x :: r => f x + sumOf f r

theorem sumOf_append {α : Type} (f : α → Nat) (a b : List α) : sumOf f (a ++ b) = sumOf f a + sumOf f b := by
  induction a with
  | nil => simp [sumOf]
  | cons x r ih => simp [sumOf, ih]; omega

theorem sumOf_perm {α : Type} (f : α → Nat) {a b : List α} (h : a.Perm b) : sumOf f a = sumOf f b := by
  induction h with
  | nil => rfl
  | cons x _ ih => simp [sumOf, ih]
  | swap x y l => simp [sumOf]; omega
  | trans _ _ h1 h2 => rw [h1, h2]

theorem sumOf_le {α : Type} [DecidableEq α] (f : α → Nat) : ∀ {a b : List α}, a.Nodup → (∀ x ∈ a, x ∈ b) → sumOf f a ≤ sumOf f b
  | [], _, _, _ => Nat.zero_le _
  | x :: r, b, hn, hs => by
    rw [List.nodup_cons] at hn
    have hx := hs x List.mem_cons_self
    have hp := List.perm_cons_erase hx
    rw [sumOf_perm f hp]
    have := sumOf_le f (b := b.erase x) hn.2 fun y hy => by
      have hy2 := hs y (List.mem_cons_of_mem _ hy)
      have hne : y ≠ x := fun hc => hn.1 (hc ▸ hy)
      exact (List.mem_erase_of_ne hne).2 hy2
    simp only [sumOf]
    omega

theorem sumOf_one {α : Type} (l : List α) : sumOf (fun _ => 1) l = l.length := by
  induction l with
  | nil => rfl
  | cons x r ih => simp [sumOf, ih]; omega

theorem len_le {α : Type} [DecidableEq α] {a b : List α} (hn : a.Nodup) (hs : ∀ x ∈ a, x ∈ b) : a.length ≤ b.length := by
  rw [← sumOf_one a, ← sumOf_one b]
  exact sumOf_le _ hn hs

def SpT (k : Int) (tg : Nat × Int) : Prop := SpD k tg ∨ tg = (42, 0)

def setlPost (H0 : Heap) (g0 : Gh) (k : Int) (db : Nat) (m1 : NM) (v : Value) (H' : Heap) : Prop :=
  ∃ ys g', v = .tuple #[] ∧ Ev (SpT k) H0 g0 H' g' ∧ DirR H' g' k db m1 ys m1 [] ∧ Srt ys ∧ ∀ x, x ∈ ys ↔ m1 x ≠ none

section
variable {S : Nat × Int → Prop} {H H' : Heap} {g g' : Gh} {k : Int} {db r : Nat} {m st : NM} {xs : List ByteArray} {jr : List Jr} {nm : ByteArray}

theorem spt {j : Nat} (h : 21 ≤ j ∧ j ≤ 25) {tg : Nat × Int} (ht : tg = (j, k)) : SpT k tg := .inl (by rw [ht]; exact ⟨rfl, h.1, h.2⟩)

theorem n42 {j : Nat} {z : Int} (hj : j ≠ 42) : ¬ ((fun tg : Nat × Int => tg = (42, 0)) (j, z)) := fun h => hj (by simp at h; exact h.1)

theorem keyOf {es : Array MapEntry} {ck : Nat} {m1 : NM} (hok : MapOkS es ck) (hget : ∀ x, sget es.toList x = (m1 x).map fun b => .pointer (oP (some b))) {e : MapEntry} (he : e ∈ es.toList) : e.key = .string (keyS e.key) ∧ ∃ b, m1 (keyS e.key) = some b ∧ e.val = .pointer (oP (some b)) := by
  obtain ⟨x, hx⟩ := hok.1 e he
  have h1 := sget_of_mem hok.2.1 he
  rw [hget] at h1
  refine ⟨by rw [hx]; rfl, ?_⟩
  cases hm : m1 (keyS e.key) with
  | none => rw [hm] at h1; cases h1
  | some b => rw [hm] at h1; exact ⟨b, rfl, (Option.some.inj h1).symm⟩

theorem keyMem {es : Array MapEntry} {ck : Nat} {m1 : NM} (hok : MapOkS es ck) (hget : ∀ x, sget es.toList x = (m1 x).map fun b => .pointer (oP (some b))) (x : ByteArray) : x ∈ es.toList.map (fun e => keyS e.key) ↔ m1 x ≠ none := by
  constructor
  · intro h
    obtain ⟨e, he, rfl⟩ := List.mem_map.1 h
    obtain ⟨_, b, hb, _⟩ := keyOf hok hget he
    rw [hb]; simp
  · intro h
    cases hm : m1 x with
    | none => exact absurd hm h
    | some b =>
      have := hget x
      rw [hm] at this
      obtain ⟨e, he, hk, _⟩ := sget_mem this
      exact List.mem_map.2 ⟨e, he, hk⟩

theorem f145_L2_ht {H0 : Heap} {g0 : Gh} {m1 : NM} {lr sr bi ck : Nat} {es : Array MapEntry} (hok : MapOkS es ck) (hget : ∀ x, sget es.toList x = (m1 x).map fun b => .pointer (oP (some b))) (hes : es.size < 2 ^ 30) :
    ∀ (d : Nat) (vs : List MapEntry) (seen : Array Nat) (H : Heap) (g : Gh) (op : Option Addr) (on oc : Nat), vs.length + d = es.size + 1 → Met es seen vs → Ev (SpT k) H0 g0 H g → g db = some (21, k) → H db = some (.cells #[.map (some lr), .slice op on oc, .map (some sr), .slice none 0 0] 171 (0, 0)) →
      g lr = some (22, k) → H lr = some (.map es ck) → OwnT H g (23, k) 9 1 Str.cs op on oc (vs.map fun e => keyS e.key) → g sr = some (24, k) → MapIs H sr m1 → g bi = some (42, 0) → H bi = some (.mapIter (some lr) ck seen ck) →
      f145_L2 (some ⟨db, 0, none⟩) (some ⟨bi, 0, none⟩) H (setlPost H0 g0 k db m1) := by
  intro d
  induction d with
  | zero =>
    intro vs seen H g op on oc hd hmet
    have := hmet.len
    omega
  | succ d ih =>
    intro vs seen H g op on oc hd hmet hE htd hdb htl hlr hord hts hsr htb hbi
    have hlen := hord.own.len
    simp at hlen
    have hvl := hmet.len
    apply f145_L2_of
    refine semOk_nextS hbi hlr hok (fun hall => .inl ⟨rfl, ?_⟩) fun e he hns H1 hw1 => .inr ⟨e.key, e.val, rfl, ?_⟩
    · apply f145_L3_of
      refine ⟨(fun h => by cases h), fun _ => ⟨db, 0, rfl, op, on, oc, Cells.of hdb rfl, ?_⟩⟩
      have hperm := hmet.perm hok.2.2.2 hall
      have hpk := hperm.map fun e => keyS e.key
      have hnd : (vs.map fun e => keyS e.key).Nodup := hpk.nodup_iff.2 hok.2.1
      refine (f167_ht hE.ok hord (by omega) hnd).mono fun v H2 ⟨hv, ys, hp, hs, e2, o2⟩ => ⟨hv, ?_⟩
      refine ⟨ys, g, rfl, hE.trans (e2.mono fun tg h => spt (by decide) h), ⟨htd, lr, op, on, oc, sr, none, 0, 0, e2.get htd (ntag (by decide)) hdb, htl, ⟨es, ck, e2.get htl (ntag (by decide)) hlr, hok, hget⟩, o2, hts, hsr.ev hts e2 (ntag (by decide)), OwnT.nil Jr.size⟩, hs, fun x => ?_⟩
      rw [hp.mem_iff, hpk.mem_iff]
      exact keyMem hok hget x
    · have e1 : Ev (fun tg => tg = (42, 0)) H g H1 g := Ev.wr hE.ok hw1 fun tg htg => by rw [htb] at htg; cases htg; rfl
      obtain ⟨hkey, b, hb, hval⟩ := keyOf hok hget he
      have hlr1 := e1.get htl (n42 (by decide)) hlr
      have hdb1 := e1.get htd (n42 (by decide)) hdb
      apply f145_L3_of
      refine ⟨fun _ => ?_, (fun h => by cases h)⟩
      refine semOk_entryS hw1.same hlr1 hok he ⟨keyS e.key, oP (some b), by rw [← hkey, hval], ?_⟩
      refine ⟨db, 0, rfl, op, on, oc, Cells.of hdb1 rfl, fun ab H2 ha => ?_⟩
      have hi9 : Tryz.prog.info? 9 = some Tryz.t9 := by kernel_rfl
      refine appT (S := fun tg => tg = (23, k)) (inf := Tryz.t9) (zero := .string ⟨#[]⟩) (x := keyS e.key) (enc := Str.cs) Tryz.underlying49 hi9 rfl rfl (by decide) rfl ha rfl (by intro v hv; simp [Str.cs] at hv; subst hv; rfl) e1.ok (hord.ev e1 (n42 (by decide))) rfl (by omega) fun p' c' H3 g3 hpn e3 o3 _ => ⟨p', _, c', rfl, ?_⟩
      have hdb3 := e3.get htd (ntag (by decide)) hdb1
      refine ⟨db, 0, rfl, _, _, hdb3, by simp, fun H4 hw4 => ?_⟩
      have hw4' : Wr H3 db (.cells #[.map (some lr), .slice p' (on + 1) c', .map (some sr), .slice none 0 0] 171 (0, 0)) H4 := hw4
      have e4 : Ev (fun tg => tg = (21, k)) H3 g3 H4 g3 := dirWr e3.ok (e3.tag _ _ htd) rfl hw4'
      have n2 : ∀ {i : Nat}, ¬ ((fun tg : Nat × Int => tg = (i, k)) (42, 0)) ∨ i = 42 := by
        intro i
        by_cases h : i = 42
        · exact .inr h
        · exact .inl fun hc => h (by simp at hc; exact hc.1.symm)
      have n23 : ¬ ((fun tg : Nat × Int => tg = (23, k)) (42, 0)) := fun hc => by simp at hc
      have n21 : ¬ ((fun tg : Nat × Int => tg = (21, k)) (42, 0)) := fun hc => by simp at hc
      refine ih (vs ++ [e]) (seen.push e.born) H4 g3 p' (on + 1) c' (by simp; omega) (hmet.push he hns) (((hE.trans (e1.mono fun tg h => .inr h)).trans (e3.mono fun tg h => spt (by decide) h)).trans (e4.mono fun tg h => spt (by decide) h)) (e3.tag _ _ htd) hw4'.same (e3.tag _ _ htl) (e4.get (e3.tag _ _ htl) (ntag (by decide)) (e3.get htl (ntag (by decide)) hlr1)) ?_ (e3.tag _ _ hts)
        (((hsr.ev hts e1 (n42 (by decide))).ev hts e3 (ntag (by decide))).ev (e3.tag _ _ hts) e4 (ntag (by decide))) (e3.tag _ _ htb) (e4.get (e3.tag _ _ htb) n21 (e3.get htb n23 hw1.same))
      rw [List.map_append]
      exact o3.ev e4 (ntag (by decide))

theorem f145_L1_ht {H0 : Heap} {g0 : Gh} {jp : Option Addr} {jn jc kp : Nat} (hkp : kp ≤ jr.length) (hjb : jr.length < 2 ^ 32) {L : List ByteArray} (hL : ∀ x, redoN (jr.take kp) st x ≠ none → x ∈ L) (hLb : L.length < 2 ^ 30) :
    ∀ (d i : Nat) (H : Heap) (g : Gh), kp - i = d → i ≤ kp → Ev (SpT k) H0 g0 H g → DirR H g k db m xs (redoN (jr.take i) st) jr →
      OwnT H g (25, k) 271 5 Jr.cs jp jn jc jr → f145_L1 (some ⟨db, 0, none⟩) jp kp jc (kp : Int) (i : Int) H (setlPost H0 g0 k db (redoN (jr.take kp) st)) := by
  intro d
  induction d with
  | zero =>
    intro i H g hd hi hE hD hJ
    have hil : i = kp := by omega
    subst hil
    apply f145_L1_of
    refine ⟨fun h => by have := of_decide_eq_true h; omega, fun _ => ?_⟩
    obtain ⟨lr, op, on, oc, sr, jp', jn', jc', h1, h2, h3, h4, h5, h6, h7⟩ := hD.ex
    refine ⟨db, 0, rfl, _, _, h1, by simp, fun H1 hw1 => ?_⟩
    have hw1' : Wr H db (.cells #[.map (some lr), .slice op on oc, .map (some sr), .slice none 0 0] 171 (0, 0)) H1 := hw1
    have e1 : Ev (fun tg => tg = (21, k)) H g H1 g := dirWr hE.ok hD.tag rfl hw1'
    obtain ⟨es, ck, q1, q2, q3⟩ := h6.ev h5 e1 (ntag (by decide))
    refine ⟨db, 0, rfl, some sr, Cells.of hw1'.same rfl, ?_⟩
    refine (f187_ht q1).mono fun v H2 ⟨r', hv, ha⟩ => ⟨_, hv, ?_⟩
    obtain ⟨e2, t2⟩ := Ev.al (S := fun _ => False) e1.ok ha (22, k)
    have hw1s := ha.keep hw1'.same
    refine ⟨db, 0, rfl, _, _, hw1s, by simp, fun H3 hw3 => ?_⟩
    have hw3' : Wr H2 db (.cells #[.map (some r'), .slice op on oc, .map (some sr), .slice none 0 0] 171 (0, 0)) H3 := hw3
    have td2 := e2.tag _ _ hD.tag
    have e3 : Ev (fun tg => tg = (21, k)) H2 _ H3 _ := dirWr e2.ok td2 rfl hw3'
    have hi9 : Tryz.prog.info? 9 = some Tryz.t9 := by kernel_rfl
    refine ⟨db, 0, rfl, op, on, oc, Cells.of hw3'.same rfl, op, 0, oc, sliceIs_hi' Tryz.underlying49 hi9 (Nat.zero_le _), db, 0, rfl, _, _, hw3'.same, by simp, fun H4 hw4 => ?_⟩
    have hw4' : Wr H3 db (.cells #[.map (some r'), .slice op 0 oc, .map (some sr), .slice none 0 0] 171 (0, 0)) H4 := hw4
    have e4 : Ev (fun tg => tg = (21, k)) H3 _ H4 _ := dirWr e3.ok td2 rfl hw4'
    have hr4 : H4 r' = some (.map es ck) := e4.get t2 (ntag (by decide)) (e3.get t2 (ntag (by decide)) ha.same)
    refine ⟨db, 0, rfl, some r', Cells.of hw4'.same rfl, ?_⟩
    refine semOk_range Tryz.underlying168 hr4 fun bi H5 ha5 => ⟨_, rfl, ?_⟩
    obtain ⟨e5, t5⟩ := Ev.al (S := fun _ => False) e4.ok ha5 (42, 0)
    have E5 : Ev (SpT k) H0 g0 H5 _ := ((((hE.trans (e1.mono fun tg h => spt (by decide) h)).trans (e2.mono fun tg h => h.elim)).trans (e3.mono fun tg h => spt (by decide) h)).trans (e4.mono fun tg h => spt (by decide) h)).trans (e5.mono fun tg h => h.elim)
    have hord : OwnT H5 (gset (gset g r' (22, k)) bi (42, 0)) (23, k) 9 1 Str.cs op 0 oc (([] : List MapEntry).map fun e => keyS e.key) := by
      have o5 := ((((h4.ev e1 (ntag (by decide))).ev e2 (fun h => h)).ev e3 (ntag (by decide))).ev e4 (ntag (by decide))).ev e5 (fun h => h)
      refine ⟨⟨rfl, Str.size, ?_⟩, o5.tag⟩
      rcases o5.own.own with ⟨a1, a2, a3, a4⟩ | ⟨b, o, arr, a1, a2, a3, a4, a5⟩
      · exact .inl ⟨a1, rfl, a3, rfl⟩
      · exact .inr ⟨b, o, arr, a1, a2, Nat.zero_le _, a4, by simp⟩
    have hsr5 : MapIs H5 sr (redoN (jr.take i) st) := ((((h6.ev h5 e1 (ntag (by decide))).ev h5 e2 (fun h => h)).ev (e2.tag _ _ h5) e3 (ntag (by decide))).ev (e2.tag _ _ h5) e4 (ntag (by decide))).ev (e2.tag _ _ h5) e5 (fun h => h)
    have hes : es.size < 2 ^ 30 := by
      have := len_le q2.2.1 fun x hx => hL x ((keyMem q2 q3 x).1 hx)
      simp at this
      omega
    exact f145_L2_ht q2 q3 hes (es.size + 1) [] #[] H5 _ op 0 oc (by simp) (Met.start es) E5 (e5.tag _ _ td2) (ha5.keep hw4'.same) (e5.tag _ _ t2) (ha5.keep hr4) hord (e5.tag _ _ (e2.tag _ _ h5)) hsr5 t5 ha5.same
  | succ d ih =>
    intro i H g hd hi hE hD hJ
    have hlen := hJ.own.len
    have hil : i < jr.length := by omega
    apply f145_L1_of
    refine ⟨fun _ => ?_, fun h => by have := of_decide_eq_false h; omega⟩
    obtain ⟨b, o, hp, hc⟩ := hJ.own.cells (i := i) hil
    refine ⟨b, o, hp, by omega, by omega, jr[i].ch, jr[i].name, jr[i].to, oP (some jr[i].ob), oP jr[i].vic, by simpa [Jr.cs] using hc, fun _ => ?_⟩
    refine (f184_ht hE.ok hD jr[i]).mono fun v H1 ⟨hv, e1, d1⟩ => ⟨hv, ?_⟩
    have hwi : IntKind.wrap .i64 ((i : Int) + 1) = ((i + 1 : Nat) : Int) := wrapS (by omega)
    have hst : redo jr[i] (redoN (jr.take i) st) = redoN (jr.take (i + 1)) st := by
      rw [take_succ hil, redoN_append]
      rfl
    rw [hst] at d1
    rw [hwi]
    exact ih (i + 1) H1 g (by omega) (by omega) (hE.trans (e1.mono fun tg h => .inl (sp24 h))) d1 (hJ.ev e1 (ntag (by decide)))

theorem f145_ht {kp : Nat} (hg : GOk H g) (h : DirR H g k db m xs st jr) (hkp : kp ≤ jr.length) (hjb : jr.length < 2 ^ 32) {L : List ByteArray} (hL : ∀ x, redoN (jr.take kp) st x ≠ none → x ∈ L) (hLb : L.length < 2 ^ 30) :
    HT Tryz.prog 145 [.pointer (some ⟨db, 0, none⟩), .int .i64 (kp : Int)] H (setlPost H g k db (redoN (jr.take kp) st)) := by
  obtain ⟨lr, op, on, oc, sr, jp, jn, jc, h1, h2, h3, h4, h5, h6, h7⟩ := h.ex
  have hlen := h7.own.len
  have hnc := h7.own.lenc
  have hi271 : Tryz.prog.info? 271 = some Tryz.t271 := by kernel_rfl
  apply f145_of
  exact ⟨db, 0, rfl, jp, jn, jc, Cells.of h1 rfl, jp, kp, jc, sliceIs_hi' Tryz.underlying169 hi271 (by omega), f145_L1_ht hkp hjb hL hLb _ 0 H g rfl (Nat.zero_le _) (Ev.refl hg) h h7⟩

end

end Go.Proofs.Qxb6500695aGreatFmt
