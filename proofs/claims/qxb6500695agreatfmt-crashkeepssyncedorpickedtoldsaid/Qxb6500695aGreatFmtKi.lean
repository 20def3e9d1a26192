/-
  THE DEVICE's BOOKS, AS THEY LIE; deviceSettled.
-/
import Derived.Test.Qxb6500695aGreatFmtKh
import Derived.Test.Qxb6500695aGreatFmtKd
import Derived.Test.Qxb6500695aGreatFmtQf
import Derived.Test.Qxb6500695aGreatFmtVq
namespace Go.Proofs.Qxb6500695aGreatFmt
open Go Go.Eng Go.Proofs
set_option maxRecDepth 100000
set_option linter.unusedVariables false
set_option linter.unusedSimpArgs false
set_option linter.unusedSectionVars false

section
variable {S : Nat × Int → Prop} {H H' : Heap} {g g' : Gh} {k : Int} {dvb ss ns bd pwb : Nat} {D : Pl} {E : Nat → Value} {P : Pw}

theorem SecOk.src {sx : Sec} {bs : List Int} (h : SecOk H g ss sx bs) : Src H sx.p sx.n sx.c bs ∧ ∃ b o, sx.p = some ⟨b, o, none⟩ := by
  obtain ⟨b, o, arr, h1, h2, h3, h4, h5⟩ := h.row
  refine ⟨⟨by rw [h.n, h.len], by rw [h.n]; exact h.c, .inr ⟨b, o, h1, arr, 5, (0, 0), h3, fun i hi => ?_⟩⟩, b, o, h1⟩
  rw [List.length_map, h.len] at hi
  rw [← h5, List.getElem?_take, if_pos hi, List.getElem?_drop, Array.getElem?_toList]

theorem f34s_ht {sx sy : Sec} {bs : List Int} (h1 : SecOk H g ss sx bs) (h2 : SecOk H g ss sy bs) : HT Tryz.prog 34 [.slice sx.p sx.n sx.c, .slice sy.p sy.n sy.c] H fun v H' => H' = H ∧ v = .bool true :=
  f34_ht h1.src.1 (.inr h1.src.2) h2.src.1 (.inr h2.src.2)

/-- Durable. -/
theorem f83_ht (hg : GOk H g) (h : DvR H g k dvb ss ns bd pwb D) {i : Nat} (hi : i < ns) : HT Tryz.prog 83 [.pointer (some ⟨dvb, 0, none⟩), .int .i64 (i : Int)] H fun v H' => ∃ (sx : Sec) (g' : Gh), v = sx.val ∧ Ev (fun _ => False) H g H' g' ∧ SecOk H' g' ss sx (sO ss (D.dur i)) := by
  obtain ⟨plb, q, h1, h2⟩ := h.ex
  have hss := h2.ssb
  have hns := h2.nsb
  have hi5 : Tryz.prog.info? 5 = some Tryz.t5 := by kernel_rfl
  apply f83_of
  refine ⟨fun hx => by have := of_decide_eq_true hx; omega, fun _ => ⟨dvb, 0, rfl, _, Cells.of h1 rfl, ?_⟩⟩
  have hd : decide ((i : Int) ≥ (ns : Int)) = false := by simp; omega
  rw [hd]
  apply f83_L1_of
  refine ⟨(fun h => by cases h), fun _ => ⟨dvb, 0, rfl, _, Cells.of h1 rfl, ?_⟩⟩
  refine (f133_ht h2 (i := i) (by omega)).mono fun v H1 ⟨he, sx, hv, hs⟩ => ⟨sx.p, sx.n, sx.c, hv, _, binIs_slice_neq Tryz.underlying35, fun hx => ?_, fun hx => ?_⟩
  · subst he
    cases hdu : D.dur i with
    | none =>
      rw [hdu] at hs
      have hs : sx = Sec.nil := hs
      rw [hs] at hx
      simp [Sec.nil] at hx
    | some bs =>
      rw [hdu] at hs
      have hs : SecOk H1 g ss sx bs := hs
      refine (f134_ht hss hs).mono fun v H2 ⟨hsub, b, arr, c, hv2, hc, hb0, hb, hsz, harr⟩ => ⟨_, _, _, hv2, ?_⟩
      have e2 : Ev (fun _ => False) H1 g H2 g := Ev.sub hg hsub
      have hgb : g b = none := GOk.fresh hg hb0
      have e3 : Ev (fun _ => False) H2 g H2 (gset g b (0, 0)) := Ev.tagU e2.ok hgb (by rw [hb]; simp)
      exact ⟨⟨some ⟨b, 0, none⟩, ss, c⟩, gset g b (0, 0), rfl, e2.trans e3, rfl, hc, hs.len, b, 0, arr, rfl, by simp [gset], hb, by omega, by rw [List.drop_zero]; exact harr⟩
  · subst he
    cases hdu : D.dur i with
    | some bs =>
      rw [hdu] at hs
      have hs : SecOk H1 g ss sx bs := hs
      obtain ⟨_, b, o, hp⟩ := hs.src
      rw [hp] at hx
      simp at hx
    | none =>
      refine ⟨dvb, 0, rfl, _, Cells.of h1 rfl, ?_⟩
      refine semOk_make (l := ss) (c := ss) Tryz.underlying35 hi5 (z := .int .u8 0) rfl rfl rfl (Nat.le_refl _) (by omega) (by decide) fun vb H2 ha => ⟨_, _, _, rfl, ?_⟩
      obtain ⟨e1, t1⟩ := Ev.al (S := fun _ => False) hg ha (0, 0)
      exact ⟨⟨some ⟨vb, 0, none⟩, ss, ss⟩, _, rfl, e1, rfl, Nat.le_refl _, zer_len, vb, 0, _, rfl, t1, ha.same, by simp, by simp [sO, zer]⟩

end

/-- The owner of a device's books. -/
def eB (k : Nat) : Int := -(10 + (k : Int))

/-- The books of one device. -/
def DvB (H : Heap) (g : Gh) (k ss ns bd : Nat) (p : SlP) (hl : Nat → List Sv) : Prop :=
  ∃ l : List Sec, OwnT H g (50, (k : Int)) 37 1 Sec.cs p.1 p.2.1 p.2.2 l ∧ l.length = ns ∧ ∀ s (h : s < l.length), HiL H g (eB k) ss bd s l[s].p l[s].n l[s].c (hl s)

def hset (hl : Nat → List Sv) (s : Nat) (L : List Sv) : Nat → List Sv := fun j => if j = s then L else hl j

section
variable {S : Nat × Int → Prop} {H H' : Heap} {g g' : Gh} {k ss ns bd : Nat} {p : SlP} {hl : Nat → List Sv}

theorem DvB.ev (h : DvB H g k ss ns bd p hl) (ev : Ev S H g H' g') (h0 : ¬ S (0, 0)) (h50 : ¬ S (50, (k : Int))) (hS : ∀ s, ¬ S (100 + s, eB k)) : DvB H' g' k ss ns bd p hl := by
  obtain ⟨l, h1, h2, h3⟩ := h
  exact ⟨l, h1.ev ev h50, h2, fun s hs => (h3 s hs).ev ev h0 (hS s)⟩

theorem DvB.mono {bd' : Nat} (h : DvB H g k ss ns bd p hl) (hb : bd ≤ bd') : DvB H g k ss ns bd' p hl := by
  obtain ⟨l, h1, h2, h3⟩ := h
  exact ⟨l, h1, h2, fun s hs => (h3 s hs).mono hb⟩

theorem DvB.len (h : DvB H g k ss ns bd p hl) : p.2.1 = ns := by
  obtain ⟨l, h1, h2, h3⟩ := h
  rw [h1.own.len, h2]

/-- One sector's list. -/
theorem DvB.get (h : DvB H g k ss ns bd p hl) {s : Nat} (hs : s < ns) : ∃ b o sx, p.1 = some ⟨b, o, none⟩ ∧ Cells H b (o + s * 1) [Sec.val sx] ∧ HiL H g (eB k) ss bd s sx.p sx.n sx.c (hl s) := by
  obtain ⟨l, h1, h2, h3⟩ := h
  obtain ⟨b, o, hp, hc⟩ := h1.own.cells (i := s) (by omega)
  exact ⟨b, o, _, hp, hc, h3 s (by omega)⟩

/-- One sector's list set. H1: the heap in which the new list lies; of the old lists all but this one stand there. -/
theorem DvB.set {s bd' : Nat} {q : Option Addr} {n c : Nat} {L : List Sv} {g1 : Gh} {H1 : Heap} (h : DvB H g k ss ns bd p hl) (hs : s < ns) (ev : Ev S H g H1 g1) (h0 : ¬ S (0, 0)) (h50 : ¬ S (50, (k : Int))) (hS : ∀ j, j ≠ s → ¬ S (100 + j, eB k)) (hb : bd ≤ bd') (hL : HiL H1 g1 (eB k) ss bd' s q n c L) :
    ∃ b o arr, p.1 = some ⟨b, o, none⟩ ∧ H1 b = some (.cells arr 37 (0, 0)) ∧ (o + s * 1) + 1 ≤ arr.size ∧ ∀ H', Wr H1 b (.cells (setAll arr (o + s * 1) [.slice q n c]) 37 (0, 0)) H' → Ev (fun tg => tg = (50, (k : Int))) H1 g1 H' g1 ∧ DvB H' g1 k ss ns bd' p (hset hl s L) := by
  obtain ⟨l, h1, h2, h3⟩ := h
  have h1' := h1.ev ev h50
  obtain ⟨b, o, arr, hp, hb1, hfit, _, hset'⟩ := h1'.own.at (i := s) (by omega)
  refine ⟨b, o, arr, hp, hb1, hfit, fun H' hw => ?_⟩
  have hown := hset' ⟨q, n, c⟩ H' hw
  have tb : g1 b = some (50, (k : Int)) := h1'.tag _ hp
  have e2 : Ev (fun tg => tg = (50, (k : Int))) H1 g1 H' g1 := Ev.wr ev.ok hw fun tg htg => by rw [tb] at htg; cases htg; rfl
  have n0 : ¬ ((fun tg : Nat × Int => tg = (50, (k : Int))) (0, 0)) := fun hc => by have := congrArg Prod.fst hc; simp at this
  have n1 : ∀ j : Nat, ¬ ((fun tg : Nat × Int => tg = (50, (k : Int))) (100 + j, eB k)) := fun j hc => by have := congrArg Prod.fst hc; simp at this; omega
  refine ⟨e2, l.set s ⟨q, n, c⟩, ⟨hown, h1'.tag⟩, by simp [h2], fun j hj => ?_⟩
  have hj' : j < l.length := by simpa using hj
  unfold hset
  by_cases hjs : j = s
  · subst hjs
    rw [if_pos rfl, List.getElem_set_self]
    exact hL.ev e2 n0 (n1 j)
  · rw [if_neg hjs, List.getElem_set_ne (Ne.symm hjs)]
    exact (((h3 j hj').ev ev h0 (hS j hjs)).mono hb).ev e2 n0 (n1 j)

end

section
variable {H H' : Heap} {g g' : Gh} {dvb ss ns bd bk pwb wb kk : Nat} {D : Pl} {E : Nat → Value} {P : Pw} {p : SlP} {hl : Nat → List Sv} {tr : List Ask} {M : Plc → Prop}

def S27 (k : Nat) (tg : Nat × Int) : Prop := tg = (27, (k : Int)) ∨ tg = (34, 0) ∨ tg = (50, (k : Int))

theorem S27.zero : ¬ S27 kk (0, 0) := fun h => by
  rcases h with h | h | h <;> (have := congrArg Prod.fst h; simp at this)

theorem S27.big {j : Nat} {z : Int} (hj : j ≠ 27 ∧ j ≠ 34 ∧ j ≠ 50) : ¬ S27 kk (j, z) := fun h => by
  rcases h with h | h | h <;> (have := congrArg Prod.fst h; simp at this; omega)

theorem f27_ht {ch : Int → Nat} (hk : kk < 3) (hbd : bd < 2 ^ 31) (hbk : bk < 2 ^ 31) (hbk1 : 1 ≤ bk) (hup : P.down = false) (hch : ∀ s : Nat, s < ns → ch s < (hl s).length ∧ (hl s)[ch s]? = some (some (D.seen ss s))) (hla : ∀ s : Nat, s < ns → lastA tr (0, 0, (s : Int)) = if (hl s).length ≤ 1 then none else some ((hl s).length - 1, ch s)) (hdu : ∀ s : Nat, s < ns → sO ss (D.dur s) = D.seen ss s)
    (hg : GOk H g) (hG : Gl H g E) (hD : DvR H g (kk : Int) dvb ss ns bd pwb D) (hP : PwR H g (kk : Int) pwb P) (hB : DvB H g kk ss ns bk p hl) (hW : WtM wb tr M H g) :
    HT Tryz.prog 27 [.pointer (some ⟨dvb, 0, none⟩), p.v, .pointer (some ⟨wb, 0, none⟩)] H fun v H' => v = .bool true ∧ ∃ g', Ev (S27 kk) H g H' g' ∧ DvR H' g' (kk : Int) dvb ss ns bd pwb D ∧ PwR H' g' (kk : Int) pwb P ∧ (∃ hl', DvB H' g' kk ss ns bk p hl' ∧ ∀ s, s < ns → hl' s = [some (D.seen ss s)]) ∧ ∃ M', WtM wb tr M' H' g' ∧ ∀ q, M' q ↔ (M q ∨ ∃ s : Nat, s < ns ∧ q = (0, 0, (s : Int)) ∧ lastA tr q ≠ none) := by
  obtain ⟨plb0, q0, hb0, hpl0⟩ := hD.ex
  have hss := hpl0.ssb
  have hns := hpl0.nsb
  have hpn := hB.len
  have hi5 : Tryz.prog.info? 5 = some Tryz.t5 := by kernel_rfl
  apply f27_of
  unfold f27_pre
  have loop : ∀ (d s : Nat) (H1 : Heap) (g1 : Gh) (hl1 : Nat → List Sv) (M1 : Plc → Prop), ns - s = d → s ≤ ns → Ev (S27 kk) H g H1 g1 → DvR H1 g1 (kk : Int) dvb ss ns bd pwb D → PwR H1 g1 (kk : Int) pwb P → DvB H1 g1 kk ss ns bk p hl1 → (∀ j, j < ns → hl1 j = if j < s then [some (D.seen ss j)] else hl j) → WtM wb tr M1 H1 g1 → (∀ q, M1 q ↔ (M q ∨ ∃ j : Nat, j < s ∧ q = (0, 0, (j : Int)) ∧ lastA tr q ≠ none)) →
      f27_L1 (some ⟨dvb, 0, none⟩) p.1 p.2.1 p.2.2 (some ⟨wb, 0, none⟩) p.1 p.2.1 p.2.2 (p.2.1 : Int) (s : Int) H1 fun v H' => v = .bool true ∧ ∃ g', Ev (S27 kk) H g H' g' ∧ DvR H' g' (kk : Int) dvb ss ns bd pwb D ∧ PwR H' g' (kk : Int) pwb P ∧ (∃ hl', DvB H' g' kk ss ns bk p hl' ∧ ∀ s, s < ns → hl' s = [some (D.seen ss s)]) ∧ ∃ M', WtM wb tr M' H' g' ∧ ∀ q, M' q ↔ (M q ∨ ∃ s : Nat, s < ns ∧ q = (0, 0, (s : Int)) ∧ lastA tr q ≠ none) := by
    intro d
    induction d with
    | zero =>
      intro s H1 g1 hl1 M1 hd hs e1 D1 P1 B1 hh1 W1 hM1
      have hsn : s = ns := by omega
      subst hsn
      apply f27_L1_of
      refine ⟨fun hx => by have := of_decide_eq_true hx; omega, fun _ => ⟨rfl, g1, e1, D1, P1, ⟨hl1, B1, fun j hj => by rw [hh1 j hj, if_pos hj]⟩, M1, W1, hM1⟩⟩
    | succ d ih =>
      intro s H1 g1 hl1 M1 hd hs e1 D1 P1 B1 hh1 W1 hM1
      have hsn : s < ns := by omega
      have hhs : hl1 s = hl s := by rw [hh1 s hsn, if_neg (by omega)]
      have G1 := hG.ev e1 S27.zero
      obtain ⟨b, o, sx, hp, hc, hhi⟩ := B1.get hsn
      rw [hhs] at hhi
      have hlen := hhi.len
      have hnb := hhi.nb
      obtain ⟨hc1, hc2⟩ := hch s hsn
      apply f27_L1_of
      refine ⟨fun _ => ⟨b, o, hp, by omega, by omega, sx.p, sx.n, sx.c, hc, fun _ => ?_⟩, fun hx => by have := of_decide_eq_false hx; omega⟩
      refine (f15_ht D1).mono fun v H2 ⟨he2, hv2⟩ => ⟨_, hv2, ?_⟩
      subst he2
      refine semOk_make (l := ss) (c := ss) Tryz.underlying35 hi5 (z := .int .u8 0) rfl rfl rfl (Nat.le_refl _) (by omega) (by decide) fun vb H3 ha3 => ⟨_, _, _, rfl, ?_⟩
      have hvg : g1 vb = none := GOk.fresh e1.ok ha3.fresh
      have e3 : Ev (fun _ => False) H2 g1 H3 g1 := Ev.sub e1.ok ha3.sub
      refine (f22_ht e3.ok (G1.ev e3 (fun h => h)) (D1.off e3 none_offD) (P1.ev e3 (fun h => h)) hbd hup hsn hvg ha3.same (by simp)).mono fun v H4 ⟨hv4, g4, e4, D4, sec4⟩ => ⟨_, rfl, ?_⟩
      subst hv4
      refine ⟨_, binIs_if_neq (.inl rfl) Tryz.underlying48, (fun h => by cases h), fun _ => ?_⟩
      have e14 : Ev (fun tg => tg = (27, (kk : Int))) H2 g1 H4 g4 := (e3.mono fun tg h => h.elim).trans e4
      have n27 : ∀ {j : Nat} {z : Int}, j ≠ 27 → ¬ ((fun tg : Nat × Int => tg = (27, (kk : Int))) (j, z)) := fun hj hc => hj (by simpa using congrArg Prod.fst hc)
      have W4 := W1.ev e14 (fun tg ht hc => by rw [hc] at ht; have := ht.1; simp at this) (n27 (by decide))
      have P4 := P1.ev e14 (n27 (by decide))
      have B4 := B1.ev e14 (n27 (by decide)) (n27 (by decide)) fun s => n27 (by omega)
      have hhi4 := hhi.ev e14 (n27 (by decide)) (n27 (by omega))
      refine (f29m_ht e4.ok W4 0 0 (s : Int) sx.n (by omega)).mono fun v H5 ⟨hv5, e5, W5⟩ => ⟨_, hv5, ?_⟩
      have hag : agr tr (0, 0, (s : Int)) sx.n = true := agr_ok (c := ch s) (by rw [hla s hsn, hlen])
      rw [hag]
      refine ⟨(fun h => by cases h), fun _ => ?_⟩
      have n34 : ∀ {j : Nat} {z : Int}, j ≠ 34 → ¬ ((fun tg : Nat × Int => tg = (34, 0)) (j, z)) := fun hj hc => hj (by simpa using congrArg Prod.fst hc)
      have B5 := B4.ev e5 (n34 (by decide)) (n34 (by decide)) fun s => n34 (by omega)
      have hhi5 := hhi4.ev e5 (n34 (by decide)) (n34 (by omega))
      have P5 := P4.ev e5 (n34 (by decide))
      have D5 := D4.ev e5 (n34 (by decide)) (n34 (by decide)) fun tg ht hc => by rw [hc] at ht; have := ht.rng.2; simp at this
      have sec5 : SecOk H5 g4 ss ⟨some ⟨vb, 0, none⟩, ss, ss⟩ (D.seen ss s) := SecV.ev (v := some (D.seen ss s)) sec4 e5 (n34 (by decide))
      obtain ⟨wp, wn, wc, ab, cb, mb, ce, cc, w1, w2, w3, w4⟩ := W5.choice (0, 0, (s : Int))
      refine ⟨wb, 0, rfl, _, Cells.of w1 rfl, cb, ce, cc, rfl, w3, _, w4, ?_⟩
      have hcho : cho tr (0, 0, (s : Int)) = ch s := cho_eq (hla s hsn) hc1
      obtain ⟨b43, o43, sy, bs, y1, y2, y3, y4⟩ := hhi5.get hc1
      have hbs : bs = D.seen ss s := by
        rw [List.getElem?_eq_getElem hc1, y3] at hc2
        exact Option.some.inj (Option.some.inj hc2)
      subst hbs
      rw [hcho]
      refine ⟨b43, o43, y1, by omega, by omega, sy.p, sy.n, sy.c, by simpa [Sec.val] using y2, ?_⟩
      refine (f34s_ht (sx := ⟨some ⟨vb, 0, none⟩, ss, ss⟩) sec5 y4).mono fun v H6 ⟨he6, hv6⟩ => ⟨_, hv6, ?_⟩
      subst he6
      refine ⟨w3, Cells.of w1 rfl, (fun h => by cases h), fun _ => ?_⟩
      refine (f83_ht e5.ok D5 hsn).mono fun v H7 ⟨sz, g7, hv7, e7, sec7⟩ => ⟨sz.p, sz.n, sz.c, hv7, ?_⟩
      have w1' := e7.get W5.1 (fun h => h) w1
      have w3' := e7.get w2 (fun h => h) w3
      refine ⟨w3', Cells.of w1' rfl, ?_⟩
      have sec7b : SecOk H7 g7 ss ⟨some ⟨vb, 0, none⟩, ss, ss⟩ (D.seen ss s) := SecV.ev (v := some (D.seen ss s)) sec5 e7 (fun h => h)
      rw [hdu s hsn] at sec7
      refine (f34s_ht (sx := ⟨some ⟨vb, 0, none⟩, ss, ss⟩) sec7b sec7).mono fun v H8 ⟨he8, hv8⟩ => ⟨_, hv8, ?_⟩
      subst he8
      refine ⟨w3', Cells.of w1' rfl, ?_⟩
      apply f27_L2_of
      refine ⟨(fun h => by cases h), fun _ b59 H9 ha9 => ?_⟩
      obtain ⟨e9, hh9⟩ := HiL.one (i := s) (e := eB kk) (bd := bk) (sx := ⟨some ⟨vb, 0, none⟩, ss, ss⟩) e7.ok ha9 sec7b hbk1
      have B8 := B5.ev e7 (fun h => h) (fun h => h) fun s h => h
      obtain ⟨b60, o60, arr, z1, z2, z3, z4⟩ := B8.set hsn e9 (fun h => h) (fun h => h) (fun _ _ h => h) (Nat.le_refl _) hh9
      refine ⟨b60, o60, z1, by omega, by omega, arr, 37, z2, by simpa using z3, fun H10 hw10 => ?_⟩
      obtain ⟨e10, B10⟩ := z4 H10 (by simpa using hw10)
      have n50 : ∀ {j : Nat} {z : Int}, j ≠ 50 → ¬ ((fun tg : Nat × Int => tg = (50, (kk : Int))) (j, z)) := fun hj hc => hj (by simpa using congrArg Prod.fst hc)
      have e710 : Ev (fun tg => tg = (50, (kk : Int))) H6 g4 H10 _ := ((e7.trans e9).mono fun tg h => h.elim).trans e10
      have eall : Ev (S27 kk) H g H10 _ := ((e1.trans (e14.mono fun tg h => .inl h)).trans (e5.mono fun tg h => .inr (.inl h))).trans (e710.mono fun tg h => .inr (.inr h))
      rw [wrapS (by omega)]
      refine ih (s + 1) H10 _ _ _ (by omega) (by omega) eall (D5.ev e710 (n50 (by decide)) (n50 (by decide)) fun tg ht hc => by rw [hc] at ht; have := ht.rng.2; simp at this) (P5.ev e710 (n50 (by decide))) B10 (fun j hj => ?_) (W5.ev e710 (fun tg ht hc => by rw [hc] at ht; have := ht.2; simp at this) (n50 (by decide))) (fun q => ?_)
      · unfold hset
        by_cases hjs : j = s
        · rw [if_pos hjs, if_pos (by omega), hjs]
        · rw [if_neg hjs, hh1 j hj]
          by_cases h2 : j < s
          · rw [if_pos h2, if_pos (by omega)]
          · rw [if_neg h2, if_neg (by omega)]
      · rw [hM1]
        constructor
        · rintro ((h | ⟨j, h1, h2, h3⟩) | ⟨h1, h2⟩)
          · exact .inl h
          · exact .inr ⟨j, by omega, h2, h3⟩
          · exact .inr ⟨s, by omega, h1, by rw [h1]; exact h2⟩
        · rintro (h | ⟨j, h1, h2, h3⟩)
          · exact .inl (.inl h)
          · by_cases hjs : j = s
            · subst hjs
              exact .inr ⟨h2, by rw [h2] at h3; exact h3⟩
            · exact .inl (.inr ⟨j, by omega, h2, h3⟩)
  exact loop _ 0 H g hl M rfl (Nat.zero_le _) (Ev.refl hg) hD hP hB (fun j hj => by rw [if_neg (by omega)]) hW fun q => ⟨.inl, fun h => h.elim id fun ⟨j, h1, _⟩ => by omega⟩

end

end Go.Proofs.Qxb6500695aGreatFmt
