/-
  CrashKeepsSyncedOrPicked, THE LAW.
-/
import Derived.Test.Qxb6500695aGreatFmtKv
namespace Go.Proofs.Qxb6500695aGreatFmt
open Go Go.Eng Go.Proofs
set_option maxRecDepth 100000
set_option linter.unusedVariables false
set_option linter.unusedSimpArgs false
set_option linter.unusedSectionVars false

/-- What the books' first loops turn. -/
def S0i (tg : Nat × Int) : Prop := tg = (47, 0) ∨ tg = (48, 0) ∨ tg.1 = 50

theorem S0i.off : OffN S0i := fun tg h hc => by
  rcases h with h | h | h
  · rw [h] at hc; simp at hc
  · rw [h] at hc; simp at hc
  · omega

theorem S0i.zero : ¬ S0i (0, 0) := fun h => S0i.off _ h (.inl rfl)

/-- A device's books, laid up to a sector. -/
def DvP (H : Heap) (g : Gh) (k ss ns bd : Nat) (p : SlP) (s : Nat) : Prop :=
  ∃ l : List Sec, OwnT H g (50, (k : Int)) 37 1 Sec.cs p.1 p.2.1 p.2.2 l ∧ l.length = ns ∧ ∀ i (h : i < l.length), i < s → HiL H g (eB k) ss bd i l[i].p l[i].n l[i].c [some (zer ss)]

section
variable {S : Nat × Int → Prop} {H H1 H2 H' H0 : Heap} {g g1 g2 g' g0 : Gh} {E : Nat → Value} {sp : Option Addr} {sn sc : Nat} {ops : List OpV} {rb d4 o5 : Nat} {bd k ss ns : Nat} {q : SlP} {R : Value → Heap → Prop}

theorem DvP.ev {s : Nat} (h : DvP H g k ss ns bd q s) (ev : Ev S H g H' g') (h0 : ¬ S (0, 0)) (h50 : ¬ S (50, (k : Int))) (hS : ∀ s, ¬ S (100 + s, eB k)) : DvP H' g' k ss ns bd q s := by
  obtain ⟨l, h1, h2, h3⟩ := h
  exact ⟨l, h1.ev ev h50, h2, fun i hi hs => (h3 i hi hs).ev ev h0 (hS i)⟩

theorem DvP.done (h : DvP H g k ss ns bd q ns) : DvB H g k ss ns bd q fun _ => [some (zer ss)] := by
  obtain ⟨l, h1, h2, h3⟩ := h
  exact ⟨l, h1, h2, fun i hi => h3 i hi (by omega)⟩

theorem DvP.len {s : Nat} (h : DvP H g k ss ns bd q s) : q.2.1 = ns := by
  obtain ⟨l, h1, h2, _⟩ := h
  rw [h1.own.len, h2]

theorem DvP.set {s : Nat} {r : Option Addr} {n c : Nat} {H1 : Heap} {g1 : Gh} (h : DvP H g k ss ns bd q s) (hs : s < ns) (ev : Ev (fun _ => False) H g H1 g1) (hL : HiL H1 g1 (eB k) ss bd s r n c [some (zer ss)]) :
    ∃ b o arr, q.1 = some ⟨b, o, none⟩ ∧ H1 b = some (.cells arr 37 (0, 0)) ∧ (o + s * 1) + 1 ≤ arr.size ∧ ∀ H', Wr H1 b (.cells (setAll arr (o + s * 1) [.slice r n c]) 37 (0, 0)) H' → Ev (fun tg => tg = (50, (k : Int))) H1 g1 H' g1 ∧ DvP H' g1 k ss ns bd q (s + 1) := by
  obtain ⟨l, h1, h2, h3⟩ := h
  have h1' := h1.ev ev (fun h => h)
  obtain ⟨b, o, arr, hp, hb1, hfit, _, hset'⟩ := h1'.own.at (i := s) (by omega)
  refine ⟨b, o, arr, hp, hb1, hfit, fun H' hw => ?_⟩
  have hown := hset' ⟨r, n, c⟩ H' hw
  have tb : g1 b = some (50, (k : Int)) := h1'.tag _ hp
  have e2 : Ev (fun tg => tg = (50, (k : Int))) H1 g1 H' g1 := Ev.wr ev.ok hw fun tg htg => by rw [tb] at htg; cases htg; rfl
  have n0 : ¬ ((fun tg : Nat × Int => tg = (50, (k : Int))) (0, 0)) := fun hc => by have := congrArg Prod.fst hc; simp at this
  have n1 : ∀ j : Nat, ¬ ((fun tg : Nat × Int => tg = (50, (k : Int))) (100 + j, eB k)) := fun j hc => by have := congrArg Prod.fst hc; simp at this; omega
  refine ⟨e2, l.set s ⟨r, n, c⟩, ⟨hown, h1'.tag⟩, by simp [h2], fun j hj hjs => ?_⟩
  have hj' : j < l.length := by simpa using hj
  by_cases hjs' : j = s
  · subst hjs'
    rw [List.getElem_set_self]
    exact hL.ev e2 n0 (n1 j)
  · rw [List.getElem_set_ne (Ne.symm hjs')]
    exact ((h3 j hj' (by omega)).ev ev (fun h => h) (fun h => h)).ev e2 n0 (n1 j)

def nilP : SlP := (none, 0, 0)

/-- The cells of the two arrays. -/
def dC (p : Nat → SlP) : Obj := .cells #[(p 0).v, (p 1).v, (p 2).v] 27 (0, 0)
def oC (m : Nat → Option Nat) : Obj := .cells #[.map (m 0), .map (m 1), .map (m 2)] 29 (0, 0)

theorem dC_set {p : Nat → SlP} (hk : k < 3) (q : SlP) : (Obj.cells (setAll #[(p 0).v, (p 1).v, (p 2).v] (0 + ((k : Nat) : Int).toNat * 1) [.slice q.1 q.2.1 q.2.2]) 27 (0, 0)) = dC (pset p k q) := by
  have hc : k = 0 ∨ k = 1 ∨ k = 2 := by omega
  rcases hc with rfl | rfl | rfl <;> rfl

theorem oC_set {m : Nat → Option Nat} (hk : k < 3) (b : Nat) : (Obj.cells (setAll #[.map (m 0), .map (m 1), .map (m 2)] (0 + ((k : Nat) : Int).toNat * 1) [.map (some b)]) 29 (0, 0)) = oC (uset m k (some b)) := by
  have hc : k = 0 ∨ k = 1 ∨ k = 2 := by omega
  rcases hc with rfl | rfl | rfl <;> rfl

/-- What is laid of the books, up to node j. -/
structure In3 (E : Nat → Value) (sp : Option Addr) (sn : Nat) (ops : List OpV) (rb d4 o5 : Nat) (H0 : Heap) (g0 : Gh) (H : Heap) (g : Gh) (p : Nat → SlP) (m : Nat → Option Nat) (j : Nat) : Prop where
  ev : Ev Ro H0 g0 H g
  gl : Gl H g E
  scr : Scr H g sp sn ops
  rk : RkR H g rb 0 (fun _ => nd0)
  dt : g d4 = some (47, 0)
  ot : g o5 = some (48, 0)
  dx : H d4 = some (dC p)
  ox : H o5 = some (oC m)
  db : ∀ i, i < j → i < 3 → DvB H g i (shS i) (shN i) 1 (p i) fun _ => [some (zer (shS i))]
  ob : ∀ i, i < j → i < 3 → ∃ b, m i = some b ∧ BkR H g i b (shS i) (shC i) 1 0 fun _ => none

theorem In3.evS {p : Nat → SlP} {m : Nat → Option Nat} {j : Nat} (h : In3 E sp sn ops rb d4 o5 H0 g0 H g p m j) (ev : Ev S H g H' g') (hS : ∀ tg, S tg → tg = (50, (j : Int))) : In3 E sp sn ops rb d4 o5 H0 g0 H' g' p m j := by
  have hj : ∀ {a : Nat} {z : Int}, S (a, z) → a = 50 ∧ z = (j : Int) := fun hc => by have := hS _ hc; simpa using this
  have z0 : ¬ S (0, 0) := fun hc => by have := hj hc; omega
  refine ⟨h.ev.trans (ev.mono fun tg ht hc => z0 (hc ▸ ht)), h.gl.ev ev z0, h.scr.ev ev z0, h.rk.off ev (fun tg ht => S0i.off tg (.inr (.inr (by rw [hS tg ht])))), ev.tag _ _ h.dt, ev.tag _ _ h.ot, ev.get h.dt (fun hc => by have := hj hc; omega) h.dx, ev.get h.ot (fun hc => by have := hj hc; omega) h.ox, fun i hi h3 => (h.db i hi h3).ev ev z0 (fun hc => by have := hj hc; omega) (fun s hc => by have := hj hc; omega), fun i hi h3 => ?_⟩
  obtain ⟨b, h1, h2⟩ := h.ob i hi h3
  exact ⟨b, h1, h2.ev ev z0 (fun hc => by have := hj hc; omega) fun c hc => by omega⟩

theorem In3.evF {p : Nat → SlP} {m : Nat → Option Nat} {j : Nat} (h : In3 E sp sn ops rb d4 o5 H0 g0 H g p m j) (ev : Ev (fun _ => False) H g H' g') : In3 E sp sn ops rb d4 o5 H0 g0 H' g' p m j := h.evS ev fun tg h => h.elim

theorem f3_L2_ht {p : Nat → SlP} {m : Nat → Option Nat} (hk : k < 3) {dvb : Nat}
    (hnext : ∀ H' g' b, In3 E sp sn ops rb d4 o5 H0 g0 H' g' p (uset m k (some b)) (k + 1) → f3_L3 sp sn sc (some ⟨rb, 0, none⟩) d4 o5 (k : Int) H' R) :
    ∀ (d s : Nat) (H : Heap) (g : Gh), shN k - s = d → s ≤ shN k → In3 E sp sn ops rb d4 o5 H0 g0 H g p m k → DvP H g k (shS k) (shN k) 1 (p k) s → (∃ pwb, DvR H g (k : Int) dvb (shS k) (shN k) 0 pwb nd0.D) →
      f3_L2 sp sn sc (some ⟨rb, 0, none⟩) d4 o5 (k : Int) (some ⟨dvb, 0, none⟩) (k : Int) ((p k).2.1 : Int) (s : Int) H R := by
  obtain ⟨s0, s16, sc12, sn12⟩ := sh_ok (k := k)
  have hi5 : Tryz.prog.info? 5 = some Tryz.t5 := by kernel_rfl
  intro d
  induction d with
  | zero =>
    intro s H g hd hs hI hP hD
    have hsn : s = shN k := by omega
    subst hsn
    have hlen := hP.len
    apply f3_L2_of
    refine ⟨fun hx => by have := of_decide_eq_true hx; omega, fun _ b67 H1 ha1 => ⟨by omega, by omega, ?_⟩⟩
    obtain ⟨e1, t1⟩ := Ev.al (S := fun _ => False) hI.ev.ok ha1 (52, (k : Int))
    have I1 := hI.evF e1
    have P1 := hP.ev e1 (fun h => h) (fun h => h) fun _ h => h
    refine ⟨_, _, I1.ox, by simp; omega, fun H2 hw2 => ?_⟩
    rw [oC_set hk] at hw2
    have e2 : Ev (fun tg => tg = (48, 0)) H1 _ H2 _ := Ev.wr e1.ok hw2 fun tg htg => by rw [I1.ot] at htg; cases htg; rfl
    have n48 : ∀ {j : Nat} {z : Int}, j ≠ 48 → ¬ ((fun tg : Nat × Int => tg = (48, 0)) (j, z)) := fun hj hc => hj (by simpa using congrArg Prod.fst hc)
    have offS : OffN (fun tg : Nat × Int => tg = (48, 0)) := fun tg ht => S0i.off tg (.inr (.inl ht))
    have bk0 : BkR H2 (gset g b67 (52, (k : Int))) k b67 (shS k) (shC k) 1 0 fun _ => none := by
      refine ⟨t1, ⟨#[], 0, ?_, ⟨(fun e he => by cases he), by simp, (fun e he => by cases he), by simp⟩, fun i => rfl⟩, (fun i x hx => by cases hx), (fun i x hx => by cases hx), fun i j x y hx => by cases hx⟩
      exact e2.get t1 (n48 (by decide)) ha1.same
    refine hnext H2 _ b67 ⟨I1.ev.trans (e2.mono fun tg ht hc => by rw [ht] at hc; cases hc), I1.gl.ev e2 (n48 (by decide)), I1.scr.ev e2 (n48 (by decide)), I1.rk.off e2 offS, I1.dt, I1.ot, e2.get I1.dt (n48 (by decide)) I1.dx, hw2.same, fun i hi h3 => ?_, fun i hi h3 => ?_⟩
    · by_cases hik : i = k
      · subst hik
        exact P1.done.ev e2 (n48 (by decide)) (n48 (by decide)) fun s => n48 (by omega)
      · exact (I1.db i (by omega) h3).ev e2 (n48 (by decide)) (n48 (by decide)) fun s => n48 (by omega)
    · unfold uset
      by_cases hik : i = k
      · subst hik
        exact ⟨b67, by rw [if_pos rfl], bk0⟩
      · obtain ⟨b, h1, h2⟩ := I1.ob i (by omega) h3
        exact ⟨b, by rw [if_neg hik]; exact h1, h2.ev e2 (n48 (by decide)) (n48 (by decide)) fun c hc => by omega⟩
  | succ d ih =>
    intro s H g hd hs hI hP hD
    have hsn : s < shN k := by omega
    have hlen := hP.len
    obtain ⟨pwb, hD⟩ := hD
    have hcell : ∀ {G : Heap} {q : Gh}, In3 E sp sn ops rb d4 o5 H0 g0 G q p m k → Cells G d4 (0 + ((k : Nat) : Int).toNat * 1) [(p k).v] := fun hx => cell3 (P := fun j => (p j).v) hx.dx hk
    apply f3_L2_of
    refine ⟨fun _ => ⟨by omega, by omega, _, _, _, hcell hI, ?_⟩, fun hx => by have := of_decide_eq_false hx; omega⟩
    refine (f15_ht hD).mono fun v H1 ⟨he1, hv1⟩ => ⟨_, hv1, ?_⟩
    subst he1
    refine ⟨hcell hI, ?_⟩
    refine semOk_make (l := shS k) (c := shS k) Tryz.underlying35 hi5 (z := .int .u8 0) rfl rfl rfl (Nat.le_refl _) (by omega) (by decide) fun vb H2 ha2 => ⟨_, _, _, rfl, ?_⟩
    obtain ⟨e2, t2⟩ := Ev.al (S := fun _ => False) hI.ev.ok ha2 (0, 0)
    have I2 := hI.evF e2
    refine ⟨hcell I2, fun b63 H3 ha3 => ?_⟩
    have hsec : SecOk H2 (gset g vb (0, 0)) (shS k) ⟨some ⟨vb, 0, none⟩, shS k, shS k⟩ (zer (shS k)) := ⟨rfl, Nat.le_refl _, zer_len, vb, 0, _, rfl, t2, ha2.same, by simp, by simp [zer]⟩
    obtain ⟨e3, hh3⟩ := HiL.one (i := s) (e := eB k) (bd := 1) (sx := ⟨some ⟨vb, 0, none⟩, shS k, shS k⟩) e2.ok ha3 hsec (Nat.le_refl _)
    have P2 := hP.ev e2 (fun h => h) (fun h => h) fun _ h => h
    obtain ⟨b64, o64, arr, z1, z2, z3, z4⟩ := P2.set hsn e3 hh3
    refine ⟨b64, o64, z1, by omega, by omega, arr, 37, z2, by simpa using z3, fun H4 hw4 => ?_⟩
    obtain ⟨e4, P4⟩ := z4 H4 (by simpa using hw4)
    have I3 := I2.evF e3
    have I4 := I3.evS e4 fun tg h => h
    have D4 := ((hD.off e2 none_offD).off e3 none_offD).off e4 fun tg ht hc => by rw [ht] at hc; simp at hc
    rw [wrapS (by omega)]
    exact ih (s + 1) H4 _ (by omega) (by omega) I4 P4 ⟨pwb, D4⟩

theorem f3_L1_ht (hn : ops.length ≤ 65536) (hsm : ∀ j (hj : j < ops.length), ops[j].dn ≤ 65536 ∧ ops[j].pn ≤ 65536) :
    ∀ (d j : Nat) (H : Heap) (g : Gh) (p : Nat → SlP) (m : Nat → Option Nat), 3 - j = d → j ≤ 3 → In3 E sp sn ops rb d4 o5 H0 g0 H g p m j →
      f3_L1 sp sn sc (some ⟨rb, 0, none⟩) d4 o5 (j : Int) H fun v H' => v = .bool true ∧ ∃ g', Ev Ro H0 g0 H' g' := by
  intro d
  induction d with
  | zero =>
    intro j H g p m hd hj hI
    have hj3 : j = 3 := by omega
    subst hj3
    apply f3_L1_of
    refine ⟨fun hx => by have := of_decide_eq_true hx; omega, fun _ => ?_⟩
    obtain ⟨b0, m0, k0⟩ := hI.ob 0 (by decide) (by decide)
    obtain ⟨b1, m1, k1⟩ := hI.ob 1 (by decide) (by decide)
    obtain ⟨b2, m2, k2⟩ := hI.ob 2 (by decide) (by decide)
    refine f3_L4_ht (p := p) (mb := fun j => if j = 0 then b0 else if j = 1 then b1 else b2) hn hsm _ 0 H g 0 (fun _ => nd0) (fun i _ => [some (zer (shS i))]) (fun _ _ => none) rfl (Nat.zero_le _) hI.ev ⟨hI.ev.ok, hI.gl, hI.scr, hI.rk, fun k hk => st0_inv, ⟨hI.dt, hI.ot, hI.dx, ?_, fun k hk => hI.db k hk hk, fun k hk => ?_⟩, fun k hk => ⟨fun i hi => ?_, fun b hb => (by cases hb), fun i y hy => (by cases hy), fun i x hx => ?_⟩⟩
    · have := hI.ox
      unfold oC at this
      rw [m0, m1, m2] at this
      exact this
    · have hc : k = 0 ∨ k = 1 ∨ k = 2 := by omega
      rcases hc with rfl | rfl | rfl
      · exact k0
      · exact k1
      · exact k2
    · simp [hs, nd0, Pl.dur, sO]
    · exfalso
      apply hx
      simp [nd0, st0, redoN]
  | succ d ih =>
    intro j H g p m hd hj hI
    have hj3 : j < 3 := by omega
    obtain ⟨s0, s16, sc12, sn12⟩ := sh_ok (k := j)
    have hi37 : Tryz.prog.info? 37 = some Tryz.t37 := by kernel_rfl
    apply f3_L1_of
    refine ⟨fun _ => ?_, fun hx => by have := of_decide_eq_false hx; omega⟩
    refine (f12_ht hI.rk hj3).mono fun v G1 ⟨he1, nb, hv1, nbk, hrb, hnk, hnds⟩ => ⟨_, hv1, ?_⟩
    subst he1
    obtain ⟨pwb, dvb, sb, hN⟩ := hnds _ hj3
    rw [hnk] at hN
    refine (f13_ht hN.nd).mono fun v G2 ⟨he2, hv2⟩ => ⟨_, hv2, ?_⟩
    subst he2
    refine (f14_ht hN.dv).mono fun v G3 ⟨he3, hv3⟩ => ⟨_, hv3, ?_⟩
    subst he3
    refine semOk_make (T := 37) (inf := Tryz.t37) (z := .slice none 0 0) (l := shN j) (c := shN j) Tryz.underlying26 hi37 (by kernel_rfl) rfl rfl (Nat.le_refl _) (by omega) (by decide) fun ab H1 ha1 => ⟨_, _, _, rfl, ?_⟩
    obtain ⟨e1, t1⟩ := Ev.al (S := fun _ => False) hI.ev.ok ha1 (50, (j : Int))
    have I1 := hI.evF e1
    refine ⟨by omega, by omega, _, _, I1.dx, by simp; omega, fun H2 hw2 => ?_⟩
    have hw2' : Wr H1 d4 (dC (pset p j (some ⟨ab, 0, none⟩, shN j, shN j))) H2 := by
      have := hw2
      rw [dC_set hj3 (some ⟨ab, 0, none⟩, shN j, shN j)] at this
      exact this
    have e2 : Ev (fun tg => tg = (47, 0)) H1 _ H2 _ := Ev.wr e1.ok hw2' fun tg htg => by rw [I1.dt] at htg; cases htg; rfl
    have n47 : ∀ {j : Nat} {z : Int}, j ≠ 47 → ¬ ((fun tg : Nat × Int => tg = (47, 0)) (j, z)) := fun hj hc => hj (by simpa using congrArg Prod.fst hc)
    have offS : OffN (fun tg : Nat × Int => tg = (47, 0)) := fun tg ht => S0i.off tg (.inl ht)
    have hpj : pset p j (some ⟨ab, 0, none⟩, shN j, shN j) j = (some ⟨ab, 0, none⟩, shN j, shN j) := by unfold pset; rw [if_pos rfl]
    have I2 : In3 E sp sn ops rb d4 o5 H0 g0 H2 (gset g ab (50, (j : Int))) (pset p j (some ⟨ab, 0, none⟩, shN j, shN j)) m j := by
      refine ⟨I1.ev.trans (e2.mono fun tg ht hc => by rw [ht] at hc; cases hc), I1.gl.ev e2 (n47 (by decide)), I1.scr.ev e2 (n47 (by decide)), I1.rk.off e2 offS, I1.dt, I1.ot, hw2'.same, e2.get I1.ot (n47 (by decide)) I1.ox, fun i hi h3 => ?_, fun i hi h3 => ?_⟩
      · have : pset p j (some ⟨ab, 0, none⟩, shN j, shN j) i = p i := by unfold pset; rw [if_neg (by omega)]
        rw [this]
        exact (I1.db i hi h3).ev e2 (n47 (by decide)) (n47 (by decide)) fun s => n47 (by omega)
      · obtain ⟨b, h1, h2⟩ := I1.ob i hi h3
        exact ⟨b, h1, h2.ev e2 (n47 (by decide)) (n47 (by decide)) fun c hc => by omega⟩
    have hown : OwnT H1 (gset g ab (50, (j : Int))) (50, (j : Int)) 37 1 Sec.cs (some ⟨ab, 0, none⟩) (shN j) (shN j) (List.replicate (shN j) Sec.nil) := by
      refine ⟨⟨by simp, Sec.size, .inr ⟨ab, 0, _, rfl, ha1.same, Nat.le_refl _, by simp, ?_⟩⟩, fun a ha' => by cases ha'; exact t1⟩
      rw [flat_sec]
      simp [Sec.val, Sec.nil]
    have P2 : DvP H2 (gset g ab (50, (j : Int))) j (shS j) (shN j) 1 (pset p j (some ⟨ab, 0, none⟩, shN j, shN j) j) 0 := by
      rw [hpj]
      exact ⟨_, hown.ev e2 (n47 (by decide)), by simp, fun i _ hi => by omega⟩
    have D2 := (hN.dv.off e1 none_offD).off e2 fun tg ht hc => by rw [ht] at hc; simp at hc
    refine ⟨by omega, by omega, _, _, _, cell3 (P := fun i => (pset p j (some ⟨ab, 0, none⟩, shN j, shN j) i).v) I2.dx hj3, ?_⟩
    refine f3_L2_ht hj3 (fun H' g' b hI' => ?_) _ 0 H2 _ rfl (Nat.zero_le _) I2 P2 ⟨pwb, D2⟩
    apply f3_L3_of
    unfold f3_L3_pre
    rw [wrapS (by omega)]
    exact ih (j + 1) H' g' _ _ (by omega) (by omega) hI'

theorem f3_ht (hg : GOk H g) (hG : Gl H g E) (hNm : NmOk H g) (hS : Scr H g sp sn ops) : HT Tryz.prog 3 [.slice sp sn sc] H fun v H' => v = .bool true ∧ ∃ g', Ev (fun tg => tg ≠ (0, 0)) H g H' g' := by
  apply f3_of
  refine (f10_ht (c := sc) hS).mono fun v H1 ⟨he, b, hv, hb⟩ => ⟨_, hv, fun _ => ⟨rfl, g, by rw [he]; exact Ev.refl hg⟩, fun hx => ?_⟩
  subst he
  have hbt : b = true := by simpa using hx
  obtain ⟨hn, hsm⟩ := hb hbt
  refine (f11_ht hg hNm).mono fun v H2 ⟨rb, g2, hv2, e2, r2⟩ => ⟨_, hv2, fun b4 H3 ha3 b5 H4 ha4 => ?_⟩
  have n0 : ¬ ((fun tg : Nat × Int => tg = (29, 0)) (0, 0)) := fun hc => by simp at hc
  obtain ⟨e3, t3⟩ := Ev.al (S := fun _ => False) e2.ok ha3 (47, 0)
  obtain ⟨e4, t4⟩ := Ev.al (S := fun _ => False) e3.ok ha4 (48, 0)
  have e34 := e3.trans e4
  refine f3_L1_ht (E := E) (H0 := H1) (g0 := g) (d4 := b4) (o5 := b5) hn hsm _ 0 H4 _ (fun _ => nilP) (fun _ => none) rfl (Nat.zero_le _) ⟨(e2.mono fun tg ht hc => by rw [ht] at hc; cases hc).trans (e34.mono fun tg h => h.elim), (hG.ev e2 n0).ev e34 (fun h => h), (hS.ev e2 n0).ev e34 (fun h => h), r2.off e34 none_offN, e4.tag _ _ t3, t4, ha4.keep ha3.same, ha4.same, fun i hi => by omega, fun i hi => by omega⟩

end

end Go.Proofs.Qxb6500695aGreatFmt
