/-
  FULL CHANGES NOTHING, PART H: the same fate.
-/
import Derived.Test.Qxb6500695aGreatFmtLg
namespace Go.Proofs.Qxb6500695aGreatFmt
open Go Go.Eng Go.Proofs
set_option maxRecDepth 100000
set_option linter.unusedVariables false
set_option linter.unusedSimpArgs false
set_option linter.unusedSectionVars false

section
variable {S : Nat × Int → Prop} {H H' : Heap} {g g' q : Gh} {E : Nat → Value} {a b bd M : Nat} {nda ndb : Nat → NdV} {op : OpV} {cb fb : Nat}

/-- All nodes of two racks crash, one way. -/
theorem f45_L2_ht {pa pb : Option Addr} {x y wy : Nat} {R : Value → Heap → Prop} {H0 : Heap} {pas : Gh → Prop} (hbd : bd < 2 ^ 31)
    (hnext : ∀ H', (∀ p, pas p → Ev (fun _ => False) H0 p H' p) → f45_L3 pa pb (some ⟨fb, 0, none⟩) 4 4 4 (wy : Int) H' R) :
    ∀ (d i : Nat) (H : Heap) (gx gy : Gh) (ndx ndy : Nat → NdV), 3 - i = d → i ≤ 3 → Rig H gx E x bd M ndx → Rig H gy E y bd M ndy → CapOk H gx cb op → CapOk H gy cb op → Sep gx gy →
      (∀ p, pas p → Ev (fun _ => False) H0 p H p ∧ Sep gx p ∧ Sep gy p) → (∀ j, j < i → NdA (ndx j) (ndy j)) → (∀ j, i ≤ j → j < 3 → PlA (ndx j).D (ndy j).D ∧ StA (ndx j).s (ndy j).s) →
      f45_L2 pa pb (wayF wy) #[] (wayD wy cb) (some ⟨x, 0, none⟩) (some ⟨y, 0, none⟩) (i : Int) (some ⟨fb, 0, none⟩) 4 4 4 (wy : Int) H R := by
  intro d
  induction d with
  | zero =>
    intro i H gx gy ndx ndy hd hi Rx Ry cx cy hs hp hN hA
    have h3 : i = 3 := by omega
    subst h3
    apply f45_L2_of
    refine ⟨fun hx => by have := of_decide_eq_true hx; omega, fun _ => ?_⟩
    refine (f102_ht hbd hbd hs hN Rx Ry).mono fun v H1 ⟨hv, _, _, _, _, hq⟩ => ⟨_, hv, (fun h => by cases h), fun _ => hnext H1 fun p hpp => ?_⟩
    obtain ⟨e0, s1, s2⟩ := hp p hpp
    exact e0.trans (hq p s1 s2 e0.ok)
  | succ d ih =>
    intro i H gx gy ndx ndy hd hi Rx Ry cx cy hs hp hN hA
    have hi3 : i < 3 := by omega
    apply f45_L2_of
    refine ⟨fun _ => ?_, fun hx => by have := of_decide_eq_false hx; omega⟩
    refine crashK hbd Rx cx hi3 fun H1 gx1 nx tr Rx1 cx1 hcx gdx ox => ?_
    obtain ⟨oy1, sxy⟩ := ox gy hs Ry.ok
    refine crashK hbd (Ry.off oy1 none_offN) (cy.ev oy1 (fun h => h)) hi3 fun H2 gy2 ny ur Ry2 cy2 hcy gdy oy => ?_
    obtain ⟨ox2, syx⟩ := oy gx1 sxy.symm Rx1.ok
    rw [wrapS (by omega)]
    refine ih (i + 1) H2 gx1 gy2 _ _ (by omega) (by omega) (Rx1.off ox2 none_offN) Ry2 (cx1.ev ox2 (fun h => h)) cy2 syx.symm (fun p hpp => ?_) (fun j hj => ?_) fun j hj hj3 => ?_
    · obtain ⟨e0, s1, s2⟩ := hp p hpp
      obtain ⟨e1, t1⟩ := ox p s1 e0.ok
      obtain ⟨e2, t2⟩ := oy p s2 e1.ok
      exact ⟨(e0.trans e1).trans e2, t1, t2⟩
    · by_cases hji : j = i
      · subst hji
        obtain ⟨hD, hSt⟩ := hA j (Nat.le_refl _) hi3
        simp only [ndset, if_true]
        exact ndCrash.det hD hSt (Rx.inv j hi3) (Ry.inv j hi3) hcx hcy gdx gdy
      · simp only [ndset, if_neg hji]
        exact hN j (by omega)
    · have hji : j ≠ i := by omega
      simp only [ndset, if_neg hji]
      exact hA j (by omega) hj3

/-- The ways' loop. -/
theorem f45_L1_ht {H0 : Heap} (hbd : bd < 2 ^ 31) (hs : Sep q g) (hD : ∀ i, i < 3 → PlA (nda i).D (ndb i).D) (hF : ∀ i, i < 3 → StF (ndb i).s (nda i).s) (hfb : g fb = some (0, 0)) :
    ∀ (d w : Nat) (H : Heap), 4 - w = d → w ≤ 4 → Rig H q E a bd M nda → Rig H g E b bd M ndb → CapOk H q cb op → CapOk H g cb op →
      H fb = some (.cells #[.func (.func 103) #[] #[], .func (.func 104) #[] #[], .func (.func 105) #[] #[.pointer (some ⟨cb, 0, none⟩)], .func (.func 106) #[] #[.pointer (some ⟨cb, 0, none⟩)]] 185 (0, 0)) → Ev (fun tg => tg.1 = 27) H0 g H g →
      f45_L1 (some ⟨a, 0, none⟩) (some ⟨b, 0, none⟩) (some ⟨fb, 0, none⟩) 4 4 (4 : Int) (w : Int) H fun v H' => v = .bool true ∧ Rig H' g E b bd M ndb ∧ Ev (fun tg => tg.1 = 27) H0 g H' g := by
  intro d
  induction d with
  | zero =>
    intro w H hd hw Ra Rb ca cbk hf e0
    apply f45_L1_of
    exact ⟨fun hx => by have := of_decide_eq_true hx; omega, fun _ => ⟨rfl, Rb, e0⟩⟩
  | succ d ih =>
    intro w H hd hw Ra Rb ca cbk hf e0
    have hw4 : w < 4 := by omega
    apply f45_L1_of
    refine ⟨fun _ => ⟨fb, 0, rfl, by omega, by omega, wayF w, #[], wayD w cb, ?_, ?_⟩, fun hx => by have := of_decide_eq_false hx; omega⟩
    · have hcase : w = 0 ∨ w = 1 ∨ w = 2 ∨ w = 3 := by omega
      rcases hcase with rfl | rfl | rfl | rfl <;> exact Cells.of hf rfl
    · refine (f42_ht hbd Ra).mono fun v H1 ⟨x, qx, ndx, hv1, F1, Rx, cpx⟩ => ⟨_, hv1, ?_⟩
      have eg1 : Ev (fun _ => False) H g H1 g := Ev.sub Rb.ok F1.sub
      have eq1 : Ev (fun _ => False) H q H1 q := Ev.sub Ra.ok F1.sub
      refine (f42_ht hbd (Rb.off eg1 none_offN)).mono fun v H2 ⟨y, qy, ndy, hv2, F2, Ry, cpy⟩ => ⟨_, hv2, ?_⟩
      have eg2 : Ev (fun _ => False) H1 g H2 g := Ev.sub eg1.ok F2.sub
      have eq2 : Ev (fun _ => False) H1 q H2 q := Ev.sub eq1.ok F2.sub
      have ex2 : Ev (fun _ => False) H1 qx H2 qx := Ev.sub Rx.ok F2.sub
      have sgx : Sep g qx := F1.sep Rb.ok hs.symm.ro
      have sqx : Sep q qx := F1.sep Ra.ok roOf_sep
      have sgy : Sep g qy := F2.sep eg1.ok roOf_sep
      have sqy : Sep q qy := F2.sep eq1.ok hs.ro
      have sxy : Sep qx qy := F2.sep Rx.ok sgx.symm.ro
      refine f45_L2_ht (pas := fun p => p = q ∨ p = g) (H0 := H2) hbd (fun H' hp => ?_) 3 0 H2 qx qy ndx ndy rfl (by omega) (Rx.off ex2 none_offN) Ry ((ca.ro (roOf_in.fx F1) F1.sub).ev ex2 (fun h => h)) ((cbk.ev eg1 (fun h => h)).ro (roOf_in.fx F2) F2.sub) sxy (fun p hpp => ?_) (fun j hj => by omega) fun j _ hj => ?_
      · have hq := hp q (.inl rfl)
        have hg := hp g (.inr rfl)
        apply f45_L3_of
        unfold f45_L3_pre
        rw [wrapS (by omega)]
        refine ih (w + 1) H' (by omega) (by omega) (((Ra.off eq1 none_offN).off eq2 none_offN).off hq none_offN) (((Rb.off eg1 none_offN).off eg2 none_offN).off hg none_offN) (((ca.ev eq1 (fun h => h)).ev eq2 (fun h => h)).ev hq (fun h => h)) (((cbk.ev eg1 (fun h => h)).ev eg2 (fun h => h)).ev hg (fun h => h)) ?_ ?_
        · exact hg.get hfb (fun h => h) (F2.sub _ _ (F1.sub _ _ hf))
        · exact e0.trans (((eg1.trans eg2).trans hg).mono fun _ h => h.elim)
      · rcases hpp with rfl | rfl
        · exact ⟨Ev.refl eq2.ok, sqx.symm, sqy.symm⟩
        · exact ⟨Ev.refl eg2.ok, sgx.symm, sgy.symm⟩
      · obtain ⟨_, d1, f1⟩ := cpx j hj
        obtain ⟨_, d2, f2⟩ := cpy j hj
        exact ⟨by rw [d1, d2]; exact hD j hj, StF.pair (Rb.inv j hj).idn ((hF j hj).trans f1) f2⟩

theorem f45_ht (hbd : bd < 2 ^ 31) (hs : Sep q g) (hA : ∀ i, i < 3 → NdA (nda i) (ndb i)) (hF : ∀ i, i < 3 → StF (ndb i).s (nda i).s) (Ra : Rig H q E a bd M nda) (Rb : Rig H g E b bd M ndb) (oa : OpOk H q op) (ob : OpOk H g op) :
    HT Tryz.prog 45 [.pointer (some ⟨a, 0, none⟩), .pointer (some ⟨b, 0, none⟩), .slice op.pp op.pn op.pc] H fun v H' => v = .bool true ∧ ∃ g', Ev (fun tg => tg.1 = 27) H g H' g' ∧ Rig H' g' E b bd M ndb := by
  apply f45_of
  intro b5 H1 ha
  obtain ⟨eg1, tg1⟩ := Ev.al (S := fun _ => False) Rb.ok ha (0, 0)
  obtain ⟨eq1, tq1⟩ := Ev.al (S := fun _ => False) Ra.ok ha (0, 0)
  have s1 : Sep (gset q b5 (0, 0)) (gset g b5 (0, 0)) := fun x t u h1 h2 => by
    by_cases hx : x = b5
    · simp [gset, hx] at h1 h2
      exact ⟨h1.symm, h2.symm⟩
    · simp [gset, hx] at h1 h2
      exact hs x t u h1 h2
  refine (f102_ht hbd hbd s1 hA (Ra.off eq1 none_offN) (Rb.off eg1 none_offN)).mono fun v H2 ⟨hv, Ra2, Rb2, ea2, eb2, _⟩ => ⟨_, hv, (fun h => by cases h), fun _ b19 H3 ha3 => ?_⟩
  obtain ⟨eg3, tg3⟩ := Ev.al (S := fun _ => False) Rb2.ok ha3 (0, 0)
  have eq3 : Ev (fun _ => False) H2 (gset q b5 (0, 0)) H3 (gset q b5 (0, 0)) := Ev.sub Ra2.ok ha3.sub
  have s3 : Sep (gset q b5 (0, 0)) (gset (gset g b5 (0, 0)) b19 (0, 0)) := fun x t u h1 h2 => by
    by_cases hx : x = b19
    · subst hx
      exact absurd ha3.fresh (Ra2.ok _ _ h1)
    · simp only [gset, hx, if_false] at h2
      exact s1 x t u h1 h2
  have n27 : ¬ (fun tg : Nat × Int => tg.1 = 27) (0, 0) := fun h => by simp at h
  have ca : CapOk H1 (gset q b5 (0, 0)) b5 op := ⟨tq1, ha.same, oa.ev eq1 (fun h => h)⟩
  have cc : CapOk H1 (gset g b5 (0, 0)) b5 op := ⟨tg1, ha.same, ob.ev eg1 (fun h => h)⟩
  have fin := f45_L1_ht (E := E) (a := a) (b := b) (M := M) (H0 := H3) (cb := b5) (op := op) hbd s3 (fun i hi => (hA i hi).D) hF tg3 4 0 H3 rfl (by omega) (Ra2.off eq3 none_offN) (Rb2.off eg3 none_offN) ((ca.ev ea2 n27).ev eq3 (fun h => h)) ((cc.ev eb2 n27).ev eg3 (fun h => h)) ha3.same (Ev.refl eg3.ok)
  have hR : ∀ (v : Value) (H' : Heap), (v = .bool true ∧ Rig H' (gset (gset g b5 (0, 0)) b19 (0, 0)) E b bd M ndb ∧ Ev (fun tg => tg.1 = 27) H3 (gset (gset g b5 (0, 0)) b19 (0, 0)) H' (gset (gset g b5 (0, 0)) b19 (0, 0))) → v = .bool true ∧ ∃ g', Ev (fun tg => tg.1 = 27) H g H' g' ∧ Rig H' g' E b bd M ndb := fun v H' ⟨h1, h2, h3⟩ =>
    ⟨h1, _, (((eg1.mono fun _ h => h.elim).trans eb2).trans (eg3.mono fun _ h => h.elim)).trans h3, h2⟩
  exact fun d B => RTmono (fin d B) hR

end

end Go.Proofs.Qxb6500695aGreatFmt
