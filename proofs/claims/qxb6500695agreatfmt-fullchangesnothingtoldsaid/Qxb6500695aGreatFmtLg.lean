/-
  FULL CHANGES NOTHING, PART G: the same view, the same rack.
-/
import Derived.Test.Qxb6500695aGreatFmtLf
namespace Go.Proofs.Qxb6500695aGreatFmt
open Go Go.Eng Go.Proofs
set_option maxRecDepth 100000
set_option linter.unusedVariables false
set_option linter.unusedSimpArgs false
set_option linter.unusedSectionVars false

section
variable {S : Nat × Int → Prop} {H H' A B : Heap} {g g' q ga gb : Gh} {E : Nat → Value} {rb ss ns cap bd M N : Nat} {nd : Nat → NdV} {n f : NdV} {v w : Value}

theorem f56_ht (hA : NdA n f) (hI : StI ss cap M n.s) (hJ : StI ss cap N f.s) (hv : ViewIs A H ss ns n v) (hw : ViewIs B H ss ns f w) : HT Tryz.prog 56 [v, w] H fun r H' => H' = H ∧ r = .bool true := by
  have hlI := hI.len
  have hu := hA.s.used
  have hxs := hA.s.xs
  rcases hv with ⟨hd, rfl⟩ | ⟨hd, db, arr, ip, inn, ic, ims, rfl, a1, a2, a3, a4, a5, a6, a7, a8⟩
  · rcases hw with ⟨hd2, rfl⟩ | ⟨hd2, _⟩
    · apply f56_of
      intro _ _
      refine ⟨_, binIs_bool_neq, (fun h => by simp at h), fun _ => ⟨fun h => by simp [hu] at h, fun _ => ?_⟩⟩
      have hs : Src H none 0 0 [] := ⟨rfl, Nat.le_refl _, .inl rfl⟩
      refine (f34_ht hs (.inl rfl) hs (.inl rfl)).mono fun r H1 ⟨he, hr⟩ => ⟨_, hr, (fun h => by simp at h), fun _ => ?_⟩
      subst he
      have : (((0 : Nat) : Int) != ((0 : Nat) : Int)) = false := by simp
      rw [this]
      apply f56_L1_of
      refine ⟨(fun h => by cases h), fun _ => ?_⟩
      apply f56_L2_of
      exact ⟨(fun h => by simp at h), fun _ => ⟨rfl, rfl⟩⟩
    · rw [hA.down, hd2] at hd; cases hd
  · rcases hw with ⟨hd2, _⟩ | ⟨hd2, dc, brr, jp, jn, jc, jms, rfl, b1, b2, b3, b4, b5, b6, b7, b8⟩
    · rw [hA.down, hd2] at hd; cases hd
    · have l1 := congrArg List.length a3
      have l2 := congrArg List.length b3
      simp at l1 l2
      have hbs : rdF ss n.D (ns * ss) 0 (ns * ss) = rdF ss f.D (ns * ss) 0 (ns * ss) := rdF_A hA.D _ _ _
      have s1 : Src H (some ⟨db, 0, none⟩) (ns * ss) (ns * ss) (rdF ss n.D (ns * ss) 0 (ns * ss)) := src_of a2 a3 (by omega)
      have s2 : Src H (some ⟨dc, 0, none⟩) (ns * ss) (ns * ss) (rdF ss n.D (ns * ss) 0 (ns * ss)) := by rw [hbs]; exact src_of b2 b3 (by omega)
      have li := a6.len
      have lj := b6.len
      have hlen : inn = jn := by rw [li, lj, a7, b7, hxs]
      apply f56_of
      intro _ _
      refine ⟨_, binIs_bool_neq, (fun h => by simp at h), fun _ => ⟨fun h => by simp [hu] at h, fun _ => ?_⟩⟩
      refine (f34_ht s1 (.inr ⟨_, _, rfl⟩) s2 (.inr ⟨_, _, rfl⟩)).mono fun r H1 ⟨he, hr⟩ => ⟨_, hr, (fun h => by simp at h), fun _ => ?_⟩
      subst he
      have : ((inn : Int) != (jn : Int)) = false := by simp [hlen]
      rw [this]
      apply f56_L1_of
      refine ⟨(fun h => by cases h), fun _ => ?_⟩
      have loop : ∀ (d i : Nat), inn - i = d → i ≤ inn → f56_L2 false (some ⟨db, 0, none⟩) (ns * ss) (ns * ss) ip inn ic n.s.used false (some ⟨dc, 0, none⟩) (ns * ss) (ns * ss) jp jn jc f.s.used (inn : Int) (i : Int) H1 fun r H' => H' = H1 ∧ r = .bool true := by
        intro d
        induction d with
        | zero =>
          intro i hd hi
          apply f56_L2_of
          exact ⟨fun hx => by have := of_decide_eq_true hx; omega, fun _ => ⟨rfl, rfl⟩⟩
        | succ d ih =>
          intro i hd hi
          have hil : i < ims.length := by omega
          have hjl : i < jms.length := by omega
          have hxl : i < n.s.xs.length := by omega
          have hyl : i < f.s.xs.length := by omega
          have hnm : n.s.xs[i] = f.s.xs[i] := by simp only [hxs]
          obtain ⟨pb, po, hp, hc⟩ := a6.cells (i := i) hil
          obtain ⟨qb, qo, hq, hc2⟩ := b6.cells (i := i) hjl
          have x1 := a8 i hil hxl
          have x2 := b8 i hjl hyl
          rw [← hnm] at x2
          obtain ⟨e1, e2, e3, e4, e5, bs, xb, yb, e6, e7, e8, e9⟩ := x1.same hA.s hI hJ x2
          have step : f56_L3 false (some ⟨db, 0, none⟩) (ns * ss) (ns * ss) ip inn ic n.s.used false (some ⟨dc, 0, none⟩) (ns * ss) (ns * ss) jp jn jc f.s.used ims[i].nm ims[i].id (ims[i].size : Int) (ims[i].res : Int) (ims[i].uns : Int) ims[i].dp ims[i].dn ims[i].dc jms[i].nm jms[i].id (jms[i].size : Int) (jms[i].res : Int) (jms[i].uns : Int) jms[i].dp jms[i].dn jms[i].dc (inn : Int) (i : Int) H1 fun r H' => H' = H1 ∧ r = .bool true := by
            apply f56_L3_of
            refine ⟨_, binIs_str_neq, fun h => by simp [e1] at h, fun _ => ⟨false, ?_, (fun h => by cases h), fun _ => ?_⟩⟩
            · rw [← e2, ← e3, ← e4, ← e5]; exact neq52
            · refine (f34_ht e8 (.inr ⟨_, _, e6⟩) e9 (.inr ⟨_, _, e7⟩)).mono fun r H2 ⟨he, hr⟩ => ⟨_, hr, ?_⟩
              subst he
              apply f56_L4_of
              refine ⟨(fun h => by cases h), fun _ => ?_⟩
              rw [wrapS (by omega)]
              exact ih (i + 1) (by omega) (by omega)
          apply f56_L2_of
          exact ⟨fun _ => ⟨pb, po, hp, by omega, by omega, _, _, _, _, _, _, _, _, hc, qb, qo, hq, by omega, by omega, _, _, _, _, _, _, _, _, hc2, fun _ _ => step, fun _ _ => step⟩, fun hx => by have := of_decide_eq_false hx; omega⟩
      exact loop inn 0 rfl (Nat.zero_le _)

theorem ViewIs.shape {H0 : Heap} (h : ViewIs H0 H ss ns n v) : ∃ (x0 : Bool) (p1 : Option Addr) (n1 c1 : Nat) (p2 : Option Addr) (n2 c2 : Nat) (x3 : Int), v = .agg #[.bool x0, .slice p1 n1 c1, .slice p2 n2 c2, .int .i64 x3] := by
  rcases h with ⟨hd, rfl⟩ | ⟨hd, db, arr, ip, inn, ic, ims, rfl, _⟩
  · exact ⟨_, _, _, _, _, _, _, _, rfl⟩
  · exact ⟨_, _, _, _, _, _, _, _, rfl⟩

/-- What a comparison of two racks leaves. -/
def samePost (H : Heap) (ga gb : Gh) (E : Nat → Value) (a b bda bdb Ma Mb : Nat) (nda ndb : Nat → NdV) (v : Value) (H' : Heap) : Prop :=
  v = .bool true ∧ Rig H' ga E a bda Ma nda ∧ Rig H' gb E b bdb Mb ndb ∧ Ev (fun tg => tg.1 = 27) H ga H' ga ∧ Ev (fun tg => tg.1 = 27) H gb H' gb ∧ ∀ q, Sep ga q → Sep gb q → GOk H q → Ev (fun _ => False) H q H' q

theorem f102_L1_ht {a b bda bdb Ma Mb : Nat} {nda ndb : Nat → NdV} {H0 : Heap} (hba : bda < 2 ^ 31) (hbb : bdb < 2 ^ 31) (hs : Sep ga gb) (hA : ∀ i, i < 3 → NdA (nda i) (ndb i)) :
    ∀ (d i : Nat) (H : Heap), 3 - i = d → i ≤ 3 → Rig H ga E a bda Ma nda → Rig H gb E b bdb Mb ndb → Ev (fun tg => tg.1 = 27) H0 ga H ga → Ev (fun tg => tg.1 = 27) H0 gb H gb → (∀ q, Sep ga q → Sep gb q → GOk H0 q → Ev (fun _ => False) H0 q H q) →
      f102_L1 (some ⟨a, 0, none⟩) (some ⟨b, 0, none⟩) (i : Int) H (samePost H0 ga gb E a b bda bdb Ma Mb nda ndb) := by
  intro d
  induction d with
  | zero =>
    intro i H hd hi Ra Rb ea eb eq
    apply f102_L1_of
    exact ⟨fun hx => by have := of_decide_eq_true hx; omega, fun _ => ⟨rfl, Ra, Rb, ea, eb, eq⟩⟩
  | succ d ih =>
    intro i H hd hi Ra Rb ea eb eq
    have hi3 : i < 3 := by omega
    apply f102_L1_of
    refine ⟨fun _ => ?_, fun hx => by have := of_decide_eq_false hx; omega⟩
    refine viewK hba Ra hi3 fun v H1 Ra1 hV e1 ⟨dvb, ht1, hk1⟩ => ?_
    obtain ⟨x0, p1, n1, c1, p2, n2, c2, x3, rfl⟩ := hV.shape
    refine ⟨_, _, _, _, _, _, _, _, rfl, ?_⟩
    have o1 := view_other hs Rb.ok ht1 hk1
    have Rb1 := Rb.off o1 none_offN
    refine viewK hbb Rb1 hi3 fun w H2 Rb2 hW e2 ⟨dvb2, ht2, hk2⟩ => ?_
    obtain ⟨y0, q1, m1, k1, q2, m2, k2, y3, rfl⟩ := hW.shape
    refine ⟨_, _, _, _, _, _, _, _, rfl, ?_⟩
    have o2 := view_other hs.symm Ra1.ok ht2 hk2
    have Ra2 := Ra1.off o2 none_offN
    have hV2 := hV.mv (G := H2) fun x o hx hx1 => by
      rw [hk2 x (by rw [hx1]; simp) (fun hc => Rb.ok x _ (by rw [hc]; exact ht2) hx)]
      exact hx1
    refine (f56_ht (hA i hi3) (Ra.inv i hi3) (Rb.inv i hi3) hV2 hW).mono fun r H3 ⟨he, hr⟩ => ⟨_, hr, (fun h => by cases h), fun _ => ?_⟩
    subst he
    rw [wrapS (by omega)]
    exact ih (i + 1) H3 (by omega) (by omega) Ra2 Rb2 ((ea.trans e1).trans (o2.mono fun _ h => h.elim)) ((eb.trans (o1.mono fun _ h => h.elim)).trans e2) fun q s1 s2 hq => by
      have a1 := eq q s1 s2 hq
      have a2 := view_other s1 a1.ok ht1 hk1
      exact (a1.trans a2).trans (view_other s2 a2.ok ht2 hk2)

theorem f102_ht {a b bda bdb Ma Mb : Nat} {nda ndb : Nat → NdV} (hba : bda < 2 ^ 31) (hbb : bdb < 2 ^ 31) (hs : Sep ga gb) (hA : ∀ i, i < 3 → NdA (nda i) (ndb i)) (Ra : Rig H ga E a bda Ma nda) (Rb : Rig H gb E b bdb Mb ndb) :
    HT Tryz.prog 102 [.pointer (some ⟨a, 0, none⟩), .pointer (some ⟨b, 0, none⟩)] H (samePost H ga gb E a b bda bdb Ma Mb nda ndb) := by
  apply f102_of
  exact f102_L1_ht hba hbb hs hA 3 0 H rfl (by omega) Ra Rb (Ev.refl Ra.ok) (Ev.refl Rb.ok) fun q _ _ hq => Ev.refl hq

/-- A node's crash, one way. -/
theorem crashK {K : Heap → Prop} {op : OpV} {cb i wy : Nat} (hbd : bd < 2 ^ 31) (R : Rig H g E rb bd M nd) (hc : CapOk H g cb op) (hi : i < 3)
    (hK : ∀ H' g' n' tr, Rig H' g' E rb bd M (ndset nd i n') → CapOk H' g' cb op → ndCrash (shS i) (shN i) (shC i) (nd i) tr n' → GoodA (wayA wy op) 0 tr → (∀ q, Sep g q → GOk H q → Ev (fun _ => False) H q H' q ∧ Sep g' q) → K H') :
    HT Tryz.prog 12 [.pointer (some ⟨rb, 0, none⟩), .int .i64 (i : Int)] H (fun v hp1 => ∃ (x36 : Option Addr), v = .pointer x36 ∧ (HT Tryz.prog (wayF wy) ((#[] ++ #[]) ++ wayD wy cb).toList hp1 (fun v hp2 => ∃ (x38 : Value), v = x38 ∧ (HT Tryz.prog 40 [.pointer x36, x38] hp2 (fun v hp3 => ∃ (x39_0 : Int), ∃ (x39_1 : Int), ∃ (x39_2 : Int), v = .agg #[.int .i64 x39_0, .int .i64 x39_1, .int .i64 x39_2] ∧ K hp3))))) := by
  refine (f12_ht R.rk hi).mono fun v H1 ⟨he, nb, hv, hnb⟩ => ⟨_, hv, ?_⟩
  subst he
  obtain ⟨nbk, h1, h2, h3⟩ := hnb
  obtain ⟨pwb, dvb, sb, hN⟩ := h3 i hi
  rw [h2] at hN
  have er : Ev (fun _ => False) H1 g (restr H1 g) g := restr_ev R.ok
  refine (HT.fr R.ok (way_ht (i := wy) er.ok (hc.ev er (fun h => h)))).mono fun pv H2 ⟨G, g2, hpv, hs2, e2, eG, f2⟩ => ⟨_, rfl, ?_⟩
  have R2 := R.off e2 none_offN
  have c2 := hc.ev e2 (fun h => h)
  have pv2 := hpv.ev eG (fun h => h) (fun h => h)
  have N2 := hN.off e2 none_offN
  have er2 : Ev (fun _ => False) H2 g2 (restr H2 g2) g2 := restr_ev R2.ok
  have hki : (0 : Int) ≤ (i : Int) ∧ (i : Int) < 3 := by omega
  have h40 := f40_any hki er2.ok (N2.off er2 none_offN) (R.inv i hi) hbd (pv2.ev er2 (fun h => h) (fun h => h))
  refine (HT.fr R2.ok h40).mono fun v H3 ⟨G3, g3, ⟨n', tr, ⟨a, b, c, hv3⟩, hN3, hcr, hgd⟩, hs3, e3, eG3, f3⟩ => ⟨a, b, c, hv3, ?_⟩
  have hnb2 : ∃ nbk : Nat → Nat, H2 rb = some (.cells #[.pointer (some ⟨nbk 0, 0, none⟩), .pointer (some ⟨nbk 1, 0, none⟩), .pointer (some ⟨nbk 2, 0, none⟩)] 125 (0, 0)) ∧ nbk i = nb ∧ ∀ k, k < 3 → NdE H2 g2 k (nbk k) bd (nd k) :=
    ⟨nbk, e2.get R.rk.tag (fun h => h) h1, h2, fun k hk => let ⟨p, d, s, hx⟩ := h3 k hk; ⟨p, d, s, hx.off e2 none_offN⟩⟩
  have r3 := R2.rk.upd R2.inv hi hnb2 e3 ⟨pwb, dvb, sb, hN3.off eG3 none_offN⟩ (Nat.le_refl _)
  refine hK H3 g3 n' tr ⟨e3.ok, R2.gl.ev e3 SpK.zero, r3, fun k hk => ?_, fun k hk => ?_⟩ (c2.ev e3 SpK.zero) hcr hgd fun q sq hq => ?_
  · unfold ndset
    split
    · rename_i hkk
      subst hkk
      obtain ⟨_, trD, trS, _, hc9, _⟩ := hcr
      exact (R.inv _ hk).crash hc9
    · exact R.inv k hk
  · unfold ndset
    split
    · obtain ⟨_, trD, trS, _, hc9, _⟩ := hcr
      obtain ⟨kp, ys, tr2, _, _, _, hset, _⟩ := hc9
      have hj := hset.same.2.2.2.2.1
      intro j hjm
      rw [hj] at hjm
      simp [crash1] at hjm
    · exact R.jt k hk
  · obtain ⟨o2, s2⟩ := f2.other e2 (fun h => h) hq sq
    obtain ⟨o3, s3⟩ := f3.other e3 SpK.zero o2.ok s2
    exact ⟨o2.trans o3, s3⟩

end

end Go.Proofs.Qxb6500695aGreatFmt
