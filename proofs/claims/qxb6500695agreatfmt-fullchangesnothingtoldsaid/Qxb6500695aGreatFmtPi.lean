/-
  NEVER OVER CAPACITY, THE LAW.
-/
import Derived.Test.Qxb6500695aGreatFmtPh
namespace Go.Proofs.Qxb6500695aGreatFmt
open Go Go.Eng Go.Proofs
set_option maxRecDepth 100000
set_option linter.unusedVariables false
set_option linter.unusedSimpArgs false
set_option linter.unusedSectionVars false

section
variable {S : Nat × Int → Prop} {H H' : Heap} {g g' : Gh} {p : Option Addr} {n c : Nat} {ops : List OpV} {E : Nat → Value} {k : Int} {sb ss cap bd pwb rb M : Nat} {s : StV} {nd : Nat → NdV}

theorem f46_ht (h : StR H g k sb ss cap bd pwb s) : HT Tryz.prog 46 [.pointer (some ⟨sb, 0, none⟩)] H fun v H' => H' = H ∧ v = .int .i64 s.used := by
  obtain ⟨db, q, h1, h2⟩ := h.ex
  apply f46_of
  exact ⟨sb, 0, rfl, _, Cells.of h1 rfl, rfl, rfl⟩

theorem f47_ht (h : StR H g k sb ss cap bd pwb s) : HT Tryz.prog 47 [.pointer (some ⟨sb, 0, none⟩)] H fun v H' => H' = H ∧ v = .int .i64 (cap : Int) := by
  obtain ⟨db, q, h1, h2⟩ := h.ex
  apply f47_of
  exact ⟨sb, 0, rfl, _, Cells.of h1 rfl, rfl, rfl⟩

theorem f48_ht (h : StR H g k sb ss cap bd pwb s) : HT Tryz.prog 48 [.pointer (some ⟨sb, 0, none⟩)] H fun v H' => H' = H ∧ v = .int .i64 (IntKind.wrap .i64 ((cap : Int) - s.used)) := by
  obtain ⟨db, q, h1, h2⟩ := h.ex
  apply f48_of
  exact ⟨sb, 0, rfl, _, Cells.of h1 rfl, sb, 0, rfl, _, Cells.of h1 rfl, rfl, rfl⟩

theorem f18_ht (h : StR H g k sb ss cap bd pwb s) : HT Tryz.prog 18 [.pointer (some ⟨sb, 0, none⟩)] H fun v H' => H' = H ∧ v = .int .i64 (ss : Int) := by
  obtain ⟨db, q, h1, h2⟩ := h.ex
  apply f18_of
  exact ⟨sb, 0, rfl, _, Cells.of h1 rfl, rfl, rfl⟩

/-- The images' loop. -/
theorem f7_L4_ht {j : Int} {sp : Option Addr} {sn sc : Nat} {x20 x21 : Int} {R : Value → Heap → Prop} (hI : StI ss cap M s) {ip : Option Addr} {inn ic : Nat} {ims : List Im} (hlen : ims.length = s.xs.length) (hok : ∀ i (h : i < ims.length) (hx : i < s.xs.length), ImOk s s.xs[i] ims[i])
    (hR : StR H g k sb ss cap bd pwb s) (hims : OwnT H g (42, 0) 103 6 Im.cs ip inn ic ims) (hg : GOk H g)
    (hfin : ∀ H1 g1, Ev (fun tg => tg = (42, 0)) H g H1 g1 → f7_L6 (some ⟨rb, 0, none⟩) j sp sn sc x20 x21 H1 R) :
    ∀ (d i : Nat), ims.length - i = d → i ≤ ims.length →
      f7_L4 (some ⟨rb, 0, none⟩) j (some ⟨sb, 0, none⟩) (sumOf Im.res (ims.take i) : Int) (sumOf (fun i => sect ss i.size) (ims.take i) : Int) sp sn sc x20 x21 ip inn ic (inn : Int) (i : Int) H R := by
  have hxl := hI.len
  have himn := hims.own.len
  have hbound : ∀ i (h : i < ims.length), ims[i].res ≤ 12 ∧ ims[i].size ≤ cap * ss ∧ sect ss ims[i].size ≤ ims[i].res := by
    intro i hi
    obtain ⟨_, b, hb, _, h1, h2, _⟩ := hok i hi (by omega)
    have hO := hR.obs b (hI.mT _ _ hb)
    have hn := hI.num b (hI.mh _ _ hb)
    have := hO.rb
    have := hI.shp
    rw [h1, h2]
    exact ⟨by omega, hO.fit.1, hn.res.1⟩
  have hcs : cap * ss ≤ 12 * 16 := Nat.mul_le_mul hI.shp.2.2 hI.shp.2.1
  have hsum : ∀ i, i ≤ ims.length → sumOf Im.res (ims.take i) ≤ 12 * i ∧ sumOf (fun i => sect ss i.size) (ims.take i) ≤ 12 * i := by
    intro i
    induction i with
    | zero => intro _; simp [sumOf]
    | succ i ih =>
      intro hi
      have h1 := ih (by omega)
      have h2 := hbound i (by omega)
      rw [take_succ (by omega), sumOf_append, sumOf_append]
      simp only [sumOf]
      omega
  intro d
  induction d with
  | zero =>
    intro i hd hi
    have hil : i = ims.length := by omega
    subst hil
    rw [List.take_length]
    obtain ⟨hs1, hs2⟩ := ims_sum (s := s) (ss := ss) s.xs ims hlen hok
    have hused := hI.used
    have hsp : sumOf (resS s) (heldL s) = sumOf (resS s) (s.xs.filterMap s.m) + sumOf (resS s) (vics s.jr) := sumOf_append _ _ _
    apply f7_L4_of
    refine ⟨fun hx => by have := of_decide_eq_true hx; omega, fun _ => ?_⟩
    refine (f46_ht hR).mono fun v H1 ⟨he, hv⟩ => ⟨_, hv, fun hx => ?_, fun _ => ?_⟩
    · have hx := of_decide_eq_true hx
      omega
    · subst he
      refine (f51_ht hg hR hI.mT).mono fun v H2 ⟨g2, e2, b, hv2, hb⟩ => ⟨_, hv2, fun ht => ?_, fun _ => ?_⟩
      · have hcl := hb.1 ht
        have hR2 := hR.off e2 off42
        refine (f46_ht hR2).mono fun v H3 ⟨he3, hv3⟩ => ⟨_, hv3, ?_⟩
        subst he3
        have heq : s.used = (sumOf (fun i => sect ss i.size) ims : Int) := by
          rw [hused, hs2]
          have hH : heldL s = s.xs.filterMap s.m := by
            unfold heldL
            rw [hcl.1]
            simp [vics]
          rw [hH]
          congr 1
          have aux : ∀ l : List Nat, (∀ b ∈ l, ∃ x, s.m x = some b) → sumOf (resS s) l = sumOf (fun b => sect ss (s.O b).size) l := by
            intro l
            induction l with
            | nil => intro _; rfl
            | cons y l ih =>
              intro hy
              obtain ⟨x, hx⟩ := hy y List.mem_cons_self
              have h1 := hcl.2 x y hx
              have h2 := (hI.num y (hI.mh _ _ hx)).clean h1.1 h1.2
              simp only [sumOf, ih fun b hb => hy b (List.mem_cons_of_mem _ hb)]
              show (s.O y).res + _ = _
              rw [h2]
          refine aux _ fun b hb => ?_
          obtain ⟨x, _, hx⟩ := List.mem_filterMap.1 hb
          exact ⟨x, hx⟩
        have hne : (s.used != (sumOf (fun i => sect ss i.size) ims : Int)) = false := by rw [heq]; simp
        rw [hne]
        apply f7_L5_of
        exact ⟨(fun h => by cases h), fun _ => hfin H3 g2 e2⟩
      · apply f7_L5_of
        exact ⟨(fun h => by cases h), fun _ => hfin H2 g2 e2⟩
  | succ d ih =>
    intro i hd hi
    have hil : i < ims.length := by omega
    obtain ⟨b, o, hp, hc⟩ := hims.own.cells (i := i) hil
    obtain ⟨q1, q2, q3⟩ := hbound i hil
    have hs := hsum i (by omega)
    apply f7_L4_of
    refine ⟨fun _ => ?_, fun hx => by have := of_decide_eq_false hx; omega⟩
    refine ⟨b, o, hp, by omega, by omega, ims[i].nm, ims[i].id, (ims[i].size : Int), (ims[i].res : Int), (ims[i].uns : Int), ims[i].dp, ims[i].dn, ims[i].dc, by simpa [Im.cs] using hc, fun _ => ?_⟩
    refine (f18_ht hR).mono fun v H1 ⟨he, hv⟩ => ⟨_, hv, ?_⟩
    subst he
    refine (f50_ht ⟨hI.shp.1, hI.shp.2.1⟩ (by omega)).mono fun v H2 ⟨he2, hv2⟩ => ⟨_, hv2, fun hx => ?_, fun _ => ?_⟩
    · have hx := of_decide_eq_true hx
      omega
    · subst he2
      have w1 : IntKind.wrap .i64 ((sumOf Im.res (ims.take i) : Int) + (ims[i].res : Int)) = (sumOf Im.res (ims.take (i + 1)) : Int) := by
        rw [take_succ hil, sumOf_append]
        simp only [sumOf]
        rw [wrapI] <;> omega
      have w2 : IntKind.wrap .i64 ((sumOf (fun i => sect ss i.size) (ims.take i) : Int) + (sect ss ims[i].size : Int)) = (sumOf (fun i => sect ss i.size) (ims.take (i + 1)) : Int) := by
        rw [take_succ hil, sumOf_append]
        simp only [sumOf]
        rw [wrapI] <;> omega
      rw [w1, w2, wrapS (by omega)]
      exact ih (i + 1) (by omega) (by omega)

/-- The nodes' loop. -/
theorem f7_L2_ht {sp : Option Addr} {sn sc : Nat} {x20 x21 : Int} {R : Value → Heap → Prop} (hI : RkI M nd) (hbd : bd < 2 ^ 31) :
    ∀ (d j : Nat) (H : Heap) (g : Gh), 3 - j = d → j ≤ 3 → GOk H g → Gl H g E → RkR H g rb bd nd →
      (∀ H1 g1, Ev (fun tg => tg = (42, 0)) H g H1 g1 → f7_L7 (some ⟨rb, 0, none⟩) sp sn sc x20 x21 H1 R) →
      f7_L2 (some ⟨rb, 0, none⟩) (j : Int) sp sn sc x20 x21 H R := by
  intro d
  induction d with
  | zero =>
    intro j H g hd hj hg hG hR hnext
    apply f7_L2_of
    exact ⟨fun hx => by have := of_decide_eq_true hx; omega, fun _ => hnext H g (Ev.refl hg)⟩
  | succ d ih =>
    intro j H g hd hj hg hG hR hnext
    have hj3 : j < 3 := by omega
    have hIj := hI j hj3
    have hlj := hIj.len
    have hu := hIj.cap
    have hu0 : 0 ≤ (nd j).s.used := by rw [hIj.used]; omega
    have hcap := hIj.shp.2.2
    apply f7_L2_of
    refine ⟨fun _ => ?_, fun hx => by have := of_decide_eq_false hx; omega⟩
    refine (f12_ht hR hj3).mono fun v H1 ⟨he, nb, hv, hnb⟩ => ⟨_, hv, ?_⟩
    subst he
    obtain ⟨nbk, hrb, hnk, hnds⟩ := hnb
    obtain ⟨pwb, dvb, sb, hN⟩ := hnds j hj3
    rw [hnk] at hN
    refine (f17_ht hN.nd).mono fun v H2 ⟨he, hv⟩ => ⟨_, hv, ?_⟩
    subst he
    refine (f46_ht hN.st).mono fun v H3 ⟨he, hv⟩ => ⟨_, hv, fun hx => by have := of_decide_eq_true hx; omega, fun _ => ?_⟩
    subst he
    refine (f46_ht hN.st).mono fun v H4 ⟨he, hv⟩ => ⟨_, hv, ?_⟩
    subst he
    refine (f47_ht hN.st).mono fun v H5 ⟨he, hv⟩ => ⟨_, hv, fun hx => by have := of_decide_eq_true hx; omega, fun _ => ?_⟩
    subst he
    refine (f48_ht hN.st).mono fun v H6 ⟨he, hv⟩ => ⟨_, hv, ?_⟩
    subst he
    refine (f47_ht hN.st).mono fun v H7 ⟨he, hv⟩ => ⟨_, hv, ?_⟩
    subst he
    refine (f46_ht hN.st).mono fun v H8 ⟨he, hv⟩ => ⟨_, hv, ?_⟩
    subst he
    have hself : ∀ x : Int, (x != x) = false := fun x => by simp
    rw [hself]
    have again : ∀ H9 g9, Ev (fun tg => tg = (42, 0)) H8 g H9 g9 → f7_L6 (some ⟨rb, 0, none⟩) (j : Int) sp sn sc x20 x21 H9 R := by
      intro H9 g9 e9
      apply f7_L6_of
      unfold f7_L6_pre
      rw [wrapS (by omega)]
      exact ih (j + 1) H9 g9 (by omega) (by omega) e9.ok (hG.ev e9 (fun hc => by cases hc)) (hR.off e9 off42N) fun H1 g1 e1 => hnext H1 g1 (e9.trans e1)
    apply f7_L3_of
    refine ⟨(fun h => by cases h), fun _ => ?_⟩
    refine (f12_ht hR hj3).mono fun v H9 ⟨he, nb2, hv, hnb2⟩ => ⟨_, hv, ?_⟩
    subst he
    obtain ⟨nbk2, hrb2, hnk2, hnds2⟩ := hnb2
    obtain ⟨pwb2, dvb2, sb2, hN2⟩ := hnds2 j hj3
    rw [hnk2] at hN2
    refine (f31_ht hN2.nd hN2.pw).mono fun v H10 ⟨he, hv⟩ => ⟨_, hv, fun hdn => ?_, fun hdn => ?_⟩
    · subst he
      exact again _ g (Ev.refl hg)
    · subst he
      refine (f49_ht hg hG hN.st hN.pw (hIj.toN hbd) hIj.mem hIj.mT (by omega) hdn).mono fun v H11 ⟨ip, inn, ic, ims, g11, hv11, e11, oims, himl, himok⟩ => ⟨ip, inn, ic, .nilIface, hv11, _, binIs_if_neq (.inl rfl) Tryz.underlying48, (fun h => by cases h), fun _ => ?_⟩
      exact f7_L4_ht hIj himl himok (hN.st.off e11 off42) oims e11.ok (fun H1 g1 e1 => again H1 g1 (e11.trans e1)) _ 0 rfl (Nat.zero_le _)

/-- The script's loop. -/
theorem f7_L1_ht {H0 : Heap} {g0 : Gh} (hn : ops.length ≤ 65536) (hsm : ∀ j (hj : j < ops.length), ops[j].dn ≤ 65536 ∧ ops[j].pn ≤ 65536) :
    ∀ (d i : Nat) (H : Heap) (g : Gh) (nd : Nat → NdV), ops.length - i = d → i ≤ ops.length → Ev (fun tg => tg ≠ (0, 0)) H0 g0 H g → GOk H g → Gl H g E → Scr H g p n ops → RkR H g rb (80 * i) nd → RkI (4 * i) nd →
      f7_L1 (some ⟨rb, 0, none⟩) p n c (n : Int) (i : Int) H fun v H' => v = .bool true ∧ ∃ g', Ev (fun tg => tg ≠ (0, 0)) H0 g0 H' g' := by
  intro d
  induction d with
  | zero =>
    intro i H g nd hd hi e0 hg hG hS hR hI
    have hlen := hS.len
    apply f7_L1_of
    exact ⟨fun hx => by have := of_decide_eq_true hx; omega, fun _ => ⟨rfl, g, e0⟩⟩
  | succ d ih =>
    intro i H g nd hd hi e0 hg hG hS hR hI
    have hlen := hS.len
    have hil : i < ops.length := by omega
    obtain ⟨b, o, hp, htb, hc⟩ := hS.cells i hil
    have hop := (hS.ok i hil).ok (hsm i hil).1 (hsm i hil).2
    apply f7_L1_of
    refine ⟨fun _ => ?_, fun hx => by have := of_decide_eq_false hx; omega⟩
    refine ⟨b, o, hp, by omega, by omega, ops[i].kd, ops[i].node, ops[i].nm, ops[i].to, ops[i].off, ops[i].n, ops[i].dp, ops[i].dn, ops[i].dc, ops[i].pp, ops[i].pn, ops[i].pc, by simpa [OpV.cs] using hc, fun _ => ?_⟩
    refine (f20_ht hg hG hR hI (by omega) (by omega) hop).mono fun v H1 ⟨e, m, dp, dn, dc, np, nn, nc, i1, i2, i3, i4, n', tr, g1, hv, _, e1, r1, hstep⟩ => ⟨e, m, dp, dn, dc, np, nn, nc, i1, i2, i3, i4, hv, ?_⟩
    have hk3 := nodeOf_lt ops[i].node
    have I1 : RkI (4 * (i + 1)) (ndset nd (nodeOf ops[i].node) n') := by
      intro k hk
      unfold ndset
      split
      · rename_i hkk
        subst hkk
        have h8 := hstep.inv (M := 4 * i) (hI _ hk3) (by omega)
        rw [Nat.mul_add, Nat.mul_one]
        exact h8
      · exact (hI k hk).mono (by omega) (by omega)
    have r1' : RkR H1 g1 rb (80 * (i + 1)) (ndset nd (nodeOf ops[i].node) n') := by
      rw [Nat.mul_add, Nat.mul_one]
      exact r1
    refine f7_L2_ht (E := E) I1 (by omega) 3 0 H1 g1 rfl (by omega) e1.ok (hG.ev e1 SpK.zero) r1' fun H2 g2 e2 => ?_
    apply f7_L7_of
    unfold f7_L7_pre
    rw [wrapS (by omega)]
    exact ih (i + 1) H2 g2 _ (by omega) (by omega) ((e0.trans (e1.mono fun tg ht hc => SpK.zero (hc ▸ ht))).trans (e2.mono fun tg ht hc => by rw [ht] at hc; cases hc)) e2.ok ((hG.ev e1 SpK.zero).ev e2 (fun hc => by cases hc)) ((hS.ev e1 SpK.zero).ev e2 (fun hc => by cases hc)) (r1'.off e2 off42N) I1

theorem f7_ht (hg : GOk H g) (hG : Gl H g E) (hNm : NmOk H g) (hS : Scr H g p n ops) : HT Tryz.prog 7 [.slice p n c] H fun v H' => v = .bool true ∧ ∃ g', Ev (fun tg => tg ≠ (0, 0)) H g H' g' := by
  apply f7_of
  refine (f10_ht (c := c) hS).mono fun v H1 ⟨he, b, hv, hb⟩ => ⟨_, hv, fun _ => ⟨rfl, g, by rw [he]; exact Ev.refl hg⟩, fun hx => ?_⟩
  subst he
  have hbt : b = true := by simpa using hx
  obtain ⟨hn, hsm⟩ := hb hbt
  refine (f11_ht hg hNm).mono fun v H2 ⟨rb, g2, hv2, e2, r2⟩ => ⟨_, hv2, ?_⟩
  have n0 : ¬ ((fun tg : Nat × Int => tg = (29, 0)) (0, 0)) := fun hc => by simp at hc
  exact f7_L1_ht (E := E) hn hsm _ 0 H2 g2 _ rfl (Nat.zero_le _) (e2.mono fun tg ht hc => by rw [ht] at hc; cases hc) e2.ok (hG.ev e2 n0) (hS.ev e2 n0) r2 fun k hk => st0_inv

end

end Go.Proofs.Qxb6500695aGreatFmt
