/-
  objectsSettled, WHOLE.
-/
import Derived.Test.Qxb6500695aGreatFmtKl
namespace Go.Proofs.Qxb6500695aGreatFmt
open Go Go.Eng Go.Proofs
set_option maxRecDepth 100000
set_option linter.unusedVariables false
set_option linter.unusedSimpArgs false
set_option linter.unusedSectionVars false

section
variable {S : Nat × Int → Prop} {H H' : Heap} {g g' : Gh} {k mb wb sb ss cap bd pwb bk cn N : Nat} {E : Nat → Value} {P : Pw} {s : StV} {B : Int → Option Bk} {tr : List Ask} {M M' : Plc → Prop}

theorem S28.mono {cn' : Nat} (h : cn ≤ cn') {tg : Nat × Int} (ht : S28 k cn' tg) : S28 k cn tg := by
  rcases ht with h1 | h1 | h1 | h1 | ⟨c, h1, h2⟩
  · exact .inl h1
  · exact .inr (.inl h1)
  · exact .inr (.inr (.inl h1))
  · exact .inr (.inr (.inr (.inl h1)))
  · exact .inr (.inr (.inr (.inr ⟨c, by omega, h2⟩)))

/-- All names. -/
theorem f26all_ht {z : Int} (hg : GOk H g) (hG : Gl H g E) (h : StR H g z sb ss cap bd pwb s) (hp : PwR H g z pwb P) (hs : Srt s.xs) (hxb : s.xs.length < 2 ^ 30) (hup : P.down = false) :
    HT Tryz.prog 26 [.pointer (some ⟨sb, 0, none⟩), .string ⟨#[]⟩] H fun v H' => ∃ p n c g', v = .tuple #[.slice p n c, .nilIface] ∧ Ev (fun _ => False) H g H' g' ∧ OwnT H' g' (0, 0) 9 1 Str.cs p n c s.xs := by
  refine (f26_ht hG h hp hs hxb ⟨#[]⟩).mono fun v H1 hl => ?_
  rcases hl with ⟨hd, _⟩ | ⟨_, w, hv, hs1, p, n, c, lo, hi, hw, hlohi, hhi, hspot, hpre, hstop, hnew, hown⟩
  · rw [hup] at hd; cases hd
  subst hv hw
  have hlo : lo = 0 := by
    rcases Nat.eq_zero_or_pos lo with h0 | h0
    · exact h0
    · have := hspot.2.1 0 (by omega) h0
      exact absurd this (by show ¬ _ < ([] : List UInt8); exact List.not_lt_nil _)
  have hhi' : hi = s.xs.length := by
    rcases Nat.lt_or_ge hi s.xs.length with h0 | h0
    · have := hstop h0
      rw [hasPre_empty] at this
      cases this
    · omega
  subst hlo hhi'
  rw [List.take_length, List.drop_zero] at hown
  rcases hown.own with ⟨q1, _⟩ | ⟨b, o, arr, q1, q2, _⟩
  · exact ⟨p, n, c, g, rfl, Ev.sub hg hs1, hown, fun a ha => by rw [q1] at ha; cases ha⟩
  · exact ⟨p, n, c, _, rfl, Ev.roNew hg hs1 (hnew _ q1) q2, hown, fun a ha => by rw [q1] at ha; cases ha; simp [gset]⟩

theorem f28_ht (hg : GOk H g) (hC : Cx H g k mb wb sb ss cap bd pwb bk cn E P s B tr M) (hI : StI ss cap N s) (hn : NmI s) (hbd : bd < 2 ^ 31) (hup : P.down = false) (hbk : bk < 2 ^ 31) (hbk1 : 1 ≤ bk) (hcr : ∀ x b, s.m x = some b → ∃ y kk ch, B (s.O b).id = some y ∧ Cr1 ss tr (s.O b) y.zs y.C kk ch) :
    HT Tryz.prog 28 [.pointer (some ⟨sb, 0, none⟩), .map (some mb), .pointer (some ⟨wb, 0, none⟩)] H fun v H' => v = .bool true ∧ ∃ g' cn' B' M', Ev (S28 k cn) H g H' g' ∧ Cx H' g' k mb wb sb ss cap bd pwb bk cn' E P s B' tr M' ∧ cn' ≤ cn + s.xs.length ∧
      (∀ x b, s.m x = some b → ∃ y old, B' (s.O b).id = some y ∧ B (s.O b).id = some old ∧ y.zs = [(s.O b).size] ∧ y.C = resC ss (s.O b) old.C) ∧ (∀ i, (∀ x b, s.m x = some b → (s.O b).id ≠ i) → B' i = B i) ∧
      ∀ q, M' q ↔ (M q ∨ ∃ x b old, s.m x = some b ∧ B (s.O b).id = some old ∧ lastA tr q ≠ none ∧ (q = (2, (s.O b).id, 0) ∨ ∃ i : Nat, old.C (i : Int) ≠ [] ∧ q = (3, (s.O b).id, (i : Int)))) := by
  have hlenI := hI.len
  have hN : StN ss cap bd s := hI.toN hbd
  have hss := hN.shp
  have h18 : HT Tryz.prog 18 [.pointer (some ⟨sb, 0, none⟩)] H fun v H' => H' = H ∧ v = .int .i64 (ss : Int) := by
    obtain ⟨db, q, h1, h2⟩ := hC.R.ex
    apply f18_of
    exact ⟨sb, 0, rfl, _, Cells.of h1 rfl, rfl, rfl⟩
  apply f28_of
  refine h18.mono fun v H1 ⟨he1, hv1⟩ => ⟨_, hv1, ?_⟩
  subst he1
  refine (f26all_ht hg hC.G hC.R hC.W hI.srt (by omega) hup).mono fun v H2 ⟨np, nn, nc, g2, hv2, e2, o2⟩ => ⟨np, nn, nc, .nilIface, hv2, _, binIs_if_neq (.inl rfl) Tryz.underlying48, (fun h => by cases h), fun _ => ?_⟩
  have C2 := hC.evF hN.pos e2
  have hnl := o2.own.len
  -- the loop over the names
  have loop : ∀ (d j : Nat) (G : Heap) (q : Gh) (cn' : Nat) (B' : Int → Option Bk) (M' : Plc → Prop), s.xs.length - j = d → j ≤ s.xs.length → Ev (S28 k cn) H1 g G q → Cx G q k mb wb sb ss cap bd pwb bk cn' E P s B' tr M' → cn ≤ cn' → cn' ≤ cn + j → OwnT G q (0, 0) 9 1 Str.cs np nn nc s.xs →
      (∀ x b, x ∈ s.xs.take j → s.m x = some b → ∃ y old, B' (s.O b).id = some y ∧ B (s.O b).id = some old ∧ y.zs = [(s.O b).size] ∧ y.C = resC ss (s.O b) old.C) → (∀ i, (∀ x b, x ∈ s.xs.take j → s.m x = some b → (s.O b).id ≠ i) → B' i = B i) →
      (∀ q, M' q ↔ (M q ∨ ∃ x b old, x ∈ s.xs.take j ∧ s.m x = some b ∧ B (s.O b).id = some old ∧ lastA tr q ≠ none ∧ (q = (2, (s.O b).id, 0) ∨ ∃ i : Nat, old.C (i : Int) ≠ [] ∧ q = (3, (s.O b).id, (i : Int))))) →
      f28_L1 (some ⟨sb, 0, none⟩) (some mb) (some ⟨wb, 0, none⟩) (ss : Int) np nn nc (nn : Int) (j : Int) G fun v H' => v = .bool true ∧ ∃ g' cn' B' M', Ev (S28 k cn) H1 g H' g' ∧ Cx H' g' k mb wb sb ss cap bd pwb bk cn' E P s B' tr M' ∧ cn' ≤ cn + s.xs.length ∧
      (∀ x b, s.m x = some b → ∃ y old, B' (s.O b).id = some y ∧ B (s.O b).id = some old ∧ y.zs = [(s.O b).size] ∧ y.C = resC ss (s.O b) old.C) ∧ (∀ i, (∀ x b, s.m x = some b → (s.O b).id ≠ i) → B' i = B i) ∧
      ∀ q, M' q ↔ (M q ∨ ∃ x b old, s.m x = some b ∧ B (s.O b).id = some old ∧ lastA tr q ≠ none ∧ (q = (2, (s.O b).id, 0) ∨ ∃ i : Nat, old.C (i : Int) ≠ [] ∧ q = (3, (s.O b).id, (i : Int)))) := by
    intro d
    induction d with
    | zero =>
      intro j G q cn' B' M' hd hj e0 C0 hcn hcn2 o0 hdone hrest hM
      have hjl : j = s.xs.length := by omega
      subst hjl
      rw [List.take_length] at hdone hrest hM
      have hin : ∀ x b, s.m x = some b → x ∈ s.xs := fun x b hx => (hI.mem x).2 (by rw [hx]; simp)
      apply f28_L1_of
      refine ⟨fun hx => by have := of_decide_eq_true hx; omega, fun _ => ⟨rfl, q, cn', B', M', e0, C0, hcn2, fun x b hx => hdone x b (hin x b hx) hx, fun i hi => hrest i fun x b _ hx => hi x b hx, fun qq => ?_⟩⟩
      rw [hM]
      constructor
      · rintro (h | ⟨x, b, old, _, h⟩)
        · exact .inl h
        · exact .inr ⟨x, b, old, h⟩
      · rintro (h | ⟨x, b, old, h⟩)
        · exact .inl h
        · exact .inr ⟨x, b, old, hin x b h.1, h⟩
    | succ d ih =>
      intro j G q cn' B' M' hd hj e0 C0 hcn hcn2 o0 hdone hrest hM
      have hjl : j < s.xs.length := by omega
      obtain ⟨b38, o38, hnp, hnc⟩ := o0.own.cells (i := j) hjl
      have hxm : s.m s.xs[j] ≠ none := (hI.mem _).1 (List.getElem_mem _)
      obtain ⟨ob, hob⟩ : ∃ ob, s.m s.xs[j] = some ob := by
        cases hc : s.m s.xs[j] with
        | none => exact absurd hc hxm
        | some b => exact ⟨b, rfl⟩
      have hf : fnd s s.xs[j] = some ob := fnd_of (hn.m hI (by rw [hob]; simp)) hob
      have hobT := hI.mT _ _ hob
      obtain ⟨y, kk, ch, hy, hcr1⟩ := hcr _ _ hob
      -- its id is new to the loop
      have hfresh : ∀ x b, x ∈ s.xs.take j → s.m x = some b → (s.O b).id ≠ (s.O ob).id := by
        intro x b hx hb hid
        have hbb := ids_inj hI.idn (hI.mT _ _ hb) hobT hid
        subst hbb
        have hxx := hI.minj _ _ _ hb hob
        subst hxx
        obtain ⟨m, hm, hme⟩ := List.getElem_of_mem hx
        rw [List.getElem_take] at hme
        rw [List.length_take] at hm
        exact List.pairwise_iff_getElem.1 hI.xnd m j (by omega) hjl (by omega) hme
      have hy' : B' (s.O ob).id = some y := by rw [hrest _ hfresh]; exact hy
      have hid0 := (hI.idp ob hobT).1
      apply f28_L1_of
      refine ⟨fun _ => ⟨b38, o38, hnp, by omega, by omega, _, hnc, ?_⟩, fun hx => by have := of_decide_eq_false hx; omega⟩
      refine (f21_ht C0.G C0.R C0.W hI.mT (nm := s.xs[j])).mono fun v G1 ⟨he1, hv1⟩ => ?_
      subst he1
      rcases hv1 with ⟨hd', _⟩ | ⟨_, ⟨hnf, _⟩ | ⟨ob', un, hf', hv1, hun⟩⟩
      · rw [hup] at hd'; cases hd'
      · rw [hf] at hnf; cases hnf
      rw [hf] at hf'
      cases hf'
      have hun0 : un = 0 := hun.2 hcr1.cl
      subst hun0
      refine ⟨_, _, _, _, _, hv1, fun _ => ⟨_, binIs_if_neq (.inl rfl) Tryz.underlying48, (fun h => by cases h), fun _ => ?_⟩⟩
      obtain ⟨bes, bck, hmb, hlk⟩ := C0.B.look (s.O ob).id
      rw [hy'] at hlk
      refine ⟨mb, bes, bck, rfl, hmb, _, hlk, _, binIs_ptr_eql Tryz.underlying56, (fun h => by simp at h), fun _ => ?_⟩
      have hz : ((((0 : Nat) : Int)) != 0) = false := by simp
      rw [hz]
      have hPs := C0.B.ps _ _ hy'
      obtain ⟨sp, sn, sc, r, p1, p2, p3⟩ := hPs.ex
      have hzl := p2.own.len
      rw [List.length_map] at hzl
      have hznb := hPs.nb
      apply f28_L2_of
      refine ⟨(fun h => by cases h), fun _ _ => ⟨y.pb, 0, rfl, sp, sn, sc, Cells.of p1 rfl, ?_⟩⟩
      refine (f29m_ht e0.ok C0.T 2 (s.O ob).id 0 sn (by omega)).mono fun v G2 ⟨hv2, e2', T2⟩ => ⟨_, hv2, ?_⟩
      have n34 : ∀ {j : Nat} {z : Int}, j ≠ 34 → ¬ ((fun tg : Nat × Int => tg = (34, 0)) (j, z)) := fun hj hc => hj (by simpa using congrArg Prod.fst hc)
      have hag : agr tr (2, (s.O ob).id, 0) sn = true := agr_ok (c := kk) (by rw [hcr1.la, hzl])
      rw [hag]
      have K2 := C0.ev34 hN.pos e2' T2
      have p1' := e2'.get hPs.tag (n34 (by decide)) p1
      refine ⟨Cells.of p1' rfl, (fun h => by cases h), fun _ => ⟨y.pb, 0, rfl, sp, sn, sc, Cells.of p1' rfl, ?_⟩⟩
      obtain ⟨wp, wn, wc, ab, cb, mb', ce, cc, w1, w2, w3, w4⟩ := T2.choice (2, (s.O ob).id, 0)
      refine ⟨wb, 0, rfl, _, Cells.of w1 rfl, cb, ce, cc, rfl, w3, _, w4, ?_⟩
      have hcho : cho tr (2, (s.O ob).id, 0) = kk := cho_eq hcr1.la hcr1.kz
      rw [hcho]
      have p2' := p2.ev e2' (n34 (by decide))
      have hkz := hcr1.kz
      obtain ⟨b84, o84, hsp, hcz⟩ := p2'.own.cells (i := kk) (by simpa using hkz)
      have hzk : y.zs[kk]'hkz = (s.O ob).size := by
        have := hcr1.sz
        rw [List.getElem?_eq_getElem hkz] at this
        exact Option.some.inj this
      refine ⟨b84, o84, hsp, by omega, by omega, _, by simpa [I64.cs] using hcz, ?_⟩
      have hsame : ((((s.O ob).size : Nat) : Int) != (y.zs.map nI)[kk]'(by simpa using hkz)) = false := by
        rw [List.getElem_map, hzk]
        simp [nI]
      rw [List.getElem_map] at hsame
      rw [hsame]
      apply f28_L3_of
      refine ⟨(fun h => by cases h), fun _ b90 G3 ha3 b91 G4 ha4 b93 G5 ha5 => ?_⟩
      obtain ⟨g5, e5, F5⟩ := PsR.new (e := cd k cn') (ss := ss) (ns := cap) (bd := bk) e2'.ok ha3 ha4 ha5 hbk1
      have K5 := K2.evF hN.pos e5
      have p5 := e5.get hPs.tag (fun h => h) p1'
      obtain ⟨_, m5⟩ := (K5.B.ps _ _ hy').at (es := #[]) (ck := 0) p5
      refine ⟨y.pb, 0, rfl, _, Cells.of p5 rfl, ?_⟩
      obtain ⟨tr5, es, ck, hr5, hok5, _⟩ := m5
      refine semOk_range Tryz.underlying61 hr5 fun ib G6 ha6 => ⟨_, rfl, ?_⟩
      obtain ⟨e6, t6⟩ := Ev.al (S := fun _ => False) e5.ok ha6 (51, 0)
      have K6 := K5.evF hN.pos e6
      have F6 := F5.ev e6 (fun h => h) fun _ _ h => h
      have e06 : Ev (S28 k cn) H1 g G6 (gset g5 ib (51, 0)) := (e0.trans (e2'.mono fun tg h => .inr (.inl h))).trans ((e5.trans e6).mono fun tg h => h.elim)
      have o6 : OwnT G6 (gset g5 ib (51, 0)) (0, 0) 9 1 Str.cs np nn nc s.xs := ((o0.ev e2' (n34 (by decide))).ev e5 (fun h => h)).ev e6 (fun h => h)
      refine f28_L4_ht (H0 := G6) (g0 := gset g5 ib (51, 0)) (M0 := fun qq => M' qq ∨ (qq = (2, (s.O ob).id, 0) ∧ lastA tr (2, (s.O ob).id, 0) ≠ none)) (x := y) (fb := b93) hN hI.mT hup hf hy' hbk hbk1 hcr1 (fun H' g' M2 e7 K7 hM2 => ?_) _ G6 _ _ #[] [] rfl (Ev.refl e6.ok) K6 F6 (ha6.keep p5) (ha6.keep hr5) t6 ha6.same (Met.start es) (fun qq => ⟨.inl, fun h => h.elim id fun ⟨e1, he1, _⟩ => by cases he1⟩)
      apply f28_L10_of
      unfold f28_L10_pre
      rw [wrapS (by omega)]
      have htk : s.xs.take (j + 1) = s.xs.take j ++ [s.xs[j]] := take_succ hjl
      refine ih (j + 1) H' g' (cn' + 1) _ M2 (by omega) (by omega) (e06.trans (e7.mono fun tg h => S28.mono hcn h)) K7 (by omega) (by omega) (o6.ev e7 S28.zero) (fun x b hx hb => ?_) (fun i hi => ?_) (fun qq => ?_)
      · rw [htk] at hx
        rcases List.mem_append.1 hx with hx | hx
        · obtain ⟨y1, old, h1, h2, h3, h4⟩ := hdone x b hx hb
          refine ⟨y1, old, ?_, h2, h3, h4⟩
          unfold Bset
          rw [if_neg (hfresh x b hx hb)]
          exact h1
        · rw [List.mem_singleton.1 hx] at hb
          rw [hob] at hb
          cases hb
          refine ⟨_, y, by unfold Bset; rw [if_pos rfl], hy, rfl, rfl⟩
      · have h1 : i ≠ (s.O ob).id := fun hc => hi s.xs[j] ob (by rw [htk]; exact List.mem_append_right _ (List.mem_singleton.2 rfl)) hob hc.symm
        unfold Bset
        rw [if_neg h1]
        exact hrest i fun x b hx hb => hi x b (by rw [htk]; exact List.mem_append_left _ hx) hb
      · rw [hM2, hM]
        constructor
        · rintro (((h | ⟨x, b, old, h1, h2⟩) | ⟨h1, h2⟩) | ⟨i, h1, h2, h3⟩)
          · exact .inl h
          · exact .inr ⟨x, b, old, by rw [htk]; exact List.mem_append_left _ h1, h2⟩
          · exact .inr ⟨s.xs[j], ob, y, by rw [htk]; exact List.mem_append_right _ (List.mem_singleton.2 rfl), hob, hy, by rw [h1]; exact h2, .inl h1⟩
          · exact .inr ⟨s.xs[j], ob, y, by rw [htk]; exact List.mem_append_right _ (List.mem_singleton.2 rfl), hob, hy, h3, .inr ⟨i, h1, h2⟩⟩
        · rintro (h | ⟨x, b, old, h1, h2, h3, h4, h5⟩)
          · exact .inl (.inl (.inl h))
          · rw [htk] at h1
            rcases List.mem_append.1 h1 with h1 | h1
            · exact .inl (.inl (.inr ⟨x, b, old, h1, h2, h3, h4, h5⟩))
            · rw [List.mem_singleton.1 h1, hob] at h2
              cases h2
              rw [hy] at h3
              cases h3
              rcases h5 with h5 | ⟨i, h5, h6⟩
              · exact .inl (.inr ⟨h5, by rw [← h5]; exact h4⟩)
              · exact .inr ⟨i, h5, h6, h4⟩
  exact loop _ 0 H2 g2 cn B M rfl (Nat.zero_le _) (e2.mono fun tg h => h.elim) C2 (Nat.le_refl _) (Nat.le_refl _) o2 (fun x b hx => by cases hx) (fun i _ => rfl) fun q => ⟨.inl, fun h => h.elim id fun ⟨x, b, old, hx, _⟩ => by cases hx⟩

end

end Go.Proofs.Qxb6500695aGreatFmt
