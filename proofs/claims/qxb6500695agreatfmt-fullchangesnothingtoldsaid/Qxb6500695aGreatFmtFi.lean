/-
  FORKS: stores, devices, nodes.
-/
import Derived.Test.Qxb6500695aGreatFmtFh
import Derived.Test.Qxb6500695aGreatFmtQd
namespace Go.Proofs.Qxb6500695aGreatFmt
open Go Go.Eng Go.Proofs
set_option maxRecDepth 100000
set_option linter.unusedVariables false
set_option linter.unusedSimpArgs false
set_option linter.unusedSectionVars false

theorem setAll_all {c : Array Value} {vs : List Value} (h : c.size = vs.length) : setAll c 0 vs = vs.toArray := by
  apply Array.ext_getElem?
  intro i
  rw [setAll_get _ _ _ _ (by omega)]
  by_cases hi : i < vs.length
  · rw [if_pos ⟨Nat.zero_le _, by omega⟩]
    simp
  · rw [if_neg (fun hc => hi (by omega)), Array.getElem?_eq_none (by omega), Array.getElem?_eq_none (by simp; omega)]

/-- A store's copy: the same but for the blocks. -/
structure Iso (s f : StV) (τ : Nat → Option Nat) : Prop where
  used : f.used = s.used
  nxt : f.nxt = s.nxt
  xs : f.xs = s.xs
  said : Said s τ f.m f.st
  jr : f.jr = s.jr.map (Jr.tw τ)
  jd : ∀ j ∈ s.jr, JrD τ j
  T : f.T = s.T.filterMap τ
  O : ∀ b b', τ b = some b' → b ∈ s.T ∧ ∃ pb', f.O b' = { s.O b with pb := pb' }
  inj : ∀ a b x, τ a = some x → τ b = some x → a = b

section
variable {H : Heap} {q g : Gh} {k : Int} {ss cap bd sb pwb cb tr db pw' : Nat} {s : StV}

theorem Tw.inj {G : Heap} {qq : Gh} {τ : Nat → Option Nat} (h : Tw H q k ss cap bd s cb tr G qq τ) (hid : (s.T.map fun b => (s.O b).id).Nodup) : ∀ a b x, τ a = some x → τ b = some x → a = b := by
  intro a b x ha hb
  obtain ⟨h1, p1, O1⟩ := h.ob a x ha
  obtain ⟨h2, p2, O2⟩ := h.ob b x hb
  have t1 := O1.tag
  rw [O2.tag] at t1
  simp at t1
  exact ids_inj hid h1 h2 (zO_inj t1).symm

/-- What is asked of a store for its copy. -/
structure FkS (H : Heap) (q g : Gh) (k : Int) (sb ss cap bd pwb : Nat) (s : StV) : Prop where
  hg : GOk H g
  hq : GOk H q
  hr : RoIn g q
  hS : StR H g k sb ss cap bd pwb s
  hbd : bd < 2 ^ 31
  hmT : ∀ x b, s.m x = some b → b ∈ s.T
  hsT : ∀ x b, s.st x = some b → b ∈ s.T
  hjT : ∀ j ∈ s.jr, j.ob ∈ s.T ∧ ∀ v, j.vic = some v → v ∈ s.T
  hid : (s.T.map fun b => (s.O b).id).Nodup
  jl : s.jr.length < 2 ^ 31
  xl : s.xs.length < 2 ^ 30

/-- A store's copy. -/
theorem f88_ht (h : FkS H q g k sb ss cap bd pwb s) :
    HT Tryz.prog 88 [.pointer (some ⟨sb, 0, none⟩), .pointer (some ⟨pw', 0, none⟩)] H fun v H' => ∃ sb' q' f τ, v = .pointer (some ⟨sb', 0, none⟩) ∧ Fx H q H' q' ∧ StR H' q' k sb' ss cap bd pw' f ∧ Iso s f τ := by
  obtain ⟨db, q9, h1, hd⟩ := h.hS.ex
  apply f88_of
  intro tr H1 ha1 cb H2 ha2
  refine ⟨_, _, ha2.same, by simp, fun H3 hw3 => ?_⟩
  have hw3' : Wr H2 cb (.cells #[.map (some tr)] 229 (0, 0)) H3 := hw3
  have f1 : Fx H q H1 q := Fx.ofSub h.hq ha1.sub
  have hcb0 : H cb = none := by
    cases hc : H cb with
    | none => rfl
    | some o => have := ha2.fresh; rw [ha1.keep hc] at this; cases this
  have f2 : Fx H q H2 q := f1.trans (Fx.ofSub f1.ev.ok ha2.sub)
  have f3 : Fx H q H3 q := f2.wr h.hq hcb0 hw3'
  have qnone : ∀ {x : Nat}, H x = none → q x = none := fun {x} hx => by
    cases hc : q x with
    | none => rfl
    | some t => exact absurd hx (h.hq x t hc)
  have htr3 : H3 tr = some (.map #[] 0) := hw3'.keep (ha2.keep ha1.same) (fun hc => by have := ha2.fresh; rw [← hc, ha1.same] at this; cases this)
  have T3 : Tw H q k ss cap bd s cb tr H3 q (fun _ => none) := ⟨f3, hcb0, qnone hcb0, hw3'.same, ha1.fresh, qnone ha1.fresh, ⟨#[], 0, htr3, fun e he => by simp at he, fun b => rfl⟩, fun b b' hb => by cases hb⟩
  refine ⟨sb, 0, rfl, _, _, _, _, _, _, _, _, _, _, _, _, _, _, _, Cells.of (f3.sub _ _ h1) rfl, fun sb' H4 ha4 => ⟨_, _, ha4.same, by simp, fun H5 hw5 => ?_⟩⟩
  rw [setAll_all (by simp)] at hw5
  have hw5' : Wr H4 sb' (stB ss cap s.used s.nxt db pwb q9) H5 := hw5
  obtain ⟨f4, t4⟩ := Fx.al f3.ev.ok ha4 (20, k)
  have T4 := T3.step f4
  have hsb0 : H sb' = none := by
    cases hc : H sb' with
    | none => rfl
    | some o => have := ha4.fresh; rw [f3.sub _ _ hc] at this; cases this
  have hsc : sb' ≠ cb := fun hc => by have := ha4.fresh; rw [hc, hw3'.same] at this; cases this
  have hst : sb' ≠ tr := fun hc => by have := ha4.fresh; rw [hc, htr3] at this; cases this
  have e5 : Ev (fun tg => tg = (20, k)) H4 (gset q sb' (20, k)) H5 (gset q sb' (20, k)) := Ev.wr f4.ev.ok hw5' fun tg htg => by rw [t4] at htg; cases htg; rfl
  have T5 := T4.upd h.hq hsb0 hsc hst hw5' e5 (fun hc => by simp at hc) (fun z tg ht => SpO.n2 ht ⟨by decide, by decide⟩)
  refine ⟨sb, 0, rfl, _, Cells.of (T5.fx.sub _ _ h1) rfl, ?_⟩
  have hK : FkG H q g k sb ss cap bd pwb s H5 (gset q sb' (20, k)) := ⟨h.hg, h.hq, h.hr, h.hS, h.hbd, h.hmT, h.hsT, h.hjT, T5.fx.ev.ok, T5.fx.sub, h.jl, h.xl⟩
  refine (f138_ht hK hd T5).mono fun v H6 ⟨dn, q6, τ, fa, fm, hv6, T6, rl6, dn0, d6, said, jd⟩ => ⟨_, hv6, ?_⟩
  have hb6 := rl6.but _ _ hw5'.same hst
  have t6 := rl6.ev.tag _ _ t4
  refine ⟨_, _, hb6, by simp, fun H7 hw7 => ?_⟩
  have hw7' : Wr H6 sb' (stB ss cap s.used s.nxt dn pwb q9) H7 := hw7
  refine ⟨_, _, hw7'.same, by simp, fun H8 hw8 => ?_⟩
  have hw8' : Wr H7 sb' (stB ss cap s.used s.nxt dn pw' q9) H8 := hw8
  have e7 : Ev (fun tg => tg = (20, k)) H6 q6 H7 q6 := Ev.wr T6.fx.ev.ok hw7' fun tg htg => by rw [t6] at htg; cases htg; rfl
  have e8 : Ev (fun tg => tg = (20, k)) H7 q6 H8 q6 := Ev.wr e7.ok hw8' fun tg htg => by rw [t6] at htg; cases htg; rfl
  have e78 := e7.trans e8
  have fx8 := (T6.fx.wr h.hq hsb0 hw7').wr h.hq hsb0 hw8'
  have hinj := T6.inj h.hid
  -- the objects of the copy
  obtain ⟨Of, hOf⟩ : ∃ Of : Nat → Ob, ∀ b', ∀ b, τ b = some b' → ∃ pb', Of b' = { s.O b with pb := pb' } ∧ ObS H6 q6 (zO k (s.O b).id) b' ss cap bd (Of b') := by
    have hx : ∀ b', ∃ o : Ob, ∀ b, τ b = some b' → ∃ pb', o = { s.O b with pb := pb' } ∧ ObS H6 q6 (zO k (s.O b).id) b' ss cap bd o := by
      intro b'
      by_cases hex : ∃ b, τ b = some b'
      · obtain ⟨b, hb⟩ := hex
        obtain ⟨_, pb', hO⟩ := T6.ob b b' hb
        refine ⟨{ s.O b with pb := pb' }, fun c hc => ?_⟩
        have := hinj c b b' hc hb
        subst this
        exact ⟨pb', rfl, hO⟩
      · exact ⟨s.O 0, fun b hb => absurd ⟨b, hb⟩ hex⟩
    exact Classical.skolem.1 hx
  have n20 : ∀ {j : Nat}, j ≠ 20 → ¬ ((fun tg : Nat × Int => tg = (20, k)) (j, k)) := fun hj hc => hj (by simp at hc; exact hc)
  refine ⟨sb', q6, ⟨s.used, s.nxt, fa, s.xs, fm, s.jr.map (Jr.tw τ), s.T.filterMap τ, Of⟩, τ, rfl, fx8, ⟨t6, ⟨dn, q9, hw8'.same, d6.ev e78 fun tg ht hc => ?_⟩, fun b' hb' => ?_⟩, ⟨rfl, rfl, rfl, said, rfl, jd, rfl, fun b b' hb => ?_, hinj⟩⟩
  · rw [hc] at ht; have := ht.2.1; simp at this
  · obtain ⟨b, hb, hτ⟩ := List.mem_filterMap.1 hb'
    obtain ⟨pb', hO1, hO2⟩ := hOf b' b hτ
    have hid' : (Of b').id = (s.O b).id := by rw [hO1]
    show ObS H8 q6 (zO k (Of b').id) b' ss cap bd (Of b')
    rw [hid']
    exact hO2.ev e78 (fun hc => by simp at hc) fun tg ht => SpO.n2 ht ⟨by decide, by decide⟩
  · obtain ⟨pb', hO1, _⟩ := hOf b' b hb
    exact ⟨(T6.ob b b' hb).1, pb', hO1⟩

/-- A device's copy. -/
theorem f87_ht {dvb ns : Nat} {D : Pl} (hg : GOk H g) (hq : GOk H q) (hr : RoIn g q) (h : DvR H g k dvb ss ns bd pwb D) (hbd : bd < 2 ^ 31) :
    HT Tryz.prog 87 [.pointer (some ⟨dvb, 0, none⟩), .pointer (some ⟨pw', 0, none⟩)] H fun v H' => ∃ dvb' q', v = .pointer (some ⟨dvb', 0, none⟩) ∧ Fx H q H' q' ∧ DvR H' q' k dvb' ss ns bd pw' D := by
  obtain ⟨plb, q6, h1, hpl⟩ := h.ex
  apply f87_of
  refine ⟨dvb, 0, rfl, _, _, _, _, _, _, _, _, _, _, Cells.of h1 rfl, fun b H1 ha => ⟨_, _, ha.same, by simp, fun H2 hw2 => ?_⟩⟩
  rw [setAll_all (by simp)] at hw2
  have hw2' : Wr H1 b (dvB ss ns plb pwb q6) H2 := hw2
  obtain ⟨f1, t1⟩ := Fx.al hq ha (27, k)
  have f2 := f1.wr hq ha.fresh hw2'
  have hg2 : GOk H2 g := (Ev.sub (S := fun _ => False) hg f2.sub).ok
  refine ⟨dvb, 0, rfl, _, Cells.of (f2.sub _ _ h1) rfl, ?_⟩
  refine (f135_ht hg2 f2.ev.ok (hr.fx f2) (hpl.sub hg f2.sub) (by omega)).mono fun v H3 ⟨plb', q3, hv3, _, f3, pl3⟩ => ⟨_, hv3, ?_⟩
  refine ⟨_, _, f3.sub _ _ hw2'.same, by simp, fun H4 hw4 => ?_⟩
  have hw4' : Wr H3 b (dvB ss ns plb' pwb q6) H4 := hw4
  refine ⟨_, _, hw4'.same, by simp, fun H5 hw5 => ?_⟩
  have hw5' : Wr H4 b (dvB ss ns plb' pw' q6) H5 := hw5
  have t3 := f3.ev.tag _ _ t1
  have e4 : Ev (fun tg => tg = (27, k)) H3 q3 H4 q3 := Ev.wr f3.ev.ok hw4' fun tg htg => by rw [t3] at htg; cases htg; rfl
  have e5 : Ev (fun tg => tg = (27, k)) H4 q3 H5 q3 := Ev.wr e4.ok hw5' fun tg htg => by rw [t3] at htg; cases htg; rfl
  refine ⟨b, q3, rfl, ((f2.trans f3).wr hq ha.fresh hw4').wr hq ha.fresh hw5', t3, plb', q6, hw5'.same, pl3.ev (e4.trans e5) (fun hc => by simp at hc) fun tg ht hc => ?_⟩
  have h3 := ht.rng.2
  have hc' : tg = (27, k) := hc
  rw [hc'] at h3
  simp at h3

/-- A node's copy. -/
theorem f36_ht {nb dvb ns : Nat} {n : NdV} (hN : NdR H g k nb pwb dvb sb ss ns cap bd n) (h : FkS H q g k sb ss cap bd pwb n.s) :
    HT Tryz.prog 36 [.pointer (some ⟨nb, 0, none⟩)] H fun v H' => ∃ nb' pwb' dvb' sb' q' f τ, v = .pointer (some ⟨nb', 0, none⟩) ∧ Fx H q H' q' ∧ NdR H' q' k nb' pwb' dvb' sb' ss ns cap bd ⟨n.pw, n.D, f⟩ ∧ Iso n.s f τ := by
  obtain ⟨t0, nm, x1, x2, x3, h1⟩ := hN.nd
  apply f36_of
  refine ⟨nb, 0, rfl, _, Cells.of h1 rfl, ?_⟩
  refine (f86_ht h.hq hN.pw).mono fun v H1 ⟨pwb', q1, hv1, f1, p1⟩ => ⟨_, hv1, ?_⟩
  have k1 := f1.sub _ _ h1
  refine ⟨nb, 0, rfl, _, Cells.of k1 rfl, nb, 0, rfl, _, _, _, Cells.of k1 rfl, nb, 0, rfl, _, Cells.of k1 rfl, nb, 0, rfl, _, Cells.of k1 rfl, ?_⟩
  have eg1 : Ev (fun _ => False) H g H1 g := Ev.sub h.hg f1.sub
  refine (f87_ht (pw' := pwb') eg1.ok f1.ev.ok (h.hr.fx f1) (hN.dv.off eg1 fun tg h => h.elim) h.hbd).mono fun v H2 ⟨dvb', q2, hv2, f2, d2⟩ => ⟨_, hv2, ?_⟩
  have f12 := f1.trans f2
  have k2 := f12.sub _ _ h1
  refine ⟨Cells.of k2 rfl, Cells.of k2 rfl, Cells.of k2 rfl, ?_⟩
  have eg2 : Ev (fun _ => False) H g H2 g := Ev.sub h.hg f12.sub
  have hS2 : FkS H2 q2 g k sb ss cap bd pwb n.s := ⟨eg2.ok, f12.ev.ok, h.hr.fx f12, h.hS.off eg2 none_off, h.hbd, h.hmT, h.hsT, h.hjT, h.hid, h.jl, h.xl⟩
  refine (f88_ht (pw' := pwb') hS2).mono fun v H3 ⟨sb', q3, f, τ, hv3, f3, s3, iso⟩ => ⟨_, hv3, ?_⟩
  have f123 := f12.trans f3
  have k3 := f123.sub _ _ h1
  refine ⟨Cells.of k3 rfl, Cells.of k3 rfl, fun nb' H4 ha4 => ?_⟩
  obtain ⟨f4, t4⟩ := Fx.al f123.ev.ok ha4 (28, k)
  have f24 := f3.trans f4
  refine ⟨nb', pwb', dvb', sb', _, f, τ, rfl, f123.trans f4, ⟨⟨t4, nm, x1, x2, x3, ha4.same⟩, p1.ev (f2.trans f24).ev (fun h => h), d2.off f24.ev (fun tg h => h.elim), s3.off f4.ev none_off⟩, iso⟩

end

end Go.Proofs.Qxb6500695aGreatFmt
