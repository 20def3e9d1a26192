/-
  FORKS: planes and objects.
-/
import Derived.Test.Qxb6500695aGreatFmtFa
import Derived.Test.Qxb6500695aGreatFmtSj
namespace Go.Proofs.Qxb6500695aGreatFmt
open Go Go.Eng Go.Proofs
set_option maxRecDepth 100000
set_option linter.unusedVariables false
set_option linter.unusedSimpArgs false
set_option linter.unusedSectionVars false

section
variable {H H1 H2 : Heap} {q q1 q2 g : Gh} {b : Nat} {tg : Nat × Int} {e : Int} {pb ss ns bd : Nat} {P : Pl}

theorem Fx.get (h : Fx H q H1 q1) {o : Obj} {t : Nat × Int} (ht : q b = some t) (hb : H b = some o) : H1 b = some o := h.sub b o hb

/-- A plane's copy. -/
theorem f135_ht (hg : GOk H g) (hq : GOk H q) (hr : RoIn g q) (h : PlOk H g e pb ss ns bd P) (hbd : bd < 2 ^ 32) :
    HT Tryz.prog 135 [.pointer (some ⟨pb, 0, none⟩)] H fun v H' => ∃ pb' q', v = .pointer (some ⟨pb', 0, none⟩) ∧ H pb' = none ∧ Fx H q H' q' ∧ PlOk H' q' e pb' ss ns bd P := by
  obtain ⟨mp, mn, mc, r, ml, es, ck, h1, h2, h3, h4, h5, h6, h7, h8, h9⟩ := h.ex
  have hnsb := h.nsb
  apply f135_of
  refine ⟨pb, 0, rfl, _, Cells.of h1 rfl, pb, 0, rfl, mp, mn, mc, Cells.of h1 rfl, pb, 0, rfl, _, Cells.of h1 rfl, ?_⟩
  refine (f181_ht h2.own (by omega)).mono fun v H1 ⟨s1, mp', mc', hv1, hn1, ho1⟩ => ⟨_, _, _, hv1, ?_⟩
  have k1 := s1 _ _ h1
  refine ⟨Cells.of k1 rfl, Cells.of k1 rfl, ?_⟩
  refine semOk_lenM Tryz.underlying61 (s1 _ _ h6) ⟨_, rfl, Cells.of k1 rfl, fun rb H2 ha2 pb' H3 ha3 => ?_⟩
  obtain ⟨q1, f1, ot1⟩ := Fx.own hq s1 hn1 ho1 (13, e)
  obtain ⟨f2, t2⟩ := Fx.al f1.ev.ok ha2 (14, e)
  obtain ⟨f3, t3⟩ := Fx.al f2.ev.ok ha3 (12, e)
  have f13 := (f1.trans f2).trans f3
  have k3 := ha3.keep (ha2.keep k1)
  have hrb0 : H rb = none := by
    cases hc : H rb with
    | none => rfl
    | some o => have := ha2.fresh; rw [s1 _ _ hc] at this; cases this
  have hpb0 : H pb' = none := by
    cases hc : H pb' with
    | none => rfl
    | some o => have := ha3.fresh; rw [ha2.keep (s1 _ _ hc)] at this; cases this
  refine ⟨pb, 0, rfl, _, Cells.of k3 rfl, ?_⟩
  have k6 : H3 r = some (.map es ck) := f13.sub _ _ h6
  refine semOk_range Tryz.underlying61 k6 fun it H4 ha4 => ⟨_, rfl, ?_⟩
  have hro3 := hr.fx f13
  -- the loop over the cache
  have loop : ∀ (d : Nat) (vs : List MapEntry) (seen : Array Nat) (G : Heap) (qq : Gh) (es' : Array MapEntry) (ck' : Nat), es.size + 1 - vs.length = d → Met es seen vs → Fx H q G qq → G it = some (.mapIter (some r) ck seen ck) → H it = none → qq it = none →
      qq pb' = some (12, e) → G pb' = some (.cells #[.int .i64 (ss : Int), .slice mp' mn mc', .map (some rb)] 244 (0, 0)) → OwnT G qq (13, e) 35 1 Sec.cs mp' mn mc' ml → qq rb = some (14, e) → G rb = some (.map es' ck') → MapOk .i64 es' ck' →
      (∀ en ∈ es'.toList, CacheE G qq e ss ns bd en P.cache) → (∀ i, iget es'.toList i = none → ∀ en ∈ vs, keyN en.key ≠ i) →
      f135_L1 (some ⟨pb', 0, none⟩) (some ⟨it, 0, none⟩) G fun v H' => ∃ pb' q', v = .pointer (some ⟨pb', 0, none⟩) ∧ H pb' = none ∧ Fx H q H' q' ∧ PlOk H' q' e pb' ss ns bd P := by
    intro d
    induction d with
    | zero =>
      intro vs seen G qq es' ck' hd hm
      have := hm.len
      omega
    | succ d ih =>
      intro vs seen G qq es' ck' hd hm fx hit hit0 qit tp hpb hmed tr hrb hok hce hget
      have hr0 : G r = some (.map es ck) := fx.sub _ _ h6
      apply f135_L1_of
      refine semOk_next hit hr0 h7 (fun hall => .inl ⟨rfl, ?_⟩) fun en hen hns G1 hw1 => .inr ⟨en.key, en.val, rfl, ?_⟩
      · apply f135_L2_of
        refine ⟨(fun h => by cases h), fun _ => ⟨pb', qq, rfl, hpb0, fx, h.ssb, h.nsb, tp, mp', mn, mc', rb, ml, es', ck', hpb, hmed, h3.ro (hr.fx fx) fx.sub, h4, tr, hrb, hok, hce, fun i hi => h9 i ?_⟩⟩
        rw [iget_eq_none]
        intro en hen hk
        have hp := (hm.perm h7.2.2.2 hall).mem_iff.2 hen
        exact hget i hi en hp hk
      · have fx1 := fx.wr hq hit0 hw1
        have e1 : Ev (fun _ => False) G qq G1 qq := Ev.untag fx.ev.ok qit fun x hx => hw1.other hx
        have hr1 := fx1.sub _ _ h6
        obtain ⟨c1, c2, c3, c4, c5, q0, n0, cc0, l0, c6, c7, c8⟩ := h8 en hen
        have hkk : en.key = .int .i64 (keyN en.key) := by
          obtain ⟨m, hm'⟩ := h7.1 en hen
          rw [hm']; rfl
        have hpb1 := e1.get tp (fun h => h) hpb
        apply f135_L2_of
        refine ⟨fun _ => ?_, (fun h => by cases h)⟩
        refine semOk_entry hw1.same hr1 h7 hen ⟨keyN en.key, q0, n0, cc0, by rw [← hkk, c6], pb', 0, rfl, _, Cells.of hpb1 rfl, ?_⟩
        have hl0 := c7.own.len
        have hl1 := c8.len
        refine (f181_ht (c7.own.sub fx1.sub) (by omega)).mono fun v G2 ⟨s2, q0', cc0', hv2, hn2, ho2⟩ => ⟨_, _, _, hv2, ?_⟩
        obtain ⟨qq2, f2', ot2⟩ := Fx.own fx1.ev.ok s2 hn2 ho2 (100 + (keyN en.key).toNat, e)
        have fx2 := fx1.trans f2'
        have hpb2 := f2'.ev.get tp (fun h => h) hpb1
        refine ⟨Cells.of hpb2 rfl, ?_⟩
        have hrb2 := f2'.ev.get tr (fun h => h) (e1.get tr (fun h => h) hrb)
        refine semOk_mapUpdate (k := .i64) Tryz.underlying61 Tryz.underlying2 hrb2 hok.1 fun G3 hw3 => ?_
        obtain ⟨es'', ck'', p1, p2, p3, p4, _, _⟩ := mput_ok (c := ck') (n := keyN en.key) (v := .slice q0' n0 cc0') hok
        rw [p1] at hw3
        have fx3 := fx2.wr hq hrb0 hw3
        have e3 : Ev (fun tg => tg = (14, e)) G2 qq2 G3 qq2 := Ev.wr fx2.ev.ok hw3 fun tg htg => by rw [f2'.ev.tag _ _ tr] at htg; cases htg; rfl
        have n14 : ∀ {j : Nat} {z : Int}, j ≠ 14 → ¬ ((fun tg : Nat × Int => tg = (14, e)) (j, z)) := fun hj hc => hj (by simp at hc; exact hc.1)
        have hitq2 : qq2 it = none := by
          cases hc : qq2 it with
          | none => rfl
          | some t =>
            rcases f2'.new it t hc with hx | hx
            · rw [qit] at hx; cases hx
            · rw [hw1.same] at hx; cases hx
        have hit3 : G3 it = some (.mapIter (some r) ck (seen.push en.born) ck) := by
          rw [hw3.other fun hc => by rw [hc, f2'.ev.tag _ _ tr] at hitq2; cases hitq2]
          exact s2 _ _ hw1.same
        refine ih (vs ++ [en]) _ G3 qq2 es'' ck'' (by simp; have := hm.len; omega) (hm.push hen hns) fx3 hit3 hit0 hitq2 (f2'.ev.tag _ _ tp) (e3.get (f2'.ev.tag _ _ tp) (n14 (by decide)) hpb2) (((hmed.ev e1 (fun h => h)).ev f2'.ev (fun h => h)).ev e3 (n14 (by decide))) (f2'.ev.tag _ _ tr) hw3.same p2 (fun en' hen' => ?_) fun i hi en' hen' => ?_
        · rcases p4 en' hen' with ⟨hk', hv'⟩ | hold
          · unfold CacheE
            rw [hk']
            exact ⟨c1, c2, c3, c4, c5, q0', n0, cc0', l0, hv', ot2.ev e3 (n14 (by omega)), c8.ro (hr.fx fx3) fx3.sub⟩
          · exact (((hce en' hold).ev e1 (fun h => h) (fun h => h)).ev f2'.ev (fun h => h) (fun h => h)).ev e3 (n14 (by decide)) (n14 (by omega))
        · rw [p3] at hi
          rcases List.mem_append.1 hen' with h' | h'
          · by_cases hie : i = keyN en.key
            · rw [if_pos hie] at hi; cases hi
            · rw [if_neg hie] at hi
              exact hget i hi en' h'
          · rw [List.mem_singleton.1 h']
            intro hc
            rw [if_pos hc.symm] at hi
            cases hi
  have f4 : Fx H q H4 _ := f13.trans (Fx.ofSub f3.ev.ok ha4.sub)
  have hit0 : H it = none := by
    cases hc : H it with
    | none => rfl
    | some o => have := ha4.fresh; rw [f13.sub _ _ hc] at this; cases this
  have hitq : gset (gset q1 rb (14, e)) pb' (12, e) it = none := by
    cases hc : gset (gset q1 rb (14, e)) pb' (12, e) it with
    | none => rfl
    | some t => exact absurd ha4.fresh (f3.ev.ok it t hc)
  refine loop _ [] #[] H4 _ #[] 0 rfl (Met.start es) f4 ha4.same hit0 hitq t3 (ha4.keep ha3.same) (((ot1.ev f2.ev (fun h => h)).ev f3.ev (fun h => h)).sub ha4.sub) (f3.ev.tag _ _ t2) (ha4.keep (ha3.keep ha2.same)) (MapOk.empty .i64 0) (by simp) fun i _ en hen => by cases hen

end

end Go.Proofs.Qxb6500695aGreatFmt
