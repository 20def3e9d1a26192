/-
  A NEW RACK.
-/
import Derived.Test.Qxb6500695aGreatFmtNf
namespace Go.Proofs.Qxb6500695aGreatFmt
open Go Go.Eng Go.Proofs
set_option maxRecDepth 100000
set_option linter.unusedVariables false
set_option linter.unusedSimpArgs false
set_option linter.unusedSectionVars false

def st0 : StV := ⟨0, 0, fun _ => none, [], fun _ => none, [], [], fun _ => newOb 0 0⟩
def nd0 : NdV := ⟨⟨false, false, 0⟩, ⟨[], fun _ => []⟩, st0⟩

theorem sh_ok {k : Nat} : 0 < shS k ∧ shS k ≤ 16 ∧ shC k ≤ 12 ∧ shN k ≤ 12 := by
  unfold shS shC shN
  split
  · simp
  · split <;> simp

theorem st0_inv {k : Nat} : StI (shS k) (shC k) 0 st0 := by
  have h := sh_ok (k := k)
  refine ⟨⟨h.1, h.2.1, h.2.2.1⟩, List.Pairwise.nil, fun x => by simp [st0], by simp [st0], by simp [st0], rfl, List.Pairwise.nil, ?_, ?_, ?_, rfl, by simp [st0], ?_, by simp [st0]⟩
  · intro b hb
    simp [heldL, st0, vics] at hb
  · intro i x y b hx
    simp [st0, redoN] at hx
  · intro i x b hx
    simp [st0, redoN] at hx
  · intro b hb
    simp [heldL, st0, vics] at hb

section
variable {S : Nat × Int → Prop} {H H' : Heap} {g g' : Gh}

theorem f197_ht {k : Nat} (hk : k < 3) (m : Nat) (hm : m ≤ 12) : HT Tryz.prog 197 [.int .i64 (shS k : Int), .int .i64 (m : Int)] H fun v H' => H' = H ∧ v = .nilIface := by
  have hs := sh_ok (k := k)
  apply f197_of
  refine ⟨fun hx => by have := of_decide_eq_true hx; omega, fun _ => ?_⟩
  have hd : decide ((shS k : Int) > 1048576) = false := by simp; omega
  rw [hd]
  apply f197_L1_of
  refine ⟨(fun h => by cases h), fun _ => ⟨fun hx => by have := of_decide_eq_true hx; omega, fun _ => ?_⟩⟩
  refine ⟨_, binIs_quo (P := Tryz.prog) (t := 2) (by omega), ?_⟩
  have hq : ∀ s : Nat, 0 < s → s ≤ 16 → (12 : Int) ≤ IntKind.wrap .i64 (Int.tdiv 9223372036854775807 (s : Int)) := by
    intro s h0 h16
    have hc : s = 1 ∨ s = 2 ∨ s = 3 ∨ s = 4 ∨ s = 5 ∨ s = 6 ∨ s = 7 ∨ s = 8 ∨ s = 9 ∨ s = 10 ∨ s = 11 ∨ s = 12 ∨ s = 13 ∨ s = 14 ∨ s = 15 ∨ s = 16 := by omega
    rcases hc with rfl | rfl | rfl | rfl | rfl | rfl | rfl | rfl | rfl | rfl | rfl | rfl | rfl | rfl | rfl | rfl <;> decide
  have := hq (shS k) hs.1 hs.2.1
  have hd2 : decide ((m : Int) > IntKind.wrap .i64 (Int.tdiv 9223372036854775807 (shS k : Int))) = false := by
    rw [decide_eq_false_iff_not]
    omega
  rw [hd2]
  apply f197_L2_of
  exact ⟨(fun h => by cases h), fun _ => ⟨rfl, rfl⟩⟩

theorem f116_ht {k : Nat} (hk : k < 3) (hg : GOk H g) (nm : ByteArray) : HT Tryz.prog 116 [.string nm, .agg #[.int .i64 (shS k : Int), .int .i64 (shN k : Int), .int .i64 (shC k : Int)]] H fun v H' => ∃ nb g', v = .tuple #[.pointer (some ⟨nb, 0, none⟩), .nilIface] ∧ Ev (fun _ => False) H g H' g' ∧ NdE H' g' k nb 0 nd0 := by
  have hs := sh_ok (k := k)
  apply f116_of
  intro _
  have h169 : HT Tryz.prog 169 [] H fun v H' => ∃ pwb, v = .pointer (some ⟨pwb, 0, none⟩) ∧ Al H (.cells #[.bool false, .bool false, .int .i64 0, .int .u64 0, .int .u64 0] 221 (0, 0)) pwb H' := by
    apply f169_of
    exact fun b H1 ha => ⟨b, rfl, ha⟩
  refine h169.mono fun v H1 ⟨pwb, hv, ha1⟩ => ⟨_, hv, ?_⟩
  obtain ⟨e1, t1⟩ := Ev.al (S := fun _ => False) hg ha1 (26, (k : Int))
  have h170 : HT Tryz.prog 170 [.int .i64 (shS k : Int), .int .i64 (shN k : Int), .pointer (some ⟨pwb, 0, none⟩)] H1 fun v H' => ∃ rb plb dvb H2 H3, v = .tuple #[.pointer (some ⟨dvb, 0, none⟩), .nilIface] ∧ Al H1 (.map #[] 0) rb H2 ∧ Al H2 (.cells #[.int .i64 (shS k : Int), .slice none 0 0, .map (some rb)] 244 (0, 0)) plb H3 ∧ Al H3 (dvB (shS k) (shN k) plb pwb ⟨0, 0, 0, 0, 0, 0⟩) dvb H' := by
    apply f170_of
    refine (f197_ht hk (shN k) hs.2.2.2).mono fun v H2 ⟨he, hv⟩ => ⟨_, rfl, ?_⟩
    subst he hv
    refine ⟨_, binIs_if_neq (.inl rfl) Tryz.underlying48, (fun h => by cases h), fun _ => ⟨_, binIs_ptr_eql Tryz.underlying126, (fun h => by cases h), fun _ => ?_⟩⟩
    apply f170_L1_of
    have h121 : HT Tryz.prog 121 [.int .i64 (shS k : Int)] H2 fun v H' => ∃ rb pb H5, v = .pointer (some ⟨pb, 0, none⟩) ∧ Al H2 (.map #[] 0) rb H5 ∧ Al H5 (.cells #[.int .i64 (shS k : Int), .slice none 0 0, .map (some rb)] 244 (0, 0)) pb H' := by
      apply f121_of
      exact fun rb H5 ha5 pb H6 ha6 => ⟨rb, pb, H5, rfl, ha5, ha6⟩
    refine h121.mono fun v H4 ⟨rb, pb, H5, hv4, ha5, ha6⟩ => ⟨_, hv4, fun dvb H7 ha7 => ⟨rb, pb, dvb, H5, H4, rfl, ha5, ha6, ha7⟩⟩
  refine h170.mono fun v H4 ⟨rb, plb, dvb, H2, H3, hv4, ha2, ha3, ha4⟩ => ⟨_, _, hv4, _, binIs_if_neq (.inl rfl) Tryz.underlying48, (fun h => by cases h), fun _ => ?_⟩
  obtain ⟨e2, t2⟩ := Ev.al (S := fun _ => False) e1.ok ha2 (14, eD (k : Int))
  obtain ⟨e3, t3⟩ := Ev.al (S := fun _ => False) e2.ok ha3 (12, eD (k : Int))
  obtain ⟨e4, t4⟩ := Ev.al (S := fun _ => False) e3.ok ha4 (27, (k : Int))
  have h172 : HT Tryz.prog 172 [.int .i64 (shS k : Int), .int .i64 (shC k : Int), .pointer (some ⟨pwb, 0, none⟩)] H4 fun v H' => ∃ lr sr db sb H5 H6 H7, v = .tuple #[.pointer (some ⟨sb, 0, none⟩), .nilIface] ∧ Al H4 (.map #[] 0) lr H5 ∧ Al H5 (.map #[] 0) sr H6 ∧ Al H6 (.cells #[.map (some lr), .slice none 0 0, .map (some sr), .slice none 0 0] 171 (0, 0)) db H7 ∧ Al H7 (stB (shS k) (shC k) 0 0 db pwb ⟨0, 0, 0, 0, 0, 0, 0, 0, 0⟩) sb H' := by
    apply f172_of
    refine (f197_ht hk (shC k) hs.2.2.1).mono fun v H5 ⟨he, hv⟩ => ⟨_, rfl, ?_⟩
    subst he hv
    refine ⟨_, binIs_if_neq (.inl rfl) Tryz.underlying48, (fun h => by cases h), fun _ => ⟨_, binIs_ptr_eql Tryz.underlying126, (fun h => by cases h), fun _ => ?_⟩⟩
    apply f172_L1_of
    have h200 : HT Tryz.prog 200 [] H5 fun v H' => ∃ lr sr db H6 H7, v = .pointer (some ⟨db, 0, none⟩) ∧ Al H5 (.map #[] 0) lr H6 ∧ Al H6 (.map #[] 0) sr H7 ∧ Al H7 (.cells #[.map (some lr), .slice none 0 0, .map (some sr), .slice none 0 0] 171 (0, 0)) db H' := by
      apply f200_of
      exact fun lr H6 a6 sr H7 a7 db H8 a8 => ⟨lr, sr, db, H6, H7, rfl, a6, a7, a8⟩
    refine h200.mono fun v H8 ⟨lr, sr, db, H6, H7, hv8, a6, a7, a8⟩ => ⟨_, hv8, fun sb H9 a9 => ⟨lr, sr, db, sb, H6, H7, H8, rfl, a6, a7, a8, a9⟩⟩
  refine h172.mono fun v H8 ⟨lr, sr, db, sb, H5, H6, H7, hv8, ha5, ha6, ha7, ha8⟩ => ⟨_, _, hv8, _, binIs_if_neq (.inl rfl) Tryz.underlying48, (fun h => by cases h), fun _ nb H9 ha9 => ?_⟩
  obtain ⟨e5, t5⟩ := Ev.al (S := fun _ => False) e4.ok ha5 (22, (k : Int))
  obtain ⟨e6, t6⟩ := Ev.al (S := fun _ => False) e5.ok ha6 (24, (k : Int))
  obtain ⟨e7, t7⟩ := Ev.al (S := fun _ => False) e6.ok ha7 (21, (k : Int))
  obtain ⟨e8, t8⟩ := Ev.al (S := fun _ => False) e7.ok ha8 (20, (k : Int))
  obtain ⟨e9, t9⟩ := Ev.al (S := fun _ => False) e8.ok ha9 (28, (k : Int))
  have k59 := (((e5.trans e6).trans e7).trans e8).trans e9
  have k29 := ((e2.trans e3).trans e4).trans k59
  refine ⟨nb, _, rfl, e1.trans k29, pwb, dvb, sb, ⟨t9, nm, _, _, _, ha9.same⟩, ⟨k29.tag _ _ t1, 0, 0, k29.get t1 (fun h => h) ha1.same⟩, ⟨k59.tag _ _ t4, plb, ⟨0, 0, 0, 0, 0, 0⟩, k59.get t4 (fun h => h) ha4.same, ?_⟩, ⟨e9.tag _ _ t8, ⟨db, ⟨0, 0, 0, 0, 0, 0, 0, 0, 0⟩, e9.get t8 (fun h => h) ha8.same, ?_⟩, by simp [nd0, st0]⟩⟩
  · have k39 := e4.trans k59
    have k29' := e3.trans k39
    exact ⟨⟨hs.1, hs.2.1⟩, hs.2.2.2, k39.tag _ _ t3, none, 0, 0, rb, [], #[], 0, k39.get t3 (fun h => h) ha3.same, OwnT.nil Sec.size, trivial, Nat.zero_le _, k29'.tag _ _ t2, k29'.get t2 (fun h => h) ha2.same, MapOk.empty _ _, by simp, fun _ _ => rfl⟩
  · have k89 := e8.trans e9
    have k79 := e7.trans k89
    have k69 := e6.trans k79
    have em : MapOkS #[] 0 := MapOkS.empty 0
    exact ⟨k89.tag _ _ t7, lr, none, 0, 0, sr, none, 0, 0, k89.get t7 (fun h => h) ha7.same, k69.tag _ _ t5, ⟨#[], 0, k69.get t5 (fun h => h) ha5.same, em, fun _ => rfl⟩, OwnT.nil Str.size, k79.tag _ _ t6, ⟨#[], 0, k79.get t6 (fun h => h) ha6.same, em, fun _ => rfl⟩, OwnT.nil Jr.size⟩

/-- The names of the nodes, as they are declared. -/
def NmOk (H : Heap) (g : Gh) : Prop := g 5 = some (0, 0) ∧ ∃ (a b c : ByteArray), Cells H 5 0 [.string a, .string b, .string c]

theorem NmOk.ev (h : NmOk H g) (ev : Ev S H g H' g') (h0 : ¬ S (0, 0)) : NmOk H' g' := by
  obtain ⟨h1, a, b, c, h2⟩ := h
  exact ⟨ev.tag _ _ h1, a, b, c, Cells.ev h2 h1 ev h0⟩

theorem NdE.off {k nb bd : Nat} {n : NdV} (h : NdE H g k nb bd n) (ev : Ev S H g H' g') (hS : ∀ tg, S tg → tg = (29, 0)) : NdE H' g' k nb bd n := by
  obtain ⟨p, d, s, hn⟩ := h
  have n0 : ∀ {j : Nat} {z : Int}, j ≠ 29 → ¬ S (j, z) := fun hj hc => hj (by have := hS _ hc; simp at this; exact this.1)
  refine ⟨p, d, s, hn.nd.ev ev (n0 (by decide)), hn.pw.ev ev (n0 (by decide)), hn.dv.off ev fun tg ht hc => ?_, hn.st.off ev fun tg ht hc => ?_⟩
  · rw [hS tg ht] at hc; simp at hc
  · rw [hS tg ht] at hc; simp at hc

theorem f11_ht (hg : GOk H g) (hN : NmOk H g) : HT Tryz.prog 11 [] H fun v H' => ∃ rb g', v = .pointer (some ⟨rb, 0, none⟩) ∧ Ev (fun tg => tg = (29, 0)) H g H' g' ∧ RkR H' g' rb 0 (fun _ => nd0) := by
  have h53 : HT Tryz.prog 53 [] H fun v H' => H' = H ∧ v = .agg #[.int .i64 8, .int .i64 6, .int .i64 10, .int .i64 4, .int .i64 4, .int .i64 7, .int .i64 16, .int .i64 0, .int .i64 12] := by
    apply f53_of
    exact fun _ => ⟨rfl, rfl⟩
  have h59 : HT Tryz.prog 59 [.agg #[.int .i64 8, .int .i64 6, .int .i64 10, .int .i64 4, .int .i64 4, .int .i64 7, .int .i64 16, .int .i64 0, .int .i64 12]] H fun v H' => ∃ rb g', v = .tuple #[.pointer (some ⟨rb, 0, none⟩), .nilIface] ∧ Ev (fun tg => tg = (29, 0)) H g H' g' ∧ RkR H' g' rb 0 (fun _ => nd0) := by
    apply f59_of
    intro _ rb H1 ha1
    obtain ⟨e1, t1⟩ := Ev.al (S := fun _ => False) hg ha1 (29, 0)
    have hrbg : g rb = none := GOk.fresh hg ha1.fresh
    -- one node more
    have step : ∀ (k : Nat) (hk : k < 3) (G : Heap) (gg : Gh) (x0 x1 x2 : Option Addr) (R : Value → Heap → Prop), GOk G gg → NmOk G gg → gg rb = some (29, 0) → G rb = some (.cells #[.pointer x0, .pointer x1, .pointer x2] 125 (0, 0)) →
        (∀ (nb : Nat) (G2 : Heap) (gg2 : Gh), Ev (fun tg => tg = (29, 0)) G gg G2 gg2 → NdE G2 gg2 k nb 0 nd0 → G2 rb = some (.cells (setAll #[.pointer x0, .pointer x1, .pointer x2] (0 + k * 1) [.pointer (some ⟨nb, 0, none⟩)]) 125 (0, 0)) →
          f59_L1 (some ⟨rb, 0, none⟩) 8 6 10 4 4 7 16 0 12 ((k + 1 : Nat) : Int) G2 R) → f59_L1 (some ⟨rb, 0, none⟩) 8 6 10 4 4 7 16 0 12 (k : Int) G R := by
      intro k hk G gg x0 x1 x2 R hG hNm htr hrb hnext
      obtain ⟨tn, na, nb', nc, hnm⟩ := hNm
      apply f59_L1_of
      refine ⟨fun _ => ?_, fun hx => by have := of_decide_eq_false hx; omega⟩
      refine ⟨(shS k : Int), (shN k : Int), (shC k : Int), ?_, fun _ => ⟨by omega, by omega, ?_⟩⟩
      · have hc : k = 0 ∨ k = 1 ∨ k = 2 := by omega
        rcases hc with rfl | rfl | rfl <;> (intro w; kernel_rfl)
      · have hname : ∃ x19 : ByteArray, Cells G 5 (0 + (k : Int).toNat * 1) [.string x19] := by
          have hc : k = 0 ∨ k = 1 ∨ k = 2 := by omega
          rcases hc with rfl | rfl | rfl
          · exact ⟨na, by simpa using hnm.part (us := [.string na]) 0 rfl (by simp)⟩
          · exact ⟨nb', by simpa using hnm.part (us := [.string nb']) 1 rfl (by simp)⟩
          · exact ⟨nc, by simpa using hnm.part (us := [.string nc]) 2 rfl (by simp)⟩
        obtain ⟨x19, hx19⟩ := hname
        refine ⟨x19, hx19, ?_⟩
        refine (f116_ht hk hG x19).mono fun v G1 ⟨nb, gg1, hv1, ev1, nd1⟩ => ⟨_, _, hv1, _, binIs_if_neq (.inl rfl) Tryz.underlying48, (fun h => by cases h), fun _ => ?_⟩
        have hrb1 := ev1.get htr (fun h => h) hrb
        refine ⟨rb, 0, rfl, by omega, by omega, _, _, hrb1, by simp; omega, fun G2 hw2 => ?_⟩
        have e2 : Ev (fun tg => tg = (29, 0)) G1 gg1 G2 gg1 := Ev.wr ev1.ok hw2 fun tg htg => by rw [ev1.tag _ _ htr] at htg; cases htg; rfl
        rw [wrapS (by omega)]
        exact hnext nb G2 gg1 ((ev1.mono fun tg h => h.elim).trans e2) (nd1.off e2 fun tg h => h) (by rw [hw2.same]; simp)
    have hN1 := hN.ev e1 (fun h => h)
    have n0 : ¬ ((fun tg : Nat × Int => tg = (29, 0)) (0, 0)) := fun hc => by simp at hc
    refine step 0 (by decide) H1 _ none none none _ e1.ok hN1 t1 ha1.same fun n0b G2 g2 e2 d2 hr2 => ?_
    refine step 1 (by decide) G2 g2 (some ⟨n0b, 0, none⟩) none none _ e2.ok (hN1.ev e2 n0) (e2.tag _ _ t1) hr2 fun n1b G3 g3 e3 d3 hr3 => ?_
    refine step 2 (by decide) G3 g3 (some ⟨n0b, 0, none⟩) (some ⟨n1b, 0, none⟩) none _ e3.ok ((hN1.ev e2 n0).ev e3 n0) (e3.tag _ _ (e2.tag _ _ t1)) hr3 fun n2b G4 g4 e4 d4 hr4 => ?_
    apply f59_L1_of
    refine ⟨fun hx => absurd (of_decide_eq_true hx) (by decide), fun _ => ⟨rb, g4, rfl, ?_, e4.tag _ _ (e3.tag _ _ (e2.tag _ _ t1)), fun k => if k = 0 then n0b else if k = 1 then n1b else n2b, hr4, fun k hk => ?_⟩⟩
    · exact (((e1.mono fun tg h => h.elim).trans e2).trans e3).trans e4
    · have hc : k = 0 ∨ k = 1 ∨ k = 2 := by omega
      rcases hc with rfl | rfl | rfl
      · exact (d2.off e3 fun tg h => h).off e4 fun tg h => h
      · exact d3.off e4 fun tg h => h
      · exact d4
  apply f11_of
  refine h53.mono fun v H1 ⟨he, hv⟩ => ⟨_, _, _, _, _, _, _, _, _, hv, ?_⟩
  subst he
  exact h59.mono fun v H2 ⟨rb, g2, hv2, hr⟩ => ⟨_, _, hv2, _, binIs_if_neq (.inl rfl) Tryz.underlying48, (fun h => by cases h), fun _ => ⟨rb, g2, rfl, hr⟩⟩

end

end Go.Proofs.Qxb6500695aGreatFmt
