/-
  RENAME IS ATOMIC: the crash, the step, the script.
-/
import Derived.Test.Qxb6500695aGreatFmtQi
namespace Go.Proofs.Qxb6500695aGreatFmt
open Go Go.Eng Go.Proofs
set_option maxRecDepth 100000
set_option linter.unusedVariables false
set_option linter.unusedSimpArgs false
set_option linter.unusedSectionVars false

section
variable {H0 H : Heap} {g0 g : Gh} {p : Option Addr} {n c : Nat} {ops : List OpV} {E : Nat → Value} {rb sb4 i k sb : Nat} {op : OpV} {nd : Nat → NdV} {fs : Nat → List Dr} {e : Value} {n' : NdV} {tr : List Ask} {bd M r rl wb : Nat}

/-- Behind a crash. -/
theorem crash_ht (h : Played E p n ops rb sb4 H0 g0 i k sb op nd fs e n' tr bd M r rl H g) (hgo : Goes E p n c ops rb sb4 i H0 g0) (hkd : op.kd = 18) (hw : WtR wb tr H g) :
    0 ≤ (k : Int) ∧ (k : Int) < (3 : Int) ∧ (∃ (x102 : Option Addr) (x102n x102c : Nat), Cells H sb4 (0 + (k : Int).toNat * 1) [.slice x102 x102n x102c] ∧ (HT Tryz.prog 29 [.pointer (some ⟨wb, 0, none⟩), .agg #[.int .u8 1, .int .u64 0, .int .i64 0], .int .i64 ((x102n : Int))] H (fun v hp6 => ∃ (x104 : Bool), v = .bool x104 ∧ (Cells hp6 sb4 (0 + (k : Int).toNat * 1) [.slice x102 x102n x102c] ∧ ((!x104) = true → f4_L5 (some ⟨rb, 0, none⟩) sb4 (k : Int) (some ⟨sb, 0, none⟩) (some r) p n c (n : Int) (i : Int) true hp6 (post4 H0 g0)) ∧ ((!x104) = false → 0 ≤ (k : Int) ∧ (k : Int) < (3 : Int) ∧ (∃ (x110 : Option Addr) (x110n x110c : Nat), Cells hp6 sb4 (0 + (k : Int).toNat * 1) [.slice x110 x110n x110c] ∧ (∃ (b112 o112 : Nat), (some ⟨wb, 0, none⟩ : Option Addr) = some ⟨b112, o112, none⟩ ∧ (∃ (x114 : Option Nat), Cells hp6 b112 (o112 + 3) [.map x114] ∧ (∃ (r116 : Nat) (es116 : Array MapEntry) (ck116 : Nat), x114 = some r116 ∧ hp6 r116 = some (.map es116 ck116) ∧ ∃ (x116 : Int), LookIs Tryz.prog 73 r116 es116 ck116 (.agg #[.int .u8 1, .int .u64 0, .int .i64 0]) false (.int .i64 x116) ∧ (∃ (b117 o117 : Nat), x110 = some ⟨b117, o117, none⟩ ∧ 0 ≤ x116 ∧ x116 < (x110n : Int) ∧ (∃ (x118 : Option Nat), Cells hp6 b117 (o117 + x116.toNat * 1) [.map x118] ∧ (HT Tryz.prog 33 [.map (some r), .map x118] hp6 (fun v hp7 => ∃ (x119 : Bool), v = .bool x119 ∧ (hp7 r116 = some (.map es116 ck116) ∧ Cells hp7 b112 (o112 + 3) [.map x114] ∧ Cells hp7 sb4 (0 + (k : Int).toNat * 1) [.slice x110 x110n x110c] ∧ Cells hp7 sb4 (0 + (k : Int).toNat * 1) [.slice x102 x102n x102c] ∧ f4_L5 (some ⟨rb, 0, none⟩) sb4 (k : Int) (some ⟨sb, 0, none⟩) (some r) p n c (n : Int) (i : Int) (!x119) hp7 (post4 H0 g0))))))))))))))) := by
  obtain ⟨kp, hC, hl0, hl1⟩ : ∃ kp, CrashD (nd k).s n'.s kp ∧ ((nd k).s.jr = [] → lastA tr (1, 0, 0) = none ∧ kp = 0) ∧ ((nd k).s.jr ≠ [] → lastA tr (1, 0, 0) = some ((nd k).s.jr.length, kp)) := by
    rcases h.hD with ⟨hs, hd | ⟨_, hx⟩ | ⟨_, ⟨_, _, _, _, hx⟩, _⟩⟩ | ⟨_, _, _, hx⟩ | ⟨_, _, hx, _⟩ | ⟨_, _, _, hc⟩
    · rw [h.hup] at hd; cases hd
    · exact absurd hkd hx
    · exact absurd hkd hx
    · omega
    · omega
    · exact hc
  have hk := h.hk
  obtain ⟨N0, hI0, _⟩ := h.hI
  have hIl := hI0.len
  have hst := h.hst k hk
  have hlf := hst.1
  obtain ⟨P, hP, hL⟩ := h.hF.sd.ex
  have hlen := (hL k hk).len
  have hcell := SdB.cell hP hk
  have hag : (if (P k).2.1 ≤ 1 then decide (lastA tr (1, 0, 0) = none) else match lastA tr (1, 0, 0) with | some (n, _) => decide (n = (P k).2.1 - 1) | none => false) = true := by
    by_cases hj : (nd k).s.jr = []
    · have h1 : (P k).2.1 ≤ 1 := by rw [hlen, hlf, hj]; simp
      rw [if_pos h1, (hl0 hj).1]
      simp
    · have h1 : ¬ (P k).2.1 ≤ 1 := by
        have : 0 < (nd k).s.jr.length := List.length_pos_iff.2 hj
        omega
      rw [if_neg h1, hl1 hj]
      simp
      omega
  refine ⟨by omega, by omega, _, _, _, hcell, ?_⟩
  refine (f29_ht h.hF.ok hw (P k).2.1 (by omega)).mono fun v H1 ⟨hv, e1, w1⟩ => ⟨true, hv.trans (congrArg Value.bool hag), ?_⟩
  have n0 : ¬ Spk (0, 0) := fun hc => by have := hc.1; simp at this
  have n45 : ¬ Spk (45, 0) := fun hc => by have := hc.2; simp at this
  have n46 : ∀ z, ¬ Spk (46, z) := fun z hc => by have := hc.2; simp at this
  have hc1 := Cells.ev hcell h.hF.sd.tag e1 n45
  have hP1 := e1.get h.hF.sd.tag n45 hP
  refine ⟨hc1, (fun h => by cases h), fun _ => ?_⟩
  have h1 : Played E p n ops rb sb4 H0 g0 i k sb op nd fs e n' tr bd M r rl H1 g := ⟨hk, h.hi, h.hE.trans (e1.mono fun tg ht hc => n0 (hc ▸ ht)), h.hF.off e1 Spk.offN n45 n46, h.hst, h.hs.off e1 Spk.offN, h.hb, h.hM, h.hI, h.hD, h.hup, h.hr.ev e1 n0, h.hl.ev e1 n0⟩
  obtain ⟨t1, q, qn, qc, xs, ab, cb, mb, ae, ce, me, ac, cc, mc, w2, w3, w4, w5, w6, ⟨c1, c2, c3, c4⟩, w7⟩ := w1
  have i3 : Tryz.prog.info? 3 = some Tryz.t3 := by kernel_rfl
  have hlk := lookIs_plc (t := 73) (r := cb) (c := cc) (es := ce) (n := (1, 0, 0)) (ok := false) Tryz.underlying73 i3 (zero := .int .i64 0) rfl c3
  have hlk' : LookIs Tryz.prog 73 cb ce cc (.agg #[.int .u8 1, .int .u64 0, .int .i64 0]) false (.int .i64 (kp : Int)) := by
    unfold lookP at hlk
    rw [c4] at hlk
    by_cases hj : (nd k).s.jr = []
    · rw [(hl0 hj).1] at hlk
      rw [(hl0 hj).2]
      exact hlk
    · rw [hl1 hj] at hlk
      exact hlk
  have hkp := hC.le
  have hkl : kp < (fs k).length := by omega
  have hLk := (hL k hk).ev e1 n0 (n46 _)
  obtain ⟨b2, o2, r2, hp2, hcc2, hd2⟩ := hLk.get hkl
  rw [hst.2 kp hkl, ← hC.dirN] at hd2
  refine ⟨by omega, by omega, _, _, _, hc1, wb, 0, rfl, _, Cells.of w2 rfl, cb, ce, cc, rfl, c2, _, hlk', b2, o2, hp2, by omega, by omega, some r2, by simpa using hcc2, ?_⟩
  refine (f33_ht h1.hF.ok h1.hr hd2).mono fun v H2 ⟨hv2, g2, e2⟩ => ⟨true, hv2, ?_⟩
  have m42 : ∀ {j : Nat} {z : Int}, j ≠ 42 → ¬ ((fun tg : Nat × Int => tg = (42, 0)) (j, z)) := fun hj hc => hj (by simp at hc; exact hc.1)
  have hc2 := Cells.ev hc1 h1.hF.sd.tag e2 (m42 (by decide))
  have h2 := h1.off42 e2
  refine ⟨e2.get c1 (m42 (by decide)) c2, Cells.of (e2.get t1 (m42 (by decide)) w2) rfl, hc2, hc2, ?_⟩
  apply f4_L5_of
  exact ⟨(fun h => by cases h), fun _ => one_ht hgo h2.hk h2.hE h2.hF h2.others (h2.lone hC.jr) h2.hr' h2.hs h2.hb h2.hM h2.hi⟩

/-- A step played, whole. -/
theorem f4_L4_ht {bp : Option Addr} {bn bc : Nat} (hgo : Goes E p n c ops rb sb4 i H0 g0) (hk : k = nodeOf op.node) (hi : i < 65536) (hE : Ev Ro H0 g0 H g) (hF : F4 E p n ops rb sb4 H g bd M nd fs) (hst : ∀ j, j < 3 → Stood (nd j).s (fs j)) (hs : StAt H g rb k sb) (hb : bd ≤ 80 * i) (hM : M ≤ 4 * i) (hop : OpOk H g op) (h15 : op.kd ≠ 15) (h16 : op.kd ≠ 16)
    (hbef : op.kd = 13 → (nd k).pw.down = false → ∀ b, fnd (nd k).s op.nm = some b → (∃ bb, bp = some ⟨bb, 0, none⟩ ∧ g bb = some (0, 0)) ∧ Src H bp bn bc (contV (shS k) ((nd k).s.O b))) :
    f4_L4 (some ⟨rb, 0, none⟩) sb4 op.kd op.node op.nm op.to op.off op.n op.dp op.dn op.dc op.pp op.pn op.pc (k : Int) (some ⟨sb, 0, none⟩) bp bn bc p n c (n : Int) (i : Int) H (post4 H0 g0) := by
  have hk3 : k < 3 := by rw [hk]; exact nodeOf_lt _
  have hpb := hop.pb
  have hIk := hF.ri k hk3
  apply f4_L4_of
  refine (f19_ht (c := op.pc) hF.ok hop.pl (by omega) hop.pcs).mono fun v H1 ⟨wb, g1, hv1, e1, w1⟩ => ⟨_, hv1, ?_⟩
  have F1 := hF.off e1 none_offN (fun h => h) (fun z h => h)
  have E1 : Ev Ro H0 g0 H1 g1 := hE.trans (e1.mono fun tg h => h.elim)
  refine (f20w_ht F1.ok F1.gl F1.rk F1.ri (by omega) (by omega) (hop.ev e1 (fun h => h)) w1).mono fun v H2 ⟨e, m, dp, dn, dc, np, nn, nc, i1, i2, i3, i4, n', tr, g2, hv2, herr, e2, r2, hstep, hw2⟩ => ⟨e, m, dp, dn, dc, np, nn, nc, i1, i2, i3, i4, hv2, fun _ => ⟨isI_one (herr.isI F1.gl), ?_⟩⟩
  rw [← hk] at e2 r2 hstep
  have hD := hstep.dir hIk (fun b hb h5 => E_ne F1.gl hb h5) h15 h16
  have hI' := hstep.inv (M := M) hIk (by omega)
  have hNm : NmI n'.s := by
    have hn := hF.nm k hk3
    rcases hD with ⟨hx, _⟩ | ⟨_, _, hx, _⟩ | ⟨_, _, _, hx⟩ | ⟨_, _, _, kp, hx, _⟩
    · exact hn.same hx
    · exact hn.grow hx hIk hI'
    · exact hn.comm hx
    · exact hn.crash hx
  have F2 : F4 E p n ops rb sb4 H2 g2 (bd + 80) (M + 4) (ndset nd k n') fs := by
    refine ⟨e2.ok, F1.gl.ev e2 SpK.zero, F1.scr.ev e2 SpK.zero, r2, fun j hj => ?_, F1.sd.ev e2 SpK.zero (SpK.n4 ⟨by decide, by decide⟩) (fun z => SpK.n4 ⟨by decide, by decide⟩), fun j hj => ?_⟩
    · by_cases hjk : j = k
      · subst hjk
        rw [ndset_same]
        exact hI'
      · rw [ndset_ne hjk]
        exact (hF.ri j hj).mono (by omega) (by omega)
    · by_cases hjk : j = k
      · subst hjk
        rw [ndset_same]
        exact hNm
      · rw [ndset_ne hjk]
        exact hF.nm j hj
  have E2 : Ev Ro H0 g0 H2 g2 := E1.trans (e2.mono fun tg h => Ro.k h)
  have hs2 : StAt H2 g2 rb k sb := (hs.off e1 none_offN).ev e2 SpK.n29 SpK.n28
  refine (f12_ht F2.rk hk3).mono fun v H3 ⟨he3, nb2, hv3, hnb2⟩ => ⟨_, hv3, ?_⟩
  subst he3
  obtain ⟨nbk, hrb, hnk, hnds⟩ := hnb2
  obtain ⟨pwb2, dvb2, sb2, hN2⟩ := hnds k hk3
  rw [hnk] at hN2
  have hpw2 := hN2.pw
  rw [ndset_same] at hpw2
  refine (f31_ht hN2.nd hpw2).mono fun v H4 ⟨he4, hv4⟩ => ⟨_, hv4, fun hdn => ?_, fun hup => ?_⟩
  · subst he4
    have hsame : SameD (nd k).s n'.s := by
      rcases hD with ⟨hx, _⟩ | ⟨hx, _⟩ | ⟨hx, _⟩ | ⟨hx, _⟩
      · exact hx
      · rw [hdn] at hx; cases hx
      · rw [hdn] at hx; cases hx
      · rw [hdn] at hx; cases hx
    refine hgo _ _ _ _ _ _ E2 F2 (fun j hj => ?_) (by omega) (by omega)
    by_cases hjk : j = k
    · subst hjk
      rw [ndset_same]
      exact (hst _ hj).same hsame
    · rw [ndset_ne hjk]
      exact hst j hj
  · subst he4
    obtain ⟨nb, pwb, dvb, hN, _⟩ := F2.rk.node hk3 hs2
    have hNs := hN.st
    have hNp := hN.pw
    rw [ndset_same] at hNs hNp
    refine (f32_ht F2.ok F2.gl hNs hNp hI' hNm hup).mono fun v H5 ⟨r, g5, hv5, e5, dm⟩ => ⟨_, hv5, _, binIs_map_eql Tryz.underlying79, (fun h => by cases h), fun _ => ?_⟩
    have F5 := F2.off42 e5
    have E5 : Ev Ro H0 g0 H5 g5 := E2.trans (e5.mono fun tg h => Ro.of42 h)
    obtain ⟨P, hP, hL⟩ := F5.sd.ex
    have hlen := (hL k hk3).len
    have hcell := SdB.cell hP hk3
    have hsk := hst k hk3
    have hlf := hsk.1
    have hIl := hIk.len
    obtain ⟨hll, hlast⟩ := hsk.last hIk
    obtain ⟨b2, o2, rl, hp2, hcc2, hd2⟩ := (hL k hk3).get hll
    rw [hlast] at hd2
    have hw : IntKind.wrap .i64 (((P k).2.1 : Int) - 1) = (((fs k).length - 1 : Nat) : Int) := by rw [wrapI] <;> omega
    have hPl : Played E p n ops rb sb4 H0 g0 i k sb op nd fs e n' tr (bd + 80) (M + 4) r rl H5 g5 := ⟨hk3, hi, E5, F5, hst, hs2.off e5 off42N, by omega, by omega, ⟨M, hIk, hI'⟩, hD, hup, dm, hd2⟩
    refine ⟨by omega, by omega, _, _, _, hcell, by omega, by omega, _, _, _, hcell, b2, o2, hp2, by rw [hw]; omega, by rw [hw]; omega, some rl, by rw [hw]; simpa using hcc2, fun h18 => ?_, fun h18 => ?_⟩
    · have h18' : op.kd = 18 := by simpa using h18
      intro _
      exact crash_ht hPl hgo h18' ((hw2 h18').ev e5 (fun tg ht hc => by rw [hc] at ht; have := ht.2; simp at this) (fun hc => by cases hc))
    · have h18' : op.kd ≠ 18 := by simpa using h18
      refine errK F5.gl herr (fun hne => ?_) fun heq => ?_
      · have hsame : SameD (nd k).s n'.s := by
          rcases hD with ⟨hx, _⟩ | ⟨_, hx, _⟩ | ⟨_, hx, _⟩ | ⟨_, hx, _⟩
          · exact hx
          · exact absurd hx hne
          · exact absurd hx hne
          · exact absurd hx h18'
        exact hPl.eq hgo hsame
      · refine ⟨fun h11 => L6_sync hPl hgo heq (.inl (by simpa using h11)), fun h11 => ?_⟩
        have h11' : op.kd ≠ 11 := by simpa using h11
        by_cases h12 : op.kd = 12
        · rw [show (op.kd == (12 : Int)) = true by simp [h12]]
          exact L6_sync hPl hgo heq (.inr h12)
        · rw [show (op.kd == (12 : Int)) = false by simp [h12]]
          by_cases h13 : op.kd = 13
          · refine L6_ren hPl hgo heq h13 (by omega) fun hdn b hf => ?_
            obtain ⟨⟨bb, q1, q2⟩, q3⟩ := hbef h13 hdn b hf
            refine ⟨⟨bb, q1, e5.tag _ _ (e2.tag _ _ (e1.tag _ _ q2))⟩, ?_⟩
            have s1 := q3.ev (fun a ha _ => by rw [q1] at ha; cases ha; exact q2) e1 (fun h => h)
            have s2 := s1.ev (fun a ha _ => by rw [q1] at ha; cases ha; exact e1.tag _ _ q2) e2 SpK.zero
            exact s2.ev (fun a ha _ => by rw [q1] at ha; cases ha; exact e2.tag _ _ (e1.tag _ _ q2)) e5 (fun hc => by cases hc)
          · exact L6_rest hPl hgo heq h11' h12 h13 h18'

end

end Go.Proofs.Qxb6500695aGreatFmt
