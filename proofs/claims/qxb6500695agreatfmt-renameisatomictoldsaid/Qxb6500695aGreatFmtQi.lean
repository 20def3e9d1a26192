/-
  RENAME IS ATOMIC: a rename; a crash.
-/
import Derived.Test.Qxb6500695aGreatFmtQh
namespace Go.Proofs.Qxb6500695aGreatFmt
open Go Go.Eng Go.Proofs
set_option maxRecDepth 100000
set_option linter.unusedVariables false
set_option linter.unusedSimpArgs false
set_option linter.unusedSectionVars false

section
variable {H0 H : Heap} {g0 g : Gh} {p : Option Addr} {n c : Nat} {ops : List OpV} {E : Nat → Value} {rb sb4 i k sb : Nat} {op : OpV} {nd : Nat → NdV} {fs : Nat → List Dr} {e : Value} {n' : NdV} {tr : List Ask} {bd M r rl : Nat}

/-- A reading of the store leaves all as it is. -/
theorem F4.read {nb pwb dvb : Nat} {H' : Heap} {g' : Gh} (h : F4 E p n ops rb sb4 H g bd M nd fs) (hk : k < 3) (hs : StAt H g rb k sb) (hN : NdR H g (k : Int) nb pwb dvb sb (shS k) (shN k) (shC k) bd (nd k)) (ev : Ev (SpI (k : Int)) H g H' g') (r1 : StR H' g' (k : Int) sb (shS k) (shC k) bd pwb (nd k).s) :
    Ev (SpK (k : Int)) H g H' g' ∧ F4 E p n ops rb sb4 H' g' bd M nd fs := by
  obtain ⟨nb2, pwb2, dvb2, hN2, hnb⟩ := h.rk.node hk hs
  have hp2 : pwb = pwb2 := by
    obtain ⟨_, q1, h1, _⟩ := hN.st.ex
    obtain ⟨_, q2, h2, _⟩ := hN2.st.ex
    rw [h1] at h2
    simp [stB] at h2
    exact h2.2.1
  subst hp2
  obtain ⟨ek, nn⟩ := hN2.stCall (by omega) (ev.mono fun tg h => h.le) r1 (hN2.pw.in ev) (Nat.le_refl _)
  have r2 := h.rk.upd h.ri hk hnb ek ⟨_, _, _, nn⟩ (Nat.le_refl _)
  have hnd : ndset nd k ⟨(nd k).pw, (nd k).D, (nd k).s⟩ = nd := ndset_id
  rw [hnd] at r2
  exact ⟨ek, ek.ok, h.gl.ev ek SpK.zero, h.scr.ev ek SpK.zero, r2, h.ri, h.sd.ev ek SpK.zero (SpK.n4 ⟨by decide, by decide⟩) (fun z => SpK.n4 ⟨by decide, by decide⟩), h.nm⟩

/-- What a rename that went well says. -/
theorem Played.ren (h : Played E p n ops rb sb4 H0 g0 i k sb op nd fs e n' tr bd M r rl H g) (he : e = .nilIface) (hkd : op.kd = 13) :
    (nd k).pw.down = false ∧ ∃ b, fnd (nd k).s op.nm = some b ∧ fnd n'.s op.to = some b ∧ n'.s.O b = (nd k).s.O b ∧ dirN n'.s op.to = some ((nd k).s.O b).id ∧ dirN (nd k).s op.nm = some ((nd k).s.O b).id ∧
      ((op.nm = op.to ∧ SameD (nd k).s n'.s ∧ dirN n'.s op.nm = some ((nd k).s.O b).id) ∨ (op.nm ≠ op.to ∧ GrowD (nd k).s n'.s ∧ dirN n'.s op.nm = none)) := by
  rcases h.hD with ⟨hs, hd | ⟨hne, _⟩ | ⟨_, _, hx⟩⟩ | ⟨_, _, hg, hx | hx | ⟨_, hne, hdn, hvt, b, ys, hf, hs⟩⟩ | ⟨_, _, hx, _⟩ | ⟨_, hx, _⟩
  · rw [h.hup] at hd; cases hd
  · exact absurd he hne
  · obtain ⟨heq, hdn, hs', b, hf⟩ := hx hkd
    have hm := (fnd_some hf).2
    have hd : dirN (nd k).s op.nm = some ((nd k).s.O b).id := by unfold dirN; rw [hm]; rfl
    refine ⟨hdn, b, hf, by rw [hs', ← heq]; exact hf, by rw [hs'], by rw [hs', ← heq]; exact hd, hd, .inl ⟨heq, hs, by rw [hs']; exact hd⟩⟩
  · omega
  · omega
  · have hm := (fnd_some hf).2
    have hd : dirN (nd k).s op.nm = some ((nd k).s.O b).id := by unfold dirN; rw [hm]; rfl
    have hmt : n'.s.m op.to = some b := by rw [hs]; show mset (mset _ _ _) op.to _ op.to = _; unfold mset; rw [if_pos rfl]
    have hmn : n'.s.m op.nm = none := by rw [hs]; show mset (mset _ _ _) op.to _ op.nm = _; unfold mset; rw [if_neg hne, if_pos rfl]
    have hO : n'.s.O b = (nd k).s.O b := by rw [hs]; rfl
    refine ⟨hdn, b, hf, fnd_of hvt hmt, hO, ?_, hd, .inr ⟨hne, hg, ?_⟩⟩
    · unfold dirN; rw [hmt, ← hO]; rfl
    · unfold dirN; rw [hmn]; rfl
  · omega
  · omega

/-- A rename. -/
theorem L6_ren {bp : Option Addr} {bn bc : Nat} (h : Played E p n ops rb sb4 H0 g0 i k sb op nd fs e n' tr bd M r rl H g) (hgo : Goes E p n c ops rb sb4 i H0 g0) (he : e = .nilIface) (hkd : op.kd = 13) (hbd : bd < 2 ^ 31)
    (hbef : (nd k).pw.down = false → ∀ b, fnd (nd k).s op.nm = some b → (∃ bb, bp = some ⟨bb, 0, none⟩ ∧ g bb = some (0, 0)) ∧ Src H bp bn bc (contV (shS k) ((nd k).s.O b))) :
    f4_L6 (some ⟨rb, 0, none⟩) sb4 op.kd op.node op.nm op.to op.off op.n op.dp op.dn op.dc op.pp op.pn op.pc (k : Int) (some ⟨sb, 0, none⟩) bp bn bc (some r) (some rl) p n c (n : Int) (i : Int) false H (post4 H0 g0) := by
  obtain ⟨hdn, b, hf, hft, hO, hdt, hdl, hcase⟩ := h.ren he hkd
  obtain ⟨⟨bb, hbp, hbg⟩, hsrc⟩ := hbef hdn b hf
  obtain ⟨nb, pwb, dvb, hN, _⟩ := h.hF.rk.node h.hk h.hs
  have hNs := hN.st
  have hNp := hN.pw
  obtain ⟨N0, hI0, hI1⟩ := h.hI
  rw [ndset_same] at hNs hNp
  apply f4_L6_of
  refine ⟨(fun h => by cases h), fun _ => ⟨fun _ => ?_, fun hx => absurd hkd (by simpa using hx)⟩⟩
  refine (f30_ht h.hF.ok h.hF.gl hNs hNp (hI1.toN hbd) hI1.mT (nm := op.to)).mono fun v H1 ⟨g1, e1, r1, hR⟩ => ?_
  rcases hR with ⟨hd, _⟩ | ⟨_, hf2, _⟩ | ⟨_, b2, rb2, m, hf2, hv, hrb2, hsrc2⟩
  · rw [h.hup] at hd; cases hd
  · rw [hft] at hf2; cases hf2
  rw [hft] at hf2
  cases hf2
  rw [hO] at hsrc2
  subst hv
  obtain ⟨ek, hF1⟩ := h.hF.read h.hk h.hs hN e1 (by rw [ndset_same]; exact r1)
  have hE1 : Ev Ro H0 g0 H1 g1 := h.hE.trans (ek.mono fun tg ht => Ro.k ht)
  have h1 : Played E p n ops rb sb4 H0 g0 i k sb op nd fs e n' tr bd M r rl H1 g1 := ⟨h.hk, h.hi, hE1, hF1, h.hst, h.hs.ev ek SpK.n29 SpK.n28, h.hb, h.hM, h.hI, h.hD, h.hup, h.hr.ev ek SpK.zero, h.hl.ev ek SpK.zero⟩
  refine ⟨_, _, _, .nilIface, rfl, _, binIs_if_neq (.inl rfl) Tryz.underlying48, (fun h => by cases h), fun _ => ?_⟩
  have hsrc1 := hsrc.ev (fun a ha _ => by rw [hbp] at ha; cases ha; exact hbg) ek SpK.zero
  refine (f34_ht hsrc1 (.inr ⟨bb, 0, hbp⟩) hsrc2 (.inr ⟨rb2, 0, rfl⟩)).mono fun v H2 ⟨he2, hv2⟩ => ⟨true, hv2, (fun h => by cases h), fun _ => ?_⟩
  subst he2
  obtain ⟨es1, ck1, m1, l1⟩ := h1.hr.look op.to false
  obtain ⟨es2, ck2, m2, l2⟩ := h1.hl.look op.nm false
  rw [hdt] at l1
  rw [hdl] at l2
  refine ⟨r, es1, ck1, rfl, m1, _, l1, rl, es2, ck2, rfl, m2, _, l2, ?_⟩
  rw [show (((nd k).s.O b).id != ((nd k).s.O b).id) = false by simp]
  -- the last looks
  have L8 : f4_L8 (some ⟨rb, 0, none⟩) sb4 op.kd op.node op.nm op.to op.off op.n op.dp op.dn op.dc op.pp op.pn op.pc (k : Int) (some ⟨sb, 0, none⟩) (some r) p n c (n : Int) (i : Int) false H2 (post4 H0 g0) := by
    apply f4_L8_of
    refine ⟨(fun h => by cases h), fun _ => ⟨_, binIs_str_neq, fun hx => ?_, fun hx => ?_⟩⟩
    · rcases hcase with ⟨heq, _⟩ | ⟨_, hg, _⟩
      · rw [heq] at hx; simp at hx
      · exact more_ht hgo h1.hk h1.hE h1.hF h1.others (h1.grown hg) h1.hr' h1.hs h1.hb h1.hM h1.hi
    · rcases hcase with ⟨_, hs, _⟩ | ⟨hne, _⟩
      · exact h1.same hgo hs
      · simp at hx; exact absurd hx hne
  obtain ⟨es3, ck3, m3, l3⟩ := h1.hr.look op.nm true
  apply f4_L7_of
  refine ⟨(fun h => by cases h), fun _ => ?_⟩
  rcases hcase with ⟨heq, _, hd3⟩ | ⟨_, _, hd3⟩
  · rw [hd3] at l3
    refine ⟨r, es3, ck3, rfl, m3, _, true, l3, fun _ => ⟨_, binIs_str_neq, ?_⟩, (fun h => by cases h)⟩
    rw [show (!decide (op.nm = op.to)) = false by simp [heq]]
    exact L8
  · rw [hd3] at l3
    exact ⟨r, es3, ck3, rfl, m3, _, false, l3, (fun h => by cases h), fun _ => L8⟩

theorem Spk.offN : OffN Spk := fun tg h hc => by
  have h1 := h.1
  have h2 := h.2
  omega

end

end Go.Proofs.Qxb6500695aGreatFmt
