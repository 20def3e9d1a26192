/-
  CrashKeeps: BEHIND A CRASH.
-/
import Derived.Test.Qxb6500695aGreatFmtKs
namespace Go.Proofs.Qxb6500695aGreatFmt
open Go Go.Eng Go.Proofs
set_option maxRecDepth 100000
set_option linter.unusedVariables false
set_option linter.unusedSimpArgs false
set_option linter.unusedSectionVars false

theorem PlOk.ps {H : Heap} {g : Gh} {e : Int} {pb ss ns bd : Nat} {P : Pl} (h : PlOk H g e pb ss ns bd P) : PS P := by
  intro i v hv
  obtain ⟨mp, mn, mc, r, ml, es, ck, h1, h2, h3, h4, h5, h6, h7, h8, h9⟩ := h.ex
  cases hg : iget es.toList i with
  | none => rw [h9 i hg] at hv; cases hv
  | some w =>
    obtain ⟨en, hen, hk, _⟩ := iget_mem hg
    have := (h8 en hen).2.2.2.2.1
    rw [hk] at this
    exact this v hv

theorem S28.UK {k cn : Nat} {tg : Nat × Int} (h : S28 k cn tg) : UK k tg := by
  rcases h with h | h | h | h | ⟨c, _, h⟩
  · exact .inl (.inl (SpN.st h))
  · exact .inr (.inr (.inl h))
  · exact .inr (.inr (.inr (.inl h)))
  · exact .inr (.inr (.inr (.inr (.inr (.inl h)))))
  · exact .inr (.inr (.inr (.inr (.inr (.inr (.inr ⟨c, h⟩))))))

theorem S27.UK {k : Nat} {tg : Nat × Int} (h : S27 k tg) : UK k tg := by
  rcases h with h | h | h
  · exact .inr (.inl h)
  · exact .inr (.inr (.inl h))
  · exact .inr (.inr (.inr (.inr (.inl h))))

section
variable {S : Nat × Int → Prop} {H H1 H2 H' : Heap} {g g1 g2 g' : Gh} {E : Nat → Value} {sp : Option Addr} {sn : Nat} {ops : List OpV} {rb d4 o5 : Nat} {p : Nat → SlP} {mb : Nat → Nat} {bd M bk cn k nb pwb dvb sb wb : Nat} {nd : Nat → NdV} {hl : Nat → Nat → List Sv} {B : Nat → Int → Option Bk} {n' : NdV} {X : Heap → Prop}
variable {a1 a4 a5 : Int} {a2 a3 : ByteArray} {a6 a7 : Option Addr} {a6n a6c a7n a7c : Nat} {x70 : Option Addr} {x70n x70c : Nat} {x71 x72 : Int} {R : Value → Heap → Prop}
variable {v0 : Value} {v1 v4 v5 v6 v7 : Int} {v2 v3 p18 : Option Addr} {v2n v2c v3n v3c : Nat} {tr : List Ask}

theorem f3_L6_18 (h : AP E sp sn ops rb d4 o5 p mb H g bd M bk cn nd hl B k nb pwb dvb sb n' H2 g2) (hcl : Cl p mb H g bd bk cn k nb pwb dvb sb n' (f3_L13 (some ⟨rb, 0, none⟩) d4 o5 x70 x70n x70c x71 x72 · R)) (hcr : ndCrash (shS k) (shN k) (shC k) (nd k) tr n') (hW : WtM wb tr (fun _ => False) H2 g2) (hM : M + 4 < 2 ^ 28) :
    f3_L6 (some ⟨rb, 0, none⟩) d4 o5 18 a1 a2 a3 a4 a5 a6 a6n a6c a7 a7n a7c (k : Int) (some ⟨dvb, 0, none⟩) (some ⟨sb, 0, none⟩) (shS k : Int) (some ⟨wb, 0, none⟩) v0 v1 v2 v2n v2c v3 v3n v3c v4 v5 v6 v7 p18 x70 x70n x70c x71 x72 H2 R := by
  have hk := h.hk
  have hbb := h.bb
  obtain ⟨s0, s16, sc12, sn12⟩ := sh_ok (k := k)
  obtain ⟨hpw, trD, trS, hdc, hsc, htr⟩ := hcr
  have hup : n'.pw.down = false := by rw [hpw]
  -- the node as it was
  have N0 := h.F.rk.nodeAt hk h.nat
  have I0 := h.F.ri k hk
  have ni := h.F.ni k hk
  obtain ⟨plb, qd, _, hpl⟩ := N0.dv.ex
  obtain ⟨f1, f2, f3, f4, f5, f6, f7⟩ := hsc.fates I0
  have hS0 : ∀ y ∈ trS, y.1.1 ≠ 0 := fun y hy hc => by
    rcases f7 y hy with h1 | ⟨x, b, _, _, h1 | h1⟩
    · rw [h1] at hc; simp at hc
    · rw [h1] at hc; simp at hc
    · omega
  obtain ⟨ch, d1, d2, d3, d4', d5⟩ := hdc.fate (ss := shS k) hpl.ps hS0
  rw [← htr] at d2
  -- the trace, the objects' part
  have hlaS : ∀ q : Plc, q.1 ≠ 0 → lastA tr q = lastA trS q := fun q hq => by
    rw [htr, lastA_append]
    have : lastA trD q = none := lastA_none fun y hy hyq => by
      obtain ⟨i, _, h1⟩ := d5 y hy
      rw [hyq] at h1
      exact hq (by rw [h1])
    rw [this, Option.or_none]
  have hfate : ∀ x b, n'.s.m x = some b → ∃ y kk c2, B k (n'.s.O b).id = some y ∧ Cr1 (shS k) tr (n'.s.O b) y.zs y.C kk c2 ∧ OP (shS k) (n'.s.O b) [(n'.s.O b).size] (resC (shS k) (n'.s.O b) y.C) ∧ Fate (shS k) (shC k) tr ((nd k).s.O b) (n'.s.O b) kk c2 ∧ OP (shS k) ((nd k).s.O b) y.zs y.C := by
    intro x b hx
    obtain ⟨kk, c2, hf⟩ := f1 x b hx
    have hbT := f6 x b hx
    obtain ⟨y, hy, hop⟩ := ni.op b hbT
    have hf' : Fate (shS k) (shC k) tr ((nd k).s.O b) (n'.s.O b) kk c2 := ⟨hf.ex, by rw [hlaS _ (by simp)]; exact hf.sz, fun i => by rw [hlaS _ (by simp)]; exact hf.se i⟩
    have hO := N0.st.obs b hbT
    obtain ⟨h1, h2⟩ := hf'.cr1 s0 hop hO.pl.sized hO.pl.ps
    exact ⟨y, kk, c2, by rw [f5]; exact hy, h1, h2, hf', hop⟩
  apply f3_L6_of
  refine ⟨fun h => absurd h (by decide), fun _ => ⟨fun h => absurd h (by decide), fun _ => ⟨fun h => absurd h (by decide), fun _ => ⟨fun h => absurd h (by decide), fun _ => ⟨fun h => absurd h (by decide), fun _ => ⟨fun h => absurd h (by decide), fun _ => ⟨fun h => absurd h (by decide), fun _ => ⟨fun h => absurd h (by decide), fun _ => ⟨fun _ => ?_, fun h => absurd h (by decide)⟩⟩⟩⟩⟩⟩⟩⟩⟩
  refine ⟨by omega, by omega, _, _, _, h.dcell h.ev, ?_⟩
  have hhl : ∀ i, i < shN k → hl k i = hs (shS k) (nd k).D i := ni.dev
  refine (f27_ht (ch := ch) (M := fun _ => False) (hl := hl k) hk (by omega) (by omega) hbb.2.2 hup (fun s hs => by rw [hhl s hs]; exact d1 s) (fun s hs => by rw [hhl s hs]; exact d2 s) (fun s _ => d3 s) h.ev.ok h.gl h.N.dv h.N.pw h.D hW).mono fun v H3 ⟨hv3, g3, e3, D3, P3, ⟨hl', Dv3, hhl'⟩, M1, W3, hM1⟩ => ⟨_, hv3, (fun h => by cases h), fun _ => ?_⟩
  have e03 : Ev (UK k) H g H3 g3 := h.ev.trans (e3.mono fun tg h => S27.UK h)
  refine ⟨by omega, by omega, _, h.ocell e03, ?_⟩
  have B3 := h.B.ev e3 S27.zero (S27.big (by decide)) fun c _ tg ht hc => by
    rcases hc with hc | hc | hc <;> (rw [hc] at ht; have := ht.2; simp at this)
  have R3 := h.N.st.off e3 fun tg ht hc => by
    rcases ht with ht | ht | ht <;> (rw [ht] at hc; simp at hc)
  have C3 : Cx H3 g3 k (mb k) wb sb (shS k) (shC k) (bd + 80) pwb bk cn E n'.pw n'.s (B k) tr M1 := ⟨h.F.gl.ev e03 (UK.zero hk), R3, P3, B3, W3⟩
  refine (f28_ht e3.ok C3 h.I h.nm (by omega) hup (by omega) hbb.2.2 fun x b hx => let ⟨y, kk, c2, h1, h2, _⟩ := hfate x b hx; ⟨y, kk, c2, h1, h2⟩).mono fun v H4 ⟨hv4, g4, cn', B', M2, e4, C4, hcn', hB1, hB2, hM2⟩ => ⟨_, hv4, ?_⟩
  have hcnle : cn ≤ cn' ∨ cn' < cn := by omega
  apply f3_L12_of
  refine ⟨(fun h => by cases h), fun _ => ?_⟩
  refine (f29m_ht e4.ok C4.T 1 0 0 2 (by decide)).mono fun v H5 ⟨hv5, e5, W5⟩ => ⟨_, hv5, ?_⟩
  have n34 : ∀ {j : Nat} {z : Int}, j ≠ 34 → ¬ ((fun tg : Nat × Int => tg = (34, 0)) (j, z)) := fun hj hc => hj (by simpa using congrArg Prod.fst hc)
  have hall : ∀ q, (M2 q ∨ (q = (1, 0, 0) ∧ lastA tr (1, 0, 0) ≠ none)) ↔ lastA tr q ≠ none := by
    intro q
    constructor
    · rintro (hq | ⟨h1, h2⟩)
      · rcases (hM2 q).1 hq with hq | ⟨x, b, old, _, _, h3, _⟩
        · rcases (hM1 q).1 hq with hq | ⟨s, _, _, h3⟩
          · exact hq.elim
          · exact h3
        · exact h3
      · rw [h1]; exact h2
    · intro hq
      obtain ⟨y, hy, hyq⟩ := lastA_mem hq
      rw [htr] at hy
      rcases List.mem_append.1 hy with hy | hy
      · obtain ⟨i, hi, h1⟩ := d5 y hy
        exact .inl ((hM2 q).2 (.inl ((hM1 q).2 (.inr ⟨i, hi, by rw [← hyq]; exact h1, hq⟩))))
      · rcases f7 y hy with h1 | ⟨x, b, hx, hid, h1⟩
        · rw [hyq] at h1
          exact .inr ⟨h1, by rw [← h1]; exact hq⟩
        · obtain ⟨old, kk, c2, hB, hc1, _, hf, hop⟩ := hfate x b hx
          refine .inl ((hM2 q).2 (.inr ⟨x, b, old, hx, hB, hq, ?_⟩))
          rw [hyq] at hid h1
          rw [f5]
          rcases h1 with h1 | h1
          · exact .inl h1
          · obtain ⟨a, o, z⟩ := q
            simp only at hid h1
            subst hid h1
            have hz : ((nd k).s.O b).pl.cache z ≠ [] := fun hc => by
              rw [hf.se z, if_pos hc] at hq
              exact hq rfl
            obtain ⟨ks, P', ⟨_, _, ⟨_, _, hkb, hks⟩, _⟩, _⟩ := hf.ex
            have hz0 := hkb z ((hks z).2 hz)
            obtain ⟨i, rfl⟩ : ∃ i : Nat, z = (i : Int) := ⟨z.toNat, by omega⟩
            refine .inr ⟨i, fun hc => ?_, rfl⟩
            have := hop.unk i hc
            unfold hs at this
            simp at this
            exact hz this.2
  obtain ⟨wp, wn, wc, ab, cb, mb', ae, me, ac, mc, w1, w2, w3, w4⟩ := W5.lens hall
  refine ⟨wb, 0, rfl, _, Cells.of w1 rfl, wb, 0, rfl, _, Cells.of w1 rfl, ?_⟩
  refine semOk_lenM Tryz.underlying74 w3 ⟨_, rfl, Cells.of w1 rfl, ?_⟩
  refine semOk_lenM Tryz.underlying73 w2 ⟨_, rfl, fun hne => ?_, fun _ => ?_⟩
  · rw [w4] at hne
    simp at hne
  -- the end
  have e35 : Ev (UK k) H3 g3 H5 g4 := (e4.mono fun tg h => S28.UK h).trans (e5.mono fun tg h => .inr (.inr (.inl h)))
  have n28' : ∀ {j : Nat} {z : Int}, (j = 26 ∨ j = 27 ∨ j = 28 ∨ j = 50) → ¬ S28 k cn (j, z) := fun hj hc => by
    rcases hc with hc | hc | hc | hc | ⟨c, _, hc⟩
    · simp at hc; omega
    · simp at hc; omega
    · simp at hc; omega
    · simp at hc; omega
    · have := hc.2; simp at this; omega
  have D4 := D3.ev e4 S28.zero (n28' (by simp)) fun tg ht hc => by
    have h1 := ht.rng
    unfold eD at h1
    rcases hc with hc | hc | hc | hc | ⟨c, _, hc⟩
    · rw [hc] at h1; simp at h1
    · rw [hc] at h1; simp at h1
    · rw [hc] at h1; simp at h1
    · rw [hc] at h1; simp at h1
    · have h2 := hc.1
      have h3 := cd_le (k := k) (c := c)
      omega
  have D5 := D4.off e5 fun tg ht hc => by rw [ht] at hc; simp at hc
  have nd3 := h.N.nd.ev e3 (S27.big (by decide))
  have nd5 := (nd3.ev e4 (n28' (by simp))).ev e5 (n34 (by decide))
  have R5 := C4.R.off e5 fun tg ht hc => by rw [ht] at hc; simp at hc
  have P5 := C4.W.ev e5 (n34 (by decide))
  have N5 : NdR H5 g4 (k : Int) nb pwb dvb sb (shS k) (shN k) (shC k) (bd + 80) n' := ⟨nd5, P5, D5, R5⟩
  have Dv4 := Dv3.ev e4 S28.zero (n28' (by simp)) fun s hc => by
    rcases hc with hc | hc | hc | hc | ⟨c, _, hc⟩
    · simp at hc; omega
    · simp at hc; omega
    · simp at hc; omega
    · simp at hc; omega
    · have := hc.1; simp [eB, cd] at this; omega
  have Dv5 := Dv4.ev e5 (n34 (by decide)) (n34 (by decide)) fun s => n34 (by omega)
  have B5 := C4.B.ev e5 (n34 (by decide)) (n34 (by decide)) fun c _ tg ht hc => by rw [hc] at ht; have := ht.2; simp at this
  refine hcl H5 g4 hl' B' (cn + cn') (e03.trans e35) N5 (by omega) (Dv5.mono (by omega)) (B5.mono (by omega) (by omega)) ⟨fun i hi => by rw [hhl' i hi, d4' i], fun b hb => ?_, fun i y hy => ?_, h.nm⟩
  · by_cases hv : ∃ x, n'.s.m x = some b
    · obtain ⟨x, hx⟩ := hv
      obtain ⟨y, old, h1, h2, h3, h4⟩ := hB1 x b hx
      obtain ⟨old', kk, c2, h5, _, h6, _⟩ := hfate x b hx
      rw [h2] at h5
      cases h5
      exact ⟨y, h1, by rw [h3, h4]; exact h6⟩
    · have hv : ∀ x, n'.s.m x ≠ some b := fun x hx => hv ⟨x, hx⟩
      have hb0 : b ∈ (nd k).s.T := by rw [← f3]; exact hb
      obtain ⟨y, h1, h2⟩ := ni.op b hb0
      refine ⟨y, ?_, by rw [f2 b hv]; exact h2⟩
      rw [hB2 _ fun x c hx hid => ?_, f5]
      · exact h1
      · have := ids_inj h.I.idn (h.I.mT x c hx) hb hid
        exact hv x (this ▸ hx)
  · by_cases hv : ∃ x b, n'.s.m x = some b ∧ (n'.s.O b).id = i
    · obtain ⟨x, b, hx, hi⟩ := hv
      rw [← hi]
      exact (h.I.idp b (h.I.mT x b hx)).2
    · rw [hB2 i fun x b hx hid => hv ⟨x, b, hx, hid⟩] at hy
      rw [f4]
      exact ni.nx i y hy

end

end Go.Proofs.Qxb6500695aGreatFmt
