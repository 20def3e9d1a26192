/-
  CrashKeeps: BEHIND A STEP, PART 1: quiet steps, notes, syncs.
-/
import Derived.Test.Qxb6500695aGreatFmtKp
namespace Go.Proofs.Qxb6500695aGreatFmt
open Go Go.Eng Go.Proofs
set_option maxRecDepth 100000
set_option linter.unusedVariables false
set_option linter.unusedSimpArgs false
set_option linter.unusedSectionVars false

/-- A step on node k has been played; the books have not been turned. -/
structure AP (E : Nat → Value) (sp : Option Addr) (sn : Nat) (ops : List OpV) (rb d4 o5 : Nat) (p : Nat → SlP) (mb : Nat → Nat) (H : Heap) (g : Gh) (bd M bk cn : Nat) (nd : Nat → NdV) (hl : Nat → Nat → List Sv) (B : Nat → Int → Option Bk) (k nb pwb dvb sb : Nat) (n' : NdV) (H2 : Heap) (g2 : Gh) : Prop where
  F : F3 E sp sn ops rb d4 o5 p mb H g bd M bk cn nd hl B
  hk : k < 3
  nat : NdAt H g rb k nb pwb dvb sb
  ev : Ev (UK k) H g H2 g2
  N : NdR H2 g2 (k : Int) nb pwb dvb sb (shS k) (shN k) (shC k) (bd + 80) n'
  I : StI (shS k) (shC k) (M + 4) n'.s
  D : DvB H2 g2 k (shS k) (shN k) bk (p k) (hl k)
  B : BkR H2 g2 k (mb k) (shS k) (shC k) bk cn (B k)
  nm : NmI n'.s
  bb : bd + 160 < 2 ^ 31 ∧ bk + 16 < 2 ^ 31 ∧ 1 ≤ bk

/-- What is enough to go on. -/
def Cl (p : Nat → SlP) (mb : Nat → Nat) (H : Heap) (g : Gh) (bd bk cn k nb pwb dvb sb : Nat) (n' : NdV) (X : Heap → Prop) : Prop :=
  ∀ (H' : Heap) (g' : Gh) (hlk : Nat → List Sv) (Bkk : Int → Option Bk) (cn' : Nat), Ev (UK k) H g H' g' → NdR H' g' (k : Int) nb pwb dvb sb (shS k) (shN k) (shC k) (bd + 80) n' → cn ≤ cn' → DvB H' g' k (shS k) (shN k) (bk + 2) (p k) hlk → BkR H' g' k (mb k) (shS k) (shC k) (bk + 2) cn' Bkk → NI (shS k) (shN k) n' hlk Bkk → X H'

section
variable {S : Nat × Int → Prop} {H H2 H' : Heap} {g g2 g' : Gh} {E : Nat → Value} {sp : Option Addr} {sn : Nat} {ops : List OpV} {rb d4 o5 : Nat} {p : Nat → SlP} {mb : Nat → Nat} {bd M bk cn k nb pwb dvb sb : Nat} {nd : Nat → NdV} {hl : Nat → Nat → List Sv} {B : Nat → Int → Option Bk} {n' : NdV} {X : Heap → Prop}

theorem AP.gl (h : AP E sp sn ops rb d4 o5 p mb H g bd M bk cn nd hl B k nb pwb dvb sb n' H2 g2) : Gl H2 g2 E := h.F.gl.ev h.ev (UK.zero h.hk)

theorem NI.quiet {ss ns : Nat} {n : NdV} {hlk : Nat → List Sv} {Bkk : Int → Option Bk} (h : NI ss ns n hlk Bkk) (hq : Quiet n n') (hn : NmI n'.s) : NI ss ns n' hlk Bkk := by
  obtain ⟨q1, q2, q3, q4⟩ := hq
  exact ⟨fun i hi => by rw [q1]; exact h.dev i hi, fun b hb => by rw [q2] at hb; rw [q3]; exact h.op b hb, fun i y hy => by rw [q4]; exact h.nx i y hy, hn⟩

theorem AP.quiet (h : AP E sp sn ops rb d4 o5 p mb H g bd M bk cn nd hl B k nb pwb dvb sb n' H2 g2) (hcl : Cl p mb H g bd bk cn k nb pwb dvb sb n' X) (hq : Quiet (nd k) n') : X H2 :=
  hcl H2 g2 (hl k) (B k) cn h.ev h.N (Nat.le_refl _) (h.D.mono (by omega)) (h.B.mono (by omega) (Nat.le_refl _)) ((h.F.ni k h.hk).quiet hq h.nm)

/-- The store's readers and a past's calls leave the rest of a node. -/
theorem NdR.note {j e : Int} {ss ns cap : Nat} {n : NdV} (hj : 0 ≤ j ∧ j < 3) (he : e ≤ -10) (h : NdR H g j nb pwb dvb sb ss ns cap bd n) (ev : Ev (fun tg => SpI j tg ∨ SpB e tg) H g H' g') (hst : StR H' g' j sb ss cap bd pwb n.s) : NdR H' g' j nb pwb dvb sb ss ns cap bd n := by
  have n1 : ∀ {i : Nat}, 26 ≤ i → i ≤ 28 → ¬ (SpI j (i, j) ∨ SpB e (i, j)) := fun h1 h2 hc => by
    rcases hc with ⟨hc | hc | hc, h3⟩ | hc
    · have := hc.2.1; simp at this h3; omega
    · have := hc.1; simp at this; omega
    · have := hc.1; simp at this; omega
    · have := hc.2; simp at this; omega
  refine ⟨h.nd.ev ev (n1 (by decide) (by decide)), h.pw.ev ev (n1 (by decide) (by decide)), h.dv.ev ev (fun hc => hc.elim SpI.zero SpB.zero) (n1 (by decide) (by decide)) fun tg ht hc => ?_, hst⟩
  have h1 := ht.rng
  unfold eD at h1
  rcases hc with ⟨hc | hc | hc, h3⟩ | hc
  · omega
  · obtain ⟨q, hq, hq2⟩ := hc.2
    unfold zO at hq2
    omega
  · omega
  · have := hc.1
    omega

/-- The past of one object turned. -/
theorem AP.turn {ob : Nat} {y : Bk} {zs : List Nat} {C : Int → List Sv} (h : AP E sp sn ops rb d4 o5 p mb H g bd M bk cn nd hl B k nb pwb dvb sb n' H2 g2) (hcl : Cl p mb H g bd bk cn k nb pwb dvb sb n' X) (hob : ob ∈ n'.s.T) (hy : B k (n'.s.O ob).id = some y) (ev : Ev (fun tg => SpI (k : Int) tg ∨ SpB (cd k y.c) tg) H2 g2 H' g') (hN : NdR H' g' (k : Int) nb pwb dvb sb (shS k) (shN k) (shC k) (bd + 80) n') (hP : PsR H' g' (cd k y.c) y.pb (shS k) (shC k) (bk + 2) zs C)
    (hop : OP (shS k) (n'.s.O ob) zs C) (hdev : ∀ i, i < shN k → hl k i = hs (shS k) n'.D i) (hoth : ∀ b ∈ n'.s.T, b ≠ ob → ∃ x, B k (n'.s.O b).id = some x ∧ OP (shS k) (n'.s.O b) x.zs x.C) (hnx : ∀ i x, B k i = some x → i ≤ n'.s.nxt) : X H' := by
  have hk := h.hk
  have hk0 : (0 : Int) ≤ (k : Int) ∧ (k : Int) < 3 := by omega
  have hcl0 := cd_le (k := k) (c := y.c)
  have z0 : ¬ (SpI (k : Int) (0, 0) ∨ SpB (cd k y.c) (0, 0)) := fun hc => hc.elim SpI.zero SpB.zero
  have hIK : ∀ {tg}, SpI (k : Int) tg → SpK (k : Int) tg := fun hx => .inl hx.1
  have d1 := h.D.ev ev z0 (fun hc => by
    rcases hc with hc | hc
    · exact NB.nK hk (.inl rfl) (hIK hc)
    · have := hc.2; simp at this) fun s hc => by
    rcases hc with hc | hc
    · exact NB.nK hk (.inr (.inr (.inl ⟨s, rfl⟩))) (hIK hc)
    · have := hc.1; simp [eB, cd] at this; omega
  have b1 := h.B.upd (bd' := bk + 2) hy ev z0 (fun hc => by
    rcases hc with hc | hc
    · exact NB.nK hk (.inr (.inl rfl)) (hIK hc)
    · have := hc.2; simp at this) (fun c _ hcc tg ht hc => by
    rcases hc with hc | hc
    · exact NB.nK hk (.inr (.inr (.inr ⟨c, ht⟩))) (hIK hc)
    · exact hcc (cd_inj (ht.1.symm.trans hc.1))) (by omega) hP
  refine hcl H' g' (hl k) _ cn (h.ev.trans (ev.mono fun tg ht => ?_)) hN (Nat.le_refl _) (d1.mono (by omega)) b1 ⟨hdev, fun b hb => ?_, fun i x hx => ?_, h.nm⟩
  · rcases ht with ht | ht
    · exact .inl (hIK ht)
    · exact .inr (.inr (.inr (.inr (.inr (.inr (.inr ⟨_, ht⟩))))))
  · by_cases hbo : b = ob
    · subst hbo
      exact ⟨_, by unfold Bset; rw [if_pos rfl], hop⟩
    · obtain ⟨x, h1, h2⟩ := hoth b hb hbo
      refine ⟨x, ?_, h2⟩
      unfold Bset
      rw [if_neg (fun hc => hbo (ids_inj h.I.idn hb hob hc))]
      exact h1
  · unfold Bset at hx
    split at hx
    · rename_i hi
      rw [hi]
      exact (h.I.idp ob hob).2
    · exact hnx i x hx

/-- A note. -/
theorem AP.note {ob a b : Nat} {y : Bk} {nm : ByteArray} (h : AP E sp sn ops rb d4 o5 p mb H g bd M bk cn nd hl B k nb pwb dvb sb n' H2 g2) (hcl : Cl p mb H g bd bk cn k nb pwb dvb sb n' X) (hup : n'.pw.down = false) (hf : fnd n'.s nm = some ob) (hy : B k (n'.s.O ob).id = some y) (ha : a < 2 ^ 63) (hab : a < b → b ≤ shC k * shS k)
    (hop : OP (shS k) (n'.s.O ob) (noteZ y.zs (n'.s.O ob).size) (noteC (shS k) a b (secNow (shS k) (n'.s.O ob)) y.C)) (hdev : ∀ i, i < shN k → hl k i = hs (shS k) n'.D i) (hoth : ∀ b ∈ n'.s.T, b ≠ ob → ∃ x, B k (n'.s.O b).id = some x ∧ OP (shS k) (n'.s.O b) x.zs x.C) (hnx : ∀ i x, B k i = some x → i ≤ n'.s.nxt) :
    HT Tryz.prog 23 [.pointer (some ⟨y.pb, 0, none⟩), .pointer (some ⟨sb, 0, none⟩), .string nm, .int .i64 (a : Int), .int .i64 (b : Int)] H2 fun v H' => v = .tuple #[] ∧ X H' := by
  have hk := h.hk
  have hbb := h.bb
  have hcd := cd_le (k := k) (c := y.c)
  have hP := h.B.ps _ _ hy
  refine (f23_ht h.ev.ok h.gl h.N.st h.N.pw hP (by omega) (by omega) (by omega) hbb.2.2 (h.I.toN (by omega)) h.I.mT hup hf ha hab (Nat.le_refl _) hP.clen).mono fun v H3 ⟨hv, g3, e3, r3, p3⟩ => ⟨hv, ?_⟩
  exact h.turn hcl (fnd_T h.I.mT hf) hy e3 (h.N.note ⟨by omega, by omega⟩ (by omega) e3 r3) p3 hop hdev hoth hnx

/-- A sync of one object. -/
theorem AP.synced {ob : Nat} {y : Bk} (h : AP E sp sn ops rb d4 o5 p mb H g bd M bk cn nd hl B k nb pwb dvb sb n' H2 g2) (hcl : Cl p mb H g bd bk cn k nb pwb dvb sb n' X) (hob : ob ∈ n'.s.T) (hy : B k (n'.s.O ob).id = some y)
    (hop : OP (shS k) (n'.s.O ob) [lastZ y.zs] (syncC y.C)) (hdev : ∀ i, i < shN k → hl k i = hs (shS k) n'.D i) (hoth : ∀ b ∈ n'.s.T, b ≠ ob → ∃ x, B k (n'.s.O b).id = some x ∧ OP (shS k) (n'.s.O b) x.zs x.C) (hnx : ∀ i x, B k i = some x → i ≤ n'.s.nxt) :
    HT Tryz.prog 25 [.pointer (some ⟨y.pb, 0, none⟩)] H2 fun v H' => v = .tuple #[] ∧ X H' := by
  have hbb := h.bb
  have hcd := cd_le (k := k) (c := y.c)
  have hk := h.hk
  have hP := h.B.ps _ _ hy
  refine (f25_ht h.ev.ok hP (by omega)).mono fun v H3 ⟨hv, g3, e3, p3⟩ => ⟨hv, ?_⟩
  refine h.turn hcl hob hy (e3.mono fun tg h => .inr h) (h.N.evG h.I.pos e3 SpB.zero fun tg ht hc => ?_) (p3.mono (by omega)) hop hdev hoth hnx
  have h1 := ht.rng ⟨by omega, by omega⟩
  have h2 := hc.1
  have h3 := hc.2
  omega

end

end Go.Proofs.Qxb6500695aGreatFmt
