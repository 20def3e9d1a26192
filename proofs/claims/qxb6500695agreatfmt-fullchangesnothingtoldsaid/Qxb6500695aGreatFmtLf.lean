/-
  FULL CHANGES NOTHING, PART F: racks side by side: the copy of a rack, views, crashes.
-/
import Derived.Test.Qxb6500695aGreatFmtLc
import Derived.Test.Qxb6500695aGreatFmtLe
namespace Go.Proofs.Qxb6500695aGreatFmt
open Go Go.Eng Go.Proofs
set_option maxRecDepth 100000
set_option linter.unusedVariables false
set_option linter.unusedSimpArgs false
set_option linter.unusedSectionVars false

/-- A rack under a ghost of its own. -/
structure Rig (H : Heap) (g : Gh) (E : Nat → Value) (rb bd M : Nat) (nd : Nat → NdV) : Prop where
  ok : GOk H g
  gl : Gl H g E
  rk : RkR H g rb bd nd
  inv : RkI M nd
  jt : ∀ k, k < 3 → JrT (nd k).s

section
variable {S : Nat × Int → Prop} {H H' : Heap} {g g' q : Gh} {E : Nat → Value} {rb bd M : Nat} {nd : Nat → NdV}

theorem Rig.off (h : Rig H g E rb bd M nd) (e : Ev S H g H' g') (hS : OffN S) : Rig H' g' E rb bd M nd :=
  ⟨e.ok, h.gl.ev e (fun hc => hS _ hc (by simp)), h.rk.off e hS, h.inv, h.jt⟩

/-- What a copy of a rack is. -/
def Copy (nd nd' : Nat → NdV) : Prop := ∀ k, k < 3 → (nd' k).pw = (nd k).pw ∧ (nd' k).D = (nd k).D ∧ StF (nd k).s (nd' k).s

theorem OpOk.ro {op : OpV} (h : OpOk H g op) (hr : RoIn g q) (hs : Sub H H') : OpOk H' q op :=
  ⟨h.data.sub hs, fun a ha h0 => hr _ (h.dtag a ha h0), h.db, h.pl, fun hp => let ⟨b, o, h1, h2, h3⟩ := h.pcs hp; ⟨b, o, h1, hr _ h2, hs.cells h3⟩, h.pb, h.offb, h.nb⟩

theorem CapOk.ro {op : OpV} {cb : Nat} (h : CapOk H g cb op) (hr : RoIn g q) (hs : Sub H H') : CapOk H' q cb op :=
  ⟨hr _ h.tag, hs _ _ h.cell, h.op.ro hr hs⟩

theorem Sep.ro {p : Gh} (h : Sep p g) : Sep p (roOf g) := fun b t u h1 h2 => by
  unfold roOf at h2
  split at h2
  · rename_i h3
    cases h2
    exact ⟨(h b t _ h1 h3).1, rfl⟩
  · cases h2

/-- One more node copied. -/
theorem f42_L1_ht {c3 : Nat} (hbd : bd < 2 ^ 31) (R : Rig H g E rb bd M nd) {nbk : Nat → Nat} (hnbk : ∀ k, k < 3 → NdE H g k (nbk k) bd (nd k)) (hc3 : H c3 = none) :
    ∀ (d i : Nat) (h : Heap) (q : Gh) (nc : Nat → Option Nat) (nd' : Nat → NdV), 3 - i = d → i ≤ 3 → Fx H (roOf g) h q → q c3 = none →
      h c3 = some (.cells #[.pointer (oP (nc 0)), .pointer (oP (nc 1)), .pointer (oP (nc 2))] 125 (0, 0)) →
      (∀ k, k < i → ∃ b, nc k = some b ∧ NdE h q k b bd (nd' k) ∧ (nd' k).pw = (nd k).pw ∧ (nd' k).D = (nd k).D ∧ StF (nd k).s (nd' k).s ∧ StI (shS k) (shC k) M (nd' k).s ∧ JrT (nd' k).s) →
      f42_L1 (some ⟨c3, 0, none⟩) (some ⟨nbk 0, 0, none⟩) (some ⟨nbk 1, 0, none⟩) (some ⟨nbk 2, 0, none⟩) (i : Int) h fun v H' => ∃ rb' q' nd', v = .pointer (some ⟨rb', 0, none⟩) ∧ Fx H (roOf g) H' q' ∧ Rig H' q' E rb' bd M nd' ∧ Copy nd nd' := by
  intro d
  induction d with
  | zero =>
    intro i h q nc nd' hd hi hF hqc hc hall
    have h3 : i = 3 := by omega
    subst h3
    apply f42_L1_of
    refine ⟨fun hx => by have := of_decide_eq_true hx; omega, fun _ => ?_⟩
    obtain ⟨b0, n0, r0, _⟩ := hall 0 (by omega)
    obtain ⟨b1, n1, r1, _⟩ := hall 1 (by omega)
    obtain ⟨b2, n2, r2, _⟩ := hall 2 (by omega)
    have F2 := hF.tag (tg := (29, 0)) hc3 hc hqc
    have e2 : Ev (fun _ => False) h q h (gset q c3 (29, 0)) := ⟨F2.ev.ok, fun x t hx => by
      have : x ≠ c3 := fun hc => by rw [hc, hqc] at hx; cases hx
      simp [gset, this, hx], fun _ _ _ _ => rfl⟩
    refine ⟨c3, _, nd', rfl, F2, ⟨F2.ev.ok, ?_, ⟨by simp [gset], fun k => (nc k).getD 0, ?_, fun k hk => ?_⟩, fun k hk => ?_, fun k hk => ?_⟩, fun k hk => ?_⟩
    · exact (R.gl.ro (roOf_in.fx hF) hF.sub).ev e2 (fun h => h)
    · simp only [hc, n0, n1, n2, oP, Option.map_some, Option.getD_some]
    · obtain ⟨b, hb, hN, _⟩ := hall k hk
      obtain ⟨p, d, s, hN⟩ := hN
      show NdE h _ k ((nc k).getD 0) bd (nd' k)
      rw [hb]
      exact ⟨p, d, s, hN.off e2 none_offN⟩
    · obtain ⟨b, hb, hN, _, _, _, hI, _⟩ := hall k hk
      exact hI
    · obtain ⟨b, hb, hN, _, _, _, hI, hJ⟩ := hall k hk
      exact hJ
    · obtain ⟨b, hb, hN, h1, h2, h3, _⟩ := hall k hk
      exact ⟨h1, h2, h3⟩
  | succ d ih =>
    intro i h q nc nd' hd hi hF hqc hc hall
    have hi3 : i < 3 := by omega
    apply f42_L1_of
    refine ⟨fun _ => ⟨some ⟨nbk i, 0, none⟩, ?_, c3, 0, rfl, ?_⟩, fun hx => by have := of_decide_eq_false hx; omega⟩
    · have hcase : i = 0 ∨ i = 1 ∨ i = 2 := by omega
      rcases hcase with rfl | rfl | rfl <;> (intro w; kernel_rfl)
    · obtain ⟨pwb, dvb, sb, hN⟩ := hnbk i hi3
      have hIi := R.inv i hi3
      have eg : Ev (fun _ => False) H g h g := Ev.sub R.ok hF.sub
      have hN1 := hN.off eg none_offN
      have hK : FkS h q g (i : Int) sb (shS i) (shC i) bd pwb (nd i).s := hIi.fork (R.jt i hi3) eg.ok hF.ev.ok (roOf_in.fx hF) hN1.st hbd
      refine (f36_ht hN1 hK).mono fun v h1 ⟨nb', pwb', dvb', sb', q1, f, τ, hv, F1, hN2, hIso⟩ => ⟨_, hv, by omega, by omega, ?_⟩
      have hc1 := F1.sub _ _ hc
      refine ⟨_, _, hc1, by simp; omega, fun h2 hw2 => ?_⟩
      have hq1c : q1 c3 = none := by
        cases hx : q1 c3 with
        | none => rfl
        | some t =>
          rcases F1.new c3 t hx with h9 | h9
          · rw [hqc] at h9; cases h9
          · rw [hc] at h9; cases h9
      have e2 : Ev (fun _ => False) h1 q1 h2 q1 := Ev.wr F1.ev.ok hw2 fun tg htg => by rw [hq1c] at htg; cases htg
      have F2 : Fx H (roOf g) h2 q1 := (hF.trans F1).wr (roOf_ok R.ok) hc3 hw2
      rw [wrapS (by omega)]
      have hw2' : Wr h1 c3 (.cells #[.pointer (oP (if 0 = i then some nb' else nc 0)), .pointer (oP (if 1 = i then some nb' else nc 1)), .pointer (oP (if 2 = i then some nb' else nc 2))] 125 (0, 0)) h2 := by
        have hcase : i = 0 ∨ i = 1 ∨ i = 2 := by omega
        rcases hcase with rfl | rfl | rfl <;> exact hw2
      refine ih (i + 1) h2 q1 (fun j => if j = i then some nb' else nc j) (ndset nd' i ⟨(nd i).pw, (nd i).D, f⟩) (by omega) (by omega) F2 hq1c hw2'.same fun j hj => ?_
      by_cases hji : j = i
      · subst hji
        refine ⟨nb', by simp, ⟨pwb', dvb', sb', ?_⟩, ?_⟩
        · simp only [ndset, if_true]
          exact hN2.off e2 none_offN
        · simp only [ndset, if_true]
          exact ⟨trivial, trivial, hIso.toF, hIso.inv hIi, hIso.jrT (R.jt j hi3)⟩
      · obtain ⟨b, hb, ⟨p, d, s, hNj⟩, rest⟩ := hall j (by omega)
        refine ⟨b, by simp [hji, hb], ⟨p, d, s, ?_⟩, ?_⟩
        · simp only [ndset, if_neg hji]
          exact (hNj.off F1.ev none_offN).off e2 none_offN
        · simp only [ndset, if_neg hji]
          exact rest

theorem f42_ht (hbd : bd < 2 ^ 31) (R : Rig H g E rb bd M nd) :
    HT Tryz.prog 42 [.pointer (some ⟨rb, 0, none⟩)] H fun v H' => ∃ rb' q' nd', v = .pointer (some ⟨rb', 0, none⟩) ∧ Fx H (roOf g) H' q' ∧ Rig H' q' E rb' bd M nd' ∧ Copy nd nd' := by
  obtain ⟨nbk, h1, h2⟩ := R.rk.ex
  apply f42_of
  intro b7 H1 ha
  refine ⟨rb, 0, rfl, _, _, _, Cells.of (ha.keep h1) rfl, ?_⟩
  have F1 : Fx H (roOf g) H1 (roOf g) := Fx.ofSub (roOf_ok R.ok) ha.sub
  have hq : roOf g b7 = none := GOk.fresh (roOf_ok R.ok) ha.fresh
  exact f42_L1_ht hbd R h2 ha.fresh 3 0 H1 (roOf g) (fun _ => none) (fun _ => nd 0) rfl (by omega) F1 hq ha.same fun k hk => by omega

/-- A node seen. -/
theorem viewK {K : Value → Heap → Prop} (hbd : bd < 2 ^ 31) (R : Rig H g E rb bd M nd) {i : Nat} (hi : i < 3)
    (hK : ∀ v H', Rig H' g E rb bd M nd → ViewIs H H' (shS i) (shN i) (nd i) v → Ev (fun tg => tg.1 = 27) H g H' g → (∃ dvb, g dvb = some (27, (i : Int)) ∧ ∀ x, H x ≠ none → x ≠ dvb → H' x = H x) → K v H') :
    HT Tryz.prog 12 [.pointer (some ⟨rb, 0, none⟩), .int .i64 (i : Int)] H fun v hp1 => ∃ (x12 : Option Addr), v = .pointer x12 ∧ HT Tryz.prog 57 [.pointer x12] hp1 K := by
  refine (f12_ht R.rk hi).mono fun v H1 ⟨he, nb, hv, hnb⟩ => ⟨_, hv, ?_⟩
  subst he
  have hnbO := hnb
  obtain ⟨nbk, h1, h2, h3⟩ := hnb
  obtain ⟨pwb, dvb, sb, hN⟩ := h3 i hi
  rw [h2] at hN
  refine (f57_ht R.ok R.gl hN (R.inv i hi) hbd).mono fun v H2 ⟨e2, hN2, hV, hk⟩ => ?_
  have eK : Ev (SpK (i : Int)) H1 g H2 g := e2.mono fun tg ht => .inr (.inl ht)
  have hself : ndset nd i (nd i) = nd := by
    funext j
    unfold ndset
    split
    · rename_i h; rw [h]
    · rfl
  have r2 := R.rk.upd R.inv hi hnbO eK ⟨pwb, dvb, sb, hN2⟩ (Nat.le_refl _)
  rw [hself] at r2
  exact hK v H2 ⟨e2.ok, R.gl.ev e2 (fun hc => by cases hc), r2, R.inv, R.jt⟩ hV (e2.mono fun tg ht => by rw [ht]) ⟨dvb, hN.dv.tag, hk⟩

theorem view_other {dvb : Nat} {k : Int} (hs : Sep g q) (hq : GOk H q) (ht : g dvb = some (27, k)) (hk : ∀ x, H x ≠ none → x ≠ dvb → H' x = H x) : Ev (fun _ => False) H q H' q := by
  have key : ∀ b u, q b = some u → H' b = H b := fun b u hb => hk b (hq b u hb) fun hc => by
    subst hc
    have := (hs _ _ _ ht hb).1
    simp at this
  exact ⟨fun b u hb => by rw [key b u hb]; exact hq b u hb, fun _ _ h => h, fun b u hb _ => key b u hb⟩

theorem off27 : ∀ tg : Nat × Int, (fun tg : Nat × Int => tg.1 = 27) tg → tg ≠ (0, 0) := fun tg h hc => by rw [hc] at h; simp at h

end

end Go.Proofs.Qxb6500695aGreatFmt
