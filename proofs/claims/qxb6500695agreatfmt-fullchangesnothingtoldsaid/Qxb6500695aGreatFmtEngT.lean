/-
  THE FRAME, AGAIN: what lies outside the part stands, and the part does not come to hold it.
-/
import Derived.Test.Qxb6500695aGreatFmtEngS
namespace Go.Eng
open Go
set_option linter.unusedVariables false

theorem HT.frame2 {P : Program} {f : FuncId} {args : List Value} {H h : Heap} {R : Value → Heap → Prop} (hf : HT P f args H R) (hs : Sub H h) :
    HT P f args h fun v h' => ∃ H', R v H' ∧ Sub H' h' ∧ ∀ b o, H b = none → h b = some o → h' b = some o ∧ H' b = none := by
  refine ⟨hf.1, fun w hw => (hf.2 w fun b o hb => hw b o (hs b o hb)).mono ?_⟩
  rintro e w' ⟨v, H', he, hstr, hsat, hfr, hr⟩
  have hlt : ∀ b o, h b = some o → b < w.heap.size := fun b o hb => (Array.getElem?_eq_some_iff.1 (hw b o hb)).1
  have hkeep : ∀ b o, H b = none → h b = some o → H' b = none := by
    intro b o h1 h2
    cases hc : H' b with
    | none => rfl
    | some x =>
      have := hfr.2.2 b h1 (by rw [hc]; simp)
      have := hlt b o h2
      omega
  refine ⟨v, fun b => match H' b with | some o => some o | none => (match H b with | none => h b | some _ => none), he, hstr, ?_, ⟨hfr.1, ?_, ?_⟩, H', hr, ?_, ?_⟩
  · intro b o hb
    simp only at hb
    cases hc : H' b with
    | some x => rw [hc] at hb; simp only at hb; cases hb; exact hsat b _ hc
    | none =>
      rw [hc] at hb
      simp only at hb
      cases hH : H b with
      | some y => rw [hH] at hb; cases hb
      | none =>
        rw [hH] at hb
        simp only at hb
        rw [hfr.2.1 b (hlt b o hb) hH (by simp)]
        exact hw b o hb
  · intro b hb hn hl
    have hH : H b = none := by
      cases hc : H b with
      | none => rfl
      | some x => have := hs b x hc; rw [hn] at this; cases this
    exact hfr.2.1 b hb hH hl
  · intro b hn hb
    have hH : H b = none := by
      cases hc : H b with
      | none => rfl
      | some x => have := hs b x hc; rw [hn] at this; cases this
    refine hfr.2.2 b hH fun hc => hb ?_
    simp only [hc, hH, hn]
  · intro b o hb
    simp only [hb]
  · intro b o h1 h2
    exact ⟨by simp only [hkeep b o h1 h2, h1, h2], hkeep b o h1 h2⟩

end Go.Eng
