/-
  SEVERAL RACKS SIDE BY SIDE: each has a ghost of its own.
-/
import Derived.Test.Qxb6500695aGreatFmtEngT
import Derived.Test.Qxb6500695aGreatFmtFj
import Derived.Test.Qxb6500695aGreatFmtNe
namespace Go.Proofs.Qxb6500695aGreatFmt
open Go Go.Eng Go.Proofs
set_option maxRecDepth 100000
set_option linter.unusedVariables false
set_option linter.unusedSimpArgs false
set_option linter.unusedSectionVars false

/-- What a ghost knows of a heap. -/
def restr (H : Heap) (g : Gh) : Heap := fun b => match g b with | some _ => H b | none => none

/-- What a call leaves that knows only the ghost's part. -/
def Fp (H : Heap) (g : Gh) (H' : Heap) (g' : Gh) : Prop := ∀ b o, g b = none → H b = some o → H' b = some o ∧ g' b = none

/-- Two ghosts share only what is read only. -/
def Sep (g q : Gh) : Prop := ∀ b t u, g b = some t → q b = some u → t = (0, 0) ∧ u = (0, 0)

section
variable {S : Nat × Int → Prop} {H H' : Heap} {g g' q q' : Gh}

theorem restr_sub : Sub (restr H g) H := by
  intro b o hb
  unfold restr at hb
  cases hc : g b with
  | none => rw [hc] at hb; cases hb
  | some t => rw [hc] at hb; exact hb

theorem restr_ev (hg : GOk H g) : Ev S H g (restr H g) g := by
  have e : ∀ b t, g b = some t → restr H g b = H b := fun b t hb => by unfold restr; rw [hb]
  exact ⟨fun b t hb => by rw [e b t hb]; exact hg b t hb, fun _ _ h => h, fun b t hb _ => e b t hb⟩

theorem restr_none {b : Nat} (hb : g b = none) : restr H g b = none := by
  unfold restr; rw [hb]

/-- A call said of the ghost's part, said of the whole. -/
theorem HT.fr {P : Program} {f : FuncId} {args : List Value} {R : Value → Heap → Gh → Prop} (hg : GOk H g)
    (hf : HT P f args (restr H g) fun v G => ∃ g', Ev S (restr H g) g G g' ∧ R v G g') :
    HT P f args H fun v H' => ∃ G g', R v G g' ∧ Sub G H' ∧ Ev S H g H' g' ∧ Ev (fun _ => False) G g' H' g' ∧ Fp H g H' g' := by
  refine (HT.frame2 hf restr_sub).mono fun v H' ⟨G, ⟨g', e, hr⟩, hs, hk⟩ => ⟨G, g', hr, hs, ?_, Ev.sub e.ok hs, fun b o hb ho => ?_⟩
  · exact ((restr_ev (S := S) hg).trans e).trans (Ev.sub e.ok hs)
  · obtain ⟨h1, h2⟩ := hk b o (restr_none hb) ho
    refine ⟨h1, ?_⟩
    cases hc : g' b with
    | none => rfl
    | some t => exact absurd h2 (e.ok b t hc)

theorem Sep.symm (h : Sep g q) : Sep q g := fun b t u h1 h2 => (h b u t h2 h1).symm

/-- What another ghost knows stands. -/
theorem Fp.other (hf : Fp H g H' g') (e : Ev S H g H' g') (h0 : ¬ S (0, 0)) (hq : GOk H q) (hs : Sep g q) : Ev (fun _ => False) H q H' q ∧ Sep g' q := by
  have key : ∀ b u, q b = some u → H' b = H b := fun b u hb => by
    cases hg : g b with
    | none =>
      cases hh : H b with
      | none => exact absurd hh (hq b u hb)
      | some o => rw [(hf b o hg hh).1]
    | some t =>
      obtain ⟨rfl, _⟩ := hs b t u hg hb
      exact e.keep b _ hg h0
  refine ⟨⟨fun b u hb => by rw [key b u hb]; exact hq b u hb, fun _ _ h => h, fun b u hb _ => key b u hb⟩, fun b t u ht hu => ?_⟩
  cases hg : g b with
  | none =>
    cases hh : H b with
    | none => exact absurd hh (hq b u hu)
    | some o => rw [(hf b o hg hh).2] at ht; cases ht
  | some t' =>
    have := e.tag b t' hg
    rw [ht] at this
    cases this
    exact hs b t u hg hu

/-- What is read only. -/
def roOf (g : Gh) : Gh := fun b => if g b = some (0, 0) then some (0, 0) else none

theorem roOf_in : RoIn g (roOf g) := fun b hb => by unfold roOf; rw [if_pos hb]

theorem roOf_ok (hg : GOk H g) : GOk H (roOf g) := fun b t hb => by
  unfold roOf at hb
  split at hb
  · rename_i h; exact hg b _ h
  · cases hb

theorem roOf_sep : Sep g (roOf g) := fun b t u h1 h2 => by
  unfold roOf at h2
  split at h2
  · rename_i h
    rw [h1] at h
    cases h
    cases h2
    exact ⟨rfl, rfl⟩
  · cases h2

/-- A copy's ghost, apart from another. -/
theorem Fx.sep (h : Fx H q H' q') (hg : GOk H g) (hs : Sep g q) : Sep g q' := fun b t u h1 h2 => by
  rcases h.new b u h2 with h3 | h3
  · exact hs b t u h1 h3
  · exact absurd h3 (hg b t h1)

theorem Fx.tag {b : Nat} {o : Obj} {tg : Nat × Int} (h : Fx H q H' q') (hb : H b = none) (hb' : H' b = some o) (hq : q' b = none) : Fx H q H' (gset q' b tg) := by
  have hne : ∀ x t, q' x = some t → x ≠ b := fun x t hx hc => by rw [hc, hq] at hx; cases hx
  refine ⟨h.sub, ⟨fun x t hx => ?_, fun x t hx => ?_, h.ev.keep⟩, fun x t hx => ?_⟩
  · by_cases hxb : x = b
    · rw [hxb, hb']; simp
    · simp [gset, hxb] at hx; exact h.ev.ok x t hx
  · have h1 := h.ev.tag x t hx
    simp [gset, hne x t h1, h1]
  · by_cases hxb : x = b
    · exact .inr (hxb ▸ hb)
    · simp [gset, hxb] at hx; exact h.new x t hx

theorem Gl.ro {E : Nat → Value} (h : Gl H g E) (hr : RoIn g q) (hs : Sub H H') : Gl H' q E := fun b hb h5 => by
  obtain ⟨h1, t, x, h2, c, T, fr, h3, h4⟩ := h b hb h5
  exact ⟨hr b h1, t, x, h2, c, T, fr, hs _ _ h3, h4⟩

end

end Go.Proofs.Qxb6500695aGreatFmt
