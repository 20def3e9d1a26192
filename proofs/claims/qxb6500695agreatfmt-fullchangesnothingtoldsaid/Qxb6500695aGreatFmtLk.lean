/-
  FULL CHANGES NOTHING, PART K: the journal's objects are known objects.
-/
import Derived.Test.Qxb6500695aGreatFmtFj
import Derived.Test.Qxb6500695aGreatFmtNe
namespace Go.Proofs.Qxb6500695aGreatFmt
open Go Go.Eng Go.Proofs
set_option maxRecDepth 100000
set_option linter.unusedVariables false
set_option linter.unusedSimpArgs false
set_option linter.unusedSectionVars false

def JM (s : StV) : Prop := JrT s ∧ ∀ x b, s.m x = some b → b ∈ s.T

section
variable {ss ns cap N : Nat} {s s' : StV} {E : Nat → Value} {P P' : Pw} {v : Value} {nm to : ByteArray}

theorem JM.same (h : JM s) (hj : s'.jr = s.jr) (hT : s'.T = s.T) (hm : s'.m = s.m) : JM s' :=
  ⟨fun j hjm => by rw [hT]; exact h.1 j (by rw [← hj]; exact hjm), fun x b hx => by rw [hT]; exact h.2 x b (by rw [← hm]; exact hx)⟩

theorem resv_T {b size : Nat} (h : resv ss cap s b size = some s') : s'.jr = s.jr ∧ s'.T = s.T ∧ s'.m = s.m := by
  unfold resv at h
  split at h
  · cases h; exact ⟨rfl, rfl, rfl⟩
  · split at h
    · cases h
    · cases h; exact ⟨rfl, rfl, rfl⟩

theorem putF_T {b off : Nat} {src : List Int} (h : putF ss cap s b off src = some s') : s'.jr = s.jr ∧ s'.T = s.T ∧ s'.m = s.m := by
  unfold putF at h
  split at h
  · cases h; exact ⟨rfl, rfl, rfl⟩
  · split at h
    · cases h
    · cases hr : resv ss cap s b (off + src.length) with
      | none => rw [hr] at h; cases h
      | some s1 =>
        rw [hr] at h
        cases h
        exact ⟨(resv_T hr).1, (resv_T hr).2.1, (resv_T hr).2.2⟩

theorem truncF_T {b size : Nat} (h : truncF ss cap s b size = some s') : s'.jr = s.jr ∧ s'.T = s.T ∧ s'.m = s.m := by
  unfold truncF at h
  split at h
  · cases h
  · cases hr : resv ss cap s b size with
    | none => rw [hr] at h; cases h
    | some s1 =>
      rw [hr] at h
      cases h
      exact ⟨(resv_T hr).1, (resv_T hr).2.1, (resv_T hr).2.2⟩

theorem createR.jm (h : createR E P s nm v s') (hJ : JM s) : JM s' := by
  rcases h with ⟨_, _, h⟩ | ⟨_, ⟨_, _, h⟩ | ⟨_, _, _, h⟩ | ⟨_, hm, _, i, b, pb, hsp, hbT, h⟩⟩
  · subst h; exact hJ
  · subst h; exact hJ
  · subst h; exact hJ
  · subst h
    refine ⟨fun j hj => ?_, fun x c hx => ?_⟩
    · simp only [createS] at hj ⊢
      rcases List.mem_append.1 hj with h | h
      · have := hJ.1 j h
        simp [this]
      · rw [List.mem_singleton.1 h]; simp
    · simp only [createS, mset] at hx ⊢
      split at hx
      · cases hx; simp
      · have := hJ.2 x c hx
        simp [this]

theorem deleteR.jm (h : deleteR E P s nm v s') (hJ : JM s) : JM s' := by
  rcases h with ⟨_, _, h⟩ | ⟨_, ⟨_, _, h⟩ | ⟨b, i, hf, _, hi, h⟩⟩
  · subst h; exact hJ
  · subst h; exact hJ
  · subst h
    have hb := hJ.2 _ _ (fnd_some hf).2
    refine ⟨fun j hj => ?_, fun x c hx => ?_⟩
    · simp only [deleteS] at hj ⊢
      rcases List.mem_append.1 hj with h | h
      · exact hJ.1 j h
      · rw [List.mem_singleton.1 h]; exact hb
    · simp only [deleteS, mset] at hx ⊢
      split at hx
      · cases hx
      · exact hJ.2 x c hx

theorem renameR.jm (h : renameR E P s nm to v s') (hJ : JM s) : JM s' := by
  rcases h with ⟨_, _, h⟩ | ⟨_, ⟨_, _, h⟩ | ⟨_, _, _, h⟩ | ⟨b, _, _, _, _, h⟩ | ⟨b, ys, _, hf, hne, _, hr, h⟩⟩
  · subst h; exact hJ
  · subst h; exact hJ
  · subst h; exact hJ
  · subst h; exact hJ
  · subst h
    have hb := hJ.2 _ _ (fnd_some hf).2
    refine ⟨fun j hj => ?_, fun x c hx => ?_⟩
    · simp only [renameS] at hj ⊢
      rcases List.mem_append.1 hj with h | h
      · exact hJ.1 j h
      · rw [List.mem_singleton.1 h]; exact hb
    · simp only [renameS, mset] at hx ⊢
      split at hx
      · cases hx; exact hb
      · split at hx
        · cases hx
        · exact hJ.2 x c hx

theorem writeR.jm {off : Int} {src : List Int} (h : writeR ss cap E P s nm off src v s') (hJ : JM s) : JM s' := by
  rcases h with ⟨_, _, h⟩ | ⟨_, ⟨_, _, h⟩ | ⟨b, hf, ⟨_, _, h⟩ | ⟨_, ⟨_, _, h⟩ | ⟨h, _⟩⟩⟩⟩
  · subst h; exact hJ
  · subst h; exact hJ
  · subst h; exact hJ
  · subst h; exact hJ
  · obtain ⟨h1, h2, h3⟩ := putF_T h; exact hJ.same h1 h2 h3

theorem appendR.jm {src : List Int} (h : appendR ss cap E P s nm src v s') (hJ : JM s) : JM s' := by
  rcases h with ⟨_, _, h⟩ | ⟨_, ⟨_, _, h⟩ | ⟨b, hf, ⟨_, _, h⟩ | ⟨h, _⟩⟩⟩
  · subst h; exact hJ
  · subst h; exact hJ
  · subst h; exact hJ
  · obtain ⟨h1, h2, h3⟩ := putF_T h; exact hJ.same h1 h2 h3

theorem truncR.jm {size : Int} (h : truncR ss cap E P s nm size v s') (hJ : JM s) : JM s' := by
  rcases h with ⟨_, _, h⟩ | ⟨_, ⟨_, _, h⟩ | ⟨b, hf, ⟨_, _, h⟩ | ⟨_, ⟨_, _, h⟩ | ⟨h, _⟩⟩⟩⟩
  · subst h; exact hJ
  · subst h; exact hJ
  · subst h; exact hJ
  · subst h; exact hJ
  · obtain ⟨h1, h2, h3⟩ := truncF_T h; exact hJ.same h1 h2 h3

theorem syncR.jm (h : syncR ss E P s nm v s') (hJ : JM s) : JM s' := by
  rcases h with ⟨_, _, h⟩ | ⟨_, ⟨_, _, h⟩ | ⟨b, P', hf, _, _, h⟩⟩
  · subst h; exact hJ
  · subst h; exact hJ
  · subst h; exact hJ.same rfl rfl rfl

theorem JM.com (hJ : JM s) : JM (comS s) := ⟨fun j hj => by simp [comS] at hj, hJ.2⟩

theorem syncDirR.jm (h : syncDirR E P s v s') (hJ : JM s) : JM s' := by
  rcases h with ⟨_, _, h⟩ | ⟨_, _, h⟩
  · subst h; exact hJ
  · subst h; exact hJ.com

theorem syncAllR.jm (h : syncAllR ss E P s v s') (hJ : JM s) : JM s' := by
  rcases h with ⟨_, _, h⟩ | ⟨_, _, bs, h, _, hb⟩
  · subst h; exact hJ
  · have := h.same
    exact hJ.com.same this.2.2.2.2.1 this.1 this.2.1

theorem pubR.jm {data : List Int} (h : pubR ss cap E nm to data P s v s' P') (hJ : JM s) : JM s' := by
  rcases h with ⟨_, _, h, _⟩ | ⟨_, ⟨_, _, h, _⟩ | ⟨_, _, ⟨_, _, h, _⟩ | ⟨_, v1, s1, h1, h⟩⟩⟩
  · subst h; exact hJ
  · subst h; exact hJ
  · subst h; exact hJ
  · have J1 : JM s1 := by
      rcases h1 with ⟨_, h1⟩ | ⟨_, h1⟩
      · exact h1.jm hJ
      · exact h1.jm hJ
    rcases h with ⟨_, _, h, _⟩ | ⟨_, n, v2, s2, h2, h⟩
    · subst h; exact J1
    · have J2 := h2.jm J1
      rcases h with ⟨_, _, h, _⟩ | ⟨_, v3, s3, h3, h⟩
      · subst h; exact J2
      · have J3 := h3.jm J2
        rcases h with ⟨_, _, h, _⟩ | ⟨_, v4, s4, h4, h⟩
        · subst h; exact J3
        · have J4 := h4.jm J3
          rcases h with ⟨_, _, h, _⟩ | ⟨_, h, _⟩
          · subst h; exact J4
          · exact h.jm J4

theorem burstR.jm (h : burstR ss cap E nm P s v s' P') (hJ : JM s) : JM s' := by
  rcases h with ⟨_, h, _⟩ | ⟨off, src, n, v2, s2, h1, h⟩
  · subst h; exact hJ
  · have J1 := h1.jm hJ
    rcases h with ⟨_, _, h, _⟩ | ⟨_, h, _⟩
    · subst h; exact J1
    · exact h.jm J1

theorem StepR.jt {op : OpV} {n n' : NdV} {e : Value} {m : Int} {tr : List Ask} (h : StepR E ss ns cap op n e m n' tr) (hI : StI ss cap N n.s) (hJ : JrT n.s) : JrT n'.s := by
  have hM : JM n.s := ⟨hJ, hI.mT⟩
  cases h using StepR.ind with
  | dwsec _ h => exact hJ
  | dwrite _ h => exact hJ
  | dread => exact hJ
  | dsync _ h => exact hJ
  | create _ h => exact (h.jm hM).1
  | write _ h => exact (h.jm hM).1
  | append _ h => exact (h.jm hM).1
  | trunc _ h => exact (h.jm hM).1
  | read _ h => exact hJ
  | stat => exact hJ
  | list => exact hJ
  | sync _ h => exact (h.jm hM).1
  | syncDir _ h => exact (h.jm hM).1
  | syncAll _ h => exact (h.jm hM).1
  | rename _ h => exact (h.jm hM).1
  | delete _ h => exact (h.jm hM).1
  | publish _ h => exact (h.jm hM).1
  | burst _ h => exact (h.jm hM).1
  | arm => exact hJ
  | crash _ h =>
    obtain ⟨_, trD, trS, _, hc9, _⟩ := h
    obtain ⟨kp, ys, tr2, _, _, _, hset, _⟩ := hc9
    have hj := hset.same.2.2.2.2.1
    intro j hjm
    rw [hj] at hjm
    simp [crash1] at hjm
  | other => exact hJ

end

end Go.Proofs.Qxb6500695aGreatFmt
