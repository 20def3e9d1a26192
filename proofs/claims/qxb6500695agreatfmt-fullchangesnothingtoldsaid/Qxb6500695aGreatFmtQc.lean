/-
  WHAT A STEP DOES TO A DIRECTORY.
-/
import Derived.Test.Qxb6500695aGreatFmtNe
import Derived.Test.Qxb6500695aGreatFmtQb
namespace Go.Proofs.Qxb6500695aGreatFmt
open Go Go.Eng Go.Proofs
set_option maxRecDepth 100000
set_option linter.unusedVariables false
set_option linter.unusedSimpArgs false
set_option linter.unusedSectionVars false

/-- The directory as it stood after the first i records of the journal: names and ids. -/
def dirF (s : StV) (i : Nat) : ByteArray → Option Int := fun x => (redoN (s.jr.take i) s.st x).map fun b => (s.O b).id

/-- The directory as callers see it. -/
def dirN (s : StV) : ByteArray → Option Int := fun x => (s.m x).map fun b => (s.O b).id

/-- Names are good names. -/
def NmI (s : StV) : Prop := ∀ i x, redoN (s.jr.take i) s.st x ≠ none → vn x = true

structure SameD (s s' : StV) : Prop where
  m : s'.m = s.m
  st : s'.st = s.st
  jr : s'.jr = s.jr
  id : ∀ b, (s'.O b).id = (s.O b).id

structure GrowD (s s' : StV) : Prop where
  st : s'.st = s.st
  jr : ∃ j, s'.jr = s.jr ++ [j]
  id : ∀ b ∈ s.T, (s'.O b).id = (s.O b).id
  nm : ∀ x, s'.m x ≠ none → s.m x ≠ none ∨ vn x = true

structure CommD (s s' : StV) : Prop where
  m : s'.m = s.m
  st : s'.st = redoN s.jr s.st
  jr : s'.jr = []
  id : ∀ b, (s'.O b).id = (s.O b).id

structure CrashD (s s' : StV) (kp : Nat) : Prop where
  le : kp ≤ s.jr.length
  m : s'.m = redoN (s.jr.take kp) s.st
  st : s'.st = redoN (s.jr.take kp) s.st
  jr : s'.jr = []
  id : ∀ b, (s'.O b).id = (s.O b).id

theorem SameD.refl (s : StV) : SameD s s := ⟨rfl, rfl, rfl, fun _ => rfl⟩

/-- The standing directories of a store. -/
def Stood (s : StV) (fs : List (ByteArray → Option Int)) : Prop := fs.length = s.jr.length + 1 ∧ ∀ i (h : i < fs.length), fs[i] = dirF s i

section
variable {ss ns cap N : Nat} {s s' : StV} {fs : List (ByteArray → Option Int)}

theorem dirF_last (hI : StI ss cap N s) : dirF s s.jr.length = dirN s := by
  funext x
  unfold dirF dirN
  rw [hI.mAll _ (Nat.le_refl _)]

theorem SameD.dirF (h : SameD s s') (i : Nat) : Go.Proofs.Qxb6500695aGreatFmt.dirF s' i = Go.Proofs.Qxb6500695aGreatFmt.dirF s i := by
  funext x
  unfold Go.Proofs.Qxb6500695aGreatFmt.dirF
  rw [h.jr, h.st]
  congr 1
  funext b
  exact h.id b

theorem SameD.dirN (h : SameD s s') : Go.Proofs.Qxb6500695aGreatFmt.dirN s' = Go.Proofs.Qxb6500695aGreatFmt.dirN s := by
  funext x
  unfold Go.Proofs.Qxb6500695aGreatFmt.dirN
  rw [h.m]
  congr 1
  funext b
  exact h.id b

theorem Stood.same (h : Stood s fs) (hs : SameD s s') : Stood s' fs :=
  ⟨by rw [hs.jr]; exact h.1, fun i hi => by rw [h.2 i hi, hs.dirF]⟩

theorem Stood.last (h : Stood s fs) (hI : StI ss cap N s) : ∃ hi : fs.length - 1 < fs.length, fs[fs.length - 1] = dirN s := by
  have := h.1
  refine ⟨by omega, ?_⟩
  rw [h.2, show fs.length - 1 = s.jr.length by omega, dirF_last hI]

theorem Stood.grow (h : Stood s fs) (hg : GrowD s s') (hI : StI ss cap N s) (hI' : StI ss cap (N + 4) s') : Stood s' (fs ++ [dirN s']) := by
  obtain ⟨j, hj⟩ := hg.jr
  have hl := h.1
  refine ⟨by rw [hj]; simp; omega, fun i hi => ?_⟩
  rw [List.length_append, List.length_cons, List.length_nil] at hi
  rcases Nat.lt_or_ge i fs.length with h1 | h1
  · rw [List.getElem_append_left h1, h.2 i h1]
    funext x
    unfold dirF
    rw [hj, hg.st, List.take_append_of_le_length (by omega)]
    cases hx : redoN (s.jr.take i) s.st x with
    | none => rfl
    | some b =>
      simp only [Option.map_some]
      rw [hg.id b (hI.heldT b (hI.back i x b hx))]
  · have hi' : i = fs.length := by omega
    subst hi'
    have hjl : s'.jr.length = fs.length := by rw [hj]; simp; omega
    have h9 := dirF_last hI'
    rw [hjl] at h9
    rw [h9]
    simp

theorem Stood.one (hj : s'.jr = []) (hI' : StI ss cap N s') : Stood s' [dirN s'] := by
  refine ⟨by rw [hj]; rfl, fun i hi => ?_⟩
  have hi0 : i = 0 := by simpa using hi
  subst hi0
  have := dirF_last hI'
  rw [hj] at this
  exact this.symm

theorem CommD.dirN (h : CommD s s') : Go.Proofs.Qxb6500695aGreatFmt.dirN s' = Go.Proofs.Qxb6500695aGreatFmt.dirN s := by
  funext x
  unfold Go.Proofs.Qxb6500695aGreatFmt.dirN
  rw [h.m]
  congr 1
  funext b
  exact h.id b

theorem CrashD.dirN {kp : Nat} (h : CrashD s s' kp) : Go.Proofs.Qxb6500695aGreatFmt.dirN s' = dirF s kp := by
  funext x
  unfold Go.Proofs.Qxb6500695aGreatFmt.dirN dirF
  rw [h.m]
  congr 1
  funext b
  exact h.id b

theorem NmI.same (h : NmI s) (hs : SameD s s') : NmI s' := fun i x hx => by
  rw [hs.jr, hs.st] at hx
  exact h i x hx

theorem NmI.m (h : NmI s) (hI : StI ss cap N s) {x : ByteArray} (hx : s.m x ≠ none) : vn x = true := h s.jr.length x (by rw [hI.mAll _ (Nat.le_refl _)]; exact hx)

theorem NmI.grow (h : NmI s) (hg : GrowD s s') (hI : StI ss cap N s) (hI' : StI ss cap (N + 4) s') : NmI s' := fun i x hx => by
  obtain ⟨j, hj⟩ := hg.jr
  rcases Nat.lt_or_ge s.jr.length i with h1 | h1
  · rw [hI'.mAll i (by rw [hj]; simp; omega)] at hx
    rcases hg.nm x hx with h2 | h2
    · exact h.m hI h2
    · exact h2
  · rw [hj, hg.st, List.take_append_of_le_length h1] at hx
    exact h i x hx

theorem NmI.comm (h : NmI s) (hc : CommD s s') : NmI s' := fun i x hx => by
  rw [hc.jr, hc.st, List.take_nil] at hx
  exact h s.jr.length x (by rw [List.take_length]; exact hx)

theorem NmI.crash {kp : Nat} (h : NmI s) (hc : CrashD s s' kp) : NmI s' := fun i x hx => by
  rw [hc.jr, hc.st, List.take_nil] at hx
  exact h kp x hx

end

theorem spend_down {P : Pw} (h : P.spend.1.down = true) : P.spend.2 = false := by
  unfold Pw.spend at h ⊢
  split
  · rfl
  · rename_i hd
    rw [if_neg hd] at h
    split
    · rename_i ha
      rw [if_pos ha] at h
      split
      · rfl
      · rename_i hf
        rw [if_neg hf] at h
        cases h
    · rename_i ha
      rw [if_neg ha] at h
      exact absurd h hd

theorem spend_ok {P : Pw} (h : P.spend.2 = true) : P.down = false := by
  cases hd : P.down with
  | false => rfl
  | true =>
    unfold Pw.spend at h
    rw [if_pos hd] at h
    cases h

theorem spend_on {P : Pw} (h : P.spend.2 = true) : P.spend.1.down = false := by
  cases hd : P.spend.1.down with
  | false => rfl
  | true => rw [spend_down hd] at h; cases h

theorem spend_up {P : Pw} (h : P.spend.2 = false) : P.spend.1.down = true := by
  unfold Pw.spend at h ⊢
  split
  · rename_i hd; exact hd
  · rename_i hd
    rw [if_neg hd] at h
    split
    · rename_i ha
      rw [if_pos ha] at h
      split
      · rfl
      · rename_i hf
        rw [if_neg hf] at h
        cases h
    · rename_i ha
      rw [if_neg ha] at h
      cases h

theorem resv_id {ss cap : Nat} {s s' : StV} {b size : Nat} (h : resv ss cap s b size = some s') : SameD s s' := by
  unfold resv at h
  split at h
  · cases h; exact SameD.refl s
  · split at h
    · cases h
    · cases h
      refine ⟨rfl, rfl, rfl, fun x => ?_⟩
      show (oset s.O b _ x).id = _
      unfold oset
      split
      · rename_i hx; subst hx; rfl
      · rfl

theorem SameD.set {s s1 : StV} {b : Nat} {o : Ob} (h : SameD s s1) (ho : o.id = (s1.O b).id) : SameD s { s1 with O := oset s1.O b o } := by
  refine ⟨h.m, h.st, h.jr, fun x => ?_⟩
  rw [← h.id x]
  show (oset s1.O b o x).id = _
  unfold oset
  split
  · rename_i hx; subst hx; exact ho
  · rfl

theorem putF_id {ss cap : Nat} {s s' : StV} {b off : Nat} {src : List Int} (h : putF ss cap s b off src = some s') : SameD s s' := by
  unfold putF at h
  split at h
  · cases h; exact SameD.refl s
  · split at h
    · cases h
    · split at h
      · cases h
      · rename_i s1 h1
        cases h
        refine (resv_id h1).set ?_
        unfold wrOb
        split
        · exact setSize_id
        · rfl

theorem truncF_id {ss cap : Nat} {s s' : StV} {b size : Nat} (h : truncF ss cap s b size = some s') : SameD s s' := by
  unfold truncF at h
  split at h
  · cases h
  · split at h
    · cases h
    · rename_i s1 h1
      cases h
      refine (resv_id h1).set ?_
      unfold truncOb
      rw [setSize_id]
      split <;> rfl

theorem hardS_id {ss : Nat} {s : StV} {b : Nat} {P' : Pl} : SameD s (hardS ss s b P') := by
  have := (SameD.refl s).set (b := b) (o := hardOb ss (s.O b) P') rfl
  exact ⟨this.m, this.st, this.jr, this.id⟩

theorem SetAll.places {ss ns : Nat} {s s' : StV} {bs : List Nat} {tr : List Ask} (h : SetAll ss ns s bs tr s') : ∀ x ∈ tr, x.1.1 ≠ 1 := by
  induction h using SetAll.ind with
  | nil => intro x hx; cases hx
  | snoc h1 h2 ih =>
    intro x hx
    rcases List.mem_append.1 hx with hx | hx
    · exact ih x hx
    · unfold setAsk at hx
      rcases List.mem_append.1 hx with hx | hx
      · unfold sizeAsk at hx
        split at hx
        · cases hx
        · rw [List.mem_singleton] at hx
          subst hx
          simp
      · obtain ⟨i, _, rfl⟩ := List.mem_map.1 hx
        simp

/-- What a crash's questions say of the directory. -/
theorem crash_last {ss ns cap : Nat} {n n' : NdV} {tr : List Ask} (h : ndCrash ss ns cap n tr n') :
    n'.pw.down = false ∧ ∃ kp, CrashD n.s n'.s kp ∧ (n.s.jr = [] → lastA tr (1, 0, 0) = none ∧ kp = 0) ∧ (n.s.jr ≠ [] → lastA tr (1, 0, 0) = some (n.s.jr.length, kp)) := by
  obtain ⟨h1, trD, trS, ⟨ch, ks, _, _, _, _, _, hD⟩, ⟨kp, ys, tr2, hkp, hsrt, hmem, hsa, hS⟩, htr⟩ := h
  obtain ⟨a1, a2, a3, a4, a5, a6, a7⟩ := hsa.same
  refine ⟨by rw [h1], kp, ⟨hkp, a2, a4, a5, a7⟩, ?_⟩
  have hd0 : lastA trD (1, 0, 0) = none := lastA_none fun x hx => by
    rw [hD] at hx
    obtain ⟨i, _, rfl⟩ := List.mem_map.1 hx
    simp
  have h20 : lastA tr2 (1, 0, 0) = none := lastA_none fun x hx hc => hsa.places x hx (by rw [hc])
  rw [htr, hS, lastA_append, lastA_append, hd0, h20]
  refine ⟨fun hj => ⟨?_, ?_⟩, fun hj => ?_⟩
  · unfold dirAsk
    rw [if_pos hj]
    rfl
  · rw [hj] at hkp
    simpa using hkp
  · unfold dirAsk
    rw [if_neg hj]
    rfl

/-- What a plain step does to the directory of its node. -/
def DirStep (op : OpV) (n : NdV) (e : Value) (n' : NdV) (tr : List Ask) : Prop :=
  (SameD n.s n'.s ∧ (n'.pw.down = true ∨ (e ≠ .nilIface ∧ op.kd ≠ 18) ∨ (e = .nilIface ∧ (op.kd ≠ 3 ∧ op.kd ≠ 11 ∧ op.kd ≠ 12 ∧ op.kd ≠ 14 ∧ op.kd ≠ 18) ∧ (op.kd = 13 → op.nm = op.to ∧ n.pw.down = false ∧ n'.s = n.s ∧ ∃ b, fnd n.s op.nm = some b)))) ∨
  (n'.pw.down = false ∧ e = .nilIface ∧ GrowD n.s n'.s ∧ (op.kd = 3 ∨ op.kd = 14 ∨ (op.kd = 13 ∧ op.nm ≠ op.to ∧ n.pw.down = false ∧ vn op.to = true ∧ ∃ b ys, fnd n.s op.nm = some b ∧ n'.s = renameS n.s op.nm op.to b ys))) ∨
  (n'.pw.down = false ∧ e = .nilIface ∧ (op.kd = 11 ∨ op.kd = 12) ∧ CommD n.s n'.s) ∨
  (n'.pw.down = false ∧ op.kd = 18 ∧ e = .nilIface ∧ ∃ kp, CrashD n.s n'.s kp ∧ (n.s.jr = [] → lastA tr (1, 0, 0) = none ∧ kp = 0) ∧ (n.s.jr ≠ [] → lastA tr (1, 0, 0) = some (n.s.jr.length, kp)))

theorem StepR.dir {E : Nat → Value} {ss ns cap M : Nat} {op : OpV} {n n' : NdV} {e : Value} {m : Int} {tr : List Ask} (h : StepR E ss ns cap op n e m n' tr) (hI : StI ss cap M n.s) (hE : ∀ b, b < 9 → b ≠ 5 → E b ≠ .nilIface) (h15 : op.kd ≠ 15) (h16 : op.kd ≠ 16) :
    DirStep op n e n' tr := by
  have eE : ∀ {b : Nat}, b < 9 → b ≠ 5 → e = E b → e ≠ .nilIface := fun h1 h2 h3 => by rw [h3]; exact hE _ h1 h2
  have eF : ∀ {nm : ByteArray}, e = fe E nm → e ≠ .nilIface := fun h3 => by
    rw [h3]
    unfold fe
    split
    · exact hE 8 (by decide) (by decide)
    · exact hE 4 (by decide) (by decide)
  -- a step that leaves the directory
  have keep : SameD n.s n'.s → (op.kd ≠ 3 ∧ op.kd ≠ 11 ∧ op.kd ≠ 12 ∧ op.kd ≠ 13 ∧ op.kd ≠ 14 ∧ op.kd ≠ 18) → DirStep op n e n' tr := by
    intro hs ⟨q1, q2, q3, q4, q5, q6⟩
    by_cases he : e = .nilIface
    · exact .inl ⟨hs, .inr (.inr ⟨he, ⟨q1, q2, q3, q5, q6⟩, fun hc => absurd hc q4⟩)⟩
    · exact .inl ⟨hs, .inr (.inl ⟨he, q6⟩)⟩
  have fail : SameD n.s n'.s → e ≠ .nilIface → op.kd ≠ 18 → DirStep op n e n' tr := fun hs he q => .inl ⟨hs, .inr (.inl ⟨he, q⟩)⟩
  cases h using StepR.ind with
  | dwsec hk h => exact keep (SameD.refl _) ⟨by omega, by omega, by omega, by omega, by omega, by omega⟩
  | dwrite hk h => exact keep (SameD.refl _) ⟨by omega, by omega, by omega, by omega, by omega, by omega⟩
  | dread hk => exact keep (SameD.refl _) ⟨by omega, by omega, by omega, by omega, by omega, by omega⟩
  | dsync hk h => exact keep (SameD.refl _) ⟨by omega, by omega, by omega, by omega, by omega, by omega⟩
  | create hk h =>
    rename_i s'
    rcases h with ⟨_, hv, rfl⟩ | ⟨hspd, ⟨_, hv, rfl⟩ | ⟨_, _, hv, rfl⟩ | ⟨hvn, hm, hv, i, b, pb, hsp, hb, rfl⟩⟩
    · exact fail (SameD.refl _) (eE (by decide) (by decide) hv) (by omega)
    · exact fail (SameD.refl _) (eE (by decide) (by decide) hv) (by omega)
    · exact fail (SameD.refl _) (eE (by decide) (by decide) hv) (by omega)
    · refine .inr (.inl ⟨spend_on hspd, hv, ⟨rfl, ⟨_, rfl⟩, fun x hx => ?_, fun x hx => ?_⟩, .inl hk⟩)
      · show (oset n.s.O b _ x).id = _
        unfold oset
        rw [if_neg (fun hc : x = b => hb (by rw [← hc]; exact hx))]
      · by_cases hxn : x = op.nm
        · exact .inr (hxn ▸ hvn)
        · have hx' : mset n.s.m op.nm (some b) x ≠ none := hx
          unfold mset at hx'
          rw [if_neg hxn] at hx'
          exact .inl hx'
  | write hk h =>
    refine keep ?_ ⟨by omega, by omega, by omega, by omega, by omega, by omega⟩
    rcases h with ⟨_, _, rfl⟩ | ⟨_, ⟨_, _, rfl⟩ | ⟨b, _, ⟨_, _, rfl⟩ | ⟨_, ⟨_, _, rfl⟩ | ⟨hp, _⟩⟩⟩⟩
    · exact SameD.refl _
    · exact SameD.refl _
    · exact SameD.refl _
    · exact SameD.refl _
    · exact putF_id hp
  | append hk h =>
    refine keep ?_ ⟨by omega, by omega, by omega, by omega, by omega, by omega⟩
    rcases h with ⟨_, _, rfl⟩ | ⟨_, ⟨_, _, rfl⟩ | ⟨b, _, ⟨_, _, rfl⟩ | ⟨hp, _⟩⟩⟩
    · exact SameD.refl _
    · exact SameD.refl _
    · exact SameD.refl _
    · exact putF_id hp
  | trunc hk h =>
    refine keep ?_ ⟨by omega, by omega, by omega, by omega, by omega, by omega⟩
    rcases h with ⟨_, _, rfl⟩ | ⟨_, ⟨_, _, rfl⟩ | ⟨b, _, ⟨_, _, rfl⟩ | ⟨_, ⟨_, _, rfl⟩ | ⟨hp, _⟩⟩⟩⟩
    · exact SameD.refl _
    · exact SameD.refl _
    · exact SameD.refl _
    · exact SameD.refl _
    · exact truncF_id hp
  | read hk h => exact keep (SameD.refl _) ⟨by omega, by omega, by omega, by omega, by omega, by omega⟩
  | stat hk => exact keep (SameD.refl _) ⟨by omega, by omega, by omega, by omega, by omega, by omega⟩
  | list hk => exact keep (SameD.refl _) ⟨by omega, by omega, by omega, by omega, by omega, by omega⟩
  | sync hk h =>
    refine keep ?_ ⟨by omega, by omega, by omega, by omega, by omega, by omega⟩
    rcases h with ⟨_, _, rfl⟩ | ⟨_, ⟨_, _, rfl⟩ | ⟨b, P', _, _, _, rfl⟩⟩
    · exact SameD.refl _
    · exact SameD.refl _
    · exact hardS_id
  | syncDir hk h =>
    rcases h with ⟨_, hv, rfl⟩ | ⟨hsp, hv, rfl⟩
    · exact fail (SameD.refl _) (eE (by decide) (by decide) hv) (by omega)
    · exact .inr (.inr (.inl ⟨spend_on hsp, hv, .inl hk, rfl, rfl, rfl, fun _ => rfl⟩))
  | syncAll hk h =>
    rcases h with ⟨_, hv, rfl⟩ | ⟨hsp, hv, bs, ha, _, _⟩
    · exact fail (SameD.refl _) (eE (by decide) (by decide) hv) (by omega)
    · obtain ⟨a1, a2, a3, a4, a5, a6, a7⟩ := ha.same
      exact .inr (.inr (.inl ⟨spend_on hsp, hv, .inr hk, a2, a4, a5, a7⟩))
  | rename hk h =>
    rcases h with ⟨_, hv, rfl⟩ | ⟨hsp, ⟨_, hv, rfl⟩ | ⟨_, _, hv, rfl⟩ | ⟨b, hvt, hf, heq, hv, rfl⟩ | ⟨b, ys, hvt, hf, hne, hv, hr, rfl⟩⟩
    · exact fail (SameD.refl _) (eE (by decide) (by decide) hv) (by omega)
    · exact fail (SameD.refl _) (eE (by decide) (by decide) hv) (by omega)
    · exact fail (SameD.refl _) (eF hv) (by omega)
    · exact .inl ⟨SameD.refl _, .inr (.inr ⟨hv, ⟨by omega, by omega, by omega, by omega, by omega⟩, fun _ => ⟨heq, spend_ok hsp, rfl, b, hf⟩⟩)⟩
    · refine .inr (.inl ⟨spend_on hsp, hv, ⟨rfl, ⟨_, rfl⟩, fun _ _ => rfl, fun x hx => ?_⟩, .inr (.inr ⟨hk, hne, spend_ok hsp, hvt, b, ys, hf, rfl⟩)⟩)
      by_cases hxt : x = op.to
      · exact .inr (hxt ▸ hvt)
      · have hx' : mset (mset n.s.m op.nm none) op.to (some b) x ≠ none := hx
        unfold mset at hx'
        rw [if_neg hxt] at hx'
        split at hx'
        · exact absurd rfl hx'
        · exact .inl hx'
  | delete hk h =>
    rcases h with ⟨_, hv, rfl⟩ | ⟨hsp, ⟨_, hv, rfl⟩ | ⟨b, i, hf, hv, hi, rfl⟩⟩
    · exact fail (SameD.refl _) (eE (by decide) (by decide) hv) (by omega)
    · exact fail (SameD.refl _) (eF hv) (by omega)
    · refine .inr (.inl ⟨spend_on hsp, hv, ⟨rfl, ⟨_, rfl⟩, fun _ _ => rfl, fun x hx => ?_⟩, .inr (.inl hk)⟩)
      have hx' : mset n.s.m op.nm none x ≠ none := hx
      unfold mset at hx'
      split at hx'
      · exact absurd rfl hx'
      · exact .inl hx'
  | publish hk h => exact absurd hk h15
  | burst hk h => exact absurd hk h16
  | arm hk h => exact keep (SameD.refl _) ⟨by omega, by omega, by omega, by omega, by omega, by omega⟩
  | crash hk h =>
    obtain ⟨h0, kp, h1, h2, h3⟩ := crash_last h
    exact .inr (.inr (.inr ⟨h0, hk, rfl, kp, h1, h2, h3⟩))
  | other hk =>
    refine keep (SameD.refl _) ⟨hk 3 (by decide), hk 11 (by decide), hk 12 (by decide), hk 13 (by decide), hk 14 (by decide), hk 18 (by decide)⟩

end Go.Proofs.Qxb6500695aGreatFmt
