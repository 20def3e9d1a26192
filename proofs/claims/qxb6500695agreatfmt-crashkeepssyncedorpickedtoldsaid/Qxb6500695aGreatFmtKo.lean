/-
  WHAT A STEP DOES, AGAINST THE BOOKS (no Go in sight).
-/
import Derived.Test.Qxb6500695aGreatFmtKn
import Derived.Test.Qxb6500695aGreatFmtQc
namespace Go.Proofs.Qxb6500695aGreatFmt
open Go Go.Eng Go.Proofs
set_option maxRecDepth 100000
set_option linter.unusedVariables false
set_option linter.unusedSimpArgs false
set_option linter.unusedSectionVars false

section
variable {E : Nat → Value} {ss ns cap M : Nat} {op : OpV} {n n' : NdV} {e : Value} {m : Int} {tr : List Ask} {s s' : StV} {P : Pw}

theorem StepR.nm (h : StepR E ss ns cap op n e m n' tr) (hE : ENe E) (hI : StI ss cap M n.s) (hb : M + 4 < 2 ^ 28) (h15 : op.kd ≠ 15) (h16 : op.kd ≠ 16) (hn : NmI n.s) : NmI n'.s := by
  rcases h.dir hI hE h15 h16 with ⟨h1, _⟩ | ⟨_, _, h1, _⟩ | ⟨_, _, _, h1⟩ | ⟨_, _, _, kp, h1, _⟩
  · exact hn.same h1
  · exact hn.grow h1 hI (h.inv hI hb)
  · exact hn.comm h1
  · exact hn.crash h1

theorem StepR.k0 (h : StepR E ss ns cap op n e m n' tr) (hk : op.kd = 0) (he : e = .nilIface) : n'.pw.down = false ∧ n'.s = n.s ∧ ∃ o : Nat, op.off = (o : Int) ∧ o + op.data.length ≤ ns * ss ∧ n'.D = wrF ss op.data.length n.D o op.data := by
  cases h using StepR.ind with
  | dwsec p0 p1 =>
    rcases p1.1 with ⟨_, hne, _⟩ | ⟨hsp, _, hl, j, hj, hjn, hD⟩
    · exact absurd he hne
    · refine ⟨spend_on hsp, rfl, j * ss, ?_, ?_, hD⟩
      · rw [p1.2, hj]; simp
      · rw [hl]
        have : (j + 1) * ss ≤ ns * ss := Nat.mul_le_mul_right _ hjn
        rw [Nat.add_mul, Nat.one_mul] at this
        exact this
  | dwrite p0 p1 =>
    rcases p1 with ⟨n1, e1, hv, _, hne, _⟩ | ⟨hsp, hv, o, ho, hle, hD⟩
    · simp at hv
      rw [he] at hv
      exact absurd hv.2.symm hne
    · exact ⟨spend_on hsp, rfl, o, ho, hle, hD⟩
  | other p0 => exact absurd hk (p0 0 (by decide))
  | _ => omega

theorem StepR.k2 (h : StepR E ss ns cap op n e m n' tr) (hk : op.kd = 2) (he : e = .nilIface) (hE : ENe E) : n'.pw.down = false ∧ n'.s = n.s ∧ n'.D.clean ∧ ∀ i, n'.D.dur i = n.D.lat i := by
  cases h using StepR.ind with
  | dsync p0 p1 =>
    rcases p1 with ⟨hv, _⟩ | ⟨hsp, _, h1, h2⟩
    · exact absurd (hv.symm.trans he) (hE 0 (by decide) (by decide))
    · exact ⟨spend_on hsp, rfl, h1, h2⟩
  | other p0 => exact absurd hk (p0 2 (by decide))
  | _ => omega

theorem StepR.k3 (h : StepR E ss ns cap op n e m n' tr) (hk : op.kd = 3) (he : e = .nilIface) (hE : ENe E) : n'.pw.down = false ∧ n'.D = n.D ∧ vn op.nm = true ∧ ∃ i b pb, b ∉ n.s.T ∧ n'.s = createS n.s op.nm i b pb := by
  cases h using StepR.ind with
  | create p0 p1 =>
    rcases p1 with ⟨_, hv, _⟩ | ⟨hsp, ⟨_, hv, _⟩ | ⟨_, _, hv, _⟩ | ⟨hvn, _, _, i, b, pb, _, hb, hs⟩⟩
    · exact absurd (hv.symm.trans he) (hE 0 (by decide) (by decide))
    · exact absurd (hv.symm.trans he) (hE 4 (by decide) (by decide))
    · exact absurd (hv.symm.trans he) (hE 7 (by decide) (by decide))
    · exact ⟨spend_on hsp, rfl, hvn, i, b, pb, hb, hs⟩
  | other p0 => exact absurd hk (p0 3 (by decide))
  | _ => omega

theorem StepR.k4 (h : StepR E ss ns cap op n e m n' tr) (hk : op.kd = 4) (he : e = .nilIface) (hE : ENe E) : n'.pw.down = false ∧ n'.D = n.D ∧ ∃ b o : Nat, op.off = (o : Int) ∧ fnd n.s op.nm = some b ∧ putF ss cap n.s b o op.data = some n'.s := by
  cases h using StepR.ind with
  | write p0 p1 =>
    rcases p1 with ⟨_, hv, _⟩ | ⟨hsp, ⟨_, hv, _⟩ | ⟨b, hf, ⟨_, hv, _⟩ | ⟨h0, ⟨_, hv, _⟩ | ⟨hp, _⟩⟩⟩⟩
    · simp at hv; exact absurd (hv.2.symm.trans he) (hE 0 (by decide) (by decide))
    · simp at hv; exact absurd (hv.2.symm.trans he) (hE.fe _)
    · simp at hv; exact absurd (hv.2.symm.trans he) (hE 3 (by decide) (by decide))
    · simp at hv; exact absurd (hv.2.symm.trans he) (hE 1 (by decide) (by decide))
    · exact ⟨spend_on hsp, rfl, b, op.off.toNat, by omega, hf, hp⟩
  | other p0 => exact absurd hk (p0 4 (by decide))
  | _ => omega

theorem StepR.k5 (h : StepR E ss ns cap op n e m n' tr) (hk : op.kd = 5) (he : e = .nilIface) (hE : ENe E) : n'.pw.down = false ∧ n'.D = n.D ∧ ∃ b : Nat, fnd n.s op.nm = some b ∧ m = ((n.s.O b).size : Int) ∧ putF ss cap n.s b (n.s.O b).size op.data = some n'.s := by
  cases h using StepR.ind with
  | append p0 p1 =>
    rcases p1 with ⟨_, hv, _⟩ | ⟨hsp, ⟨_, hv, _⟩ | ⟨b, hf, ⟨_, hv, _⟩ | ⟨hp, hv⟩⟩⟩
    · simp at hv; exact absurd (hv.2.symm.trans he) (hE 0 (by decide) (by decide))
    · simp at hv; exact absurd (hv.2.symm.trans he) (hE.fe _)
    · simp at hv; exact absurd (hv.2.symm.trans he) (hE 1 (by decide) (by decide))
    · simp at hv; exact ⟨spend_on hsp, rfl, b, hf, hv.1, hp⟩
  | other p0 => exact absurd hk (p0 5 (by decide))
  | _ => omega

theorem StepR.k6 (h : StepR E ss ns cap op n e m n' tr) (hk : op.kd = 6) (he : e = .nilIface) (hE : ENe E) : n'.pw.down = false ∧ n'.D = n.D ∧ ∃ b z : Nat, op.n = (z : Int) ∧ fnd n.s op.nm = some b ∧ truncF ss cap n.s b z = some n'.s := by
  cases h using StepR.ind with
  | trunc p0 p1 =>
    rcases p1 with ⟨_, hv, _⟩ | ⟨hsp, ⟨_, hv, _⟩ | ⟨b, hf, ⟨_, hv, _⟩ | ⟨h0, ⟨_, hv, _⟩ | ⟨hp, _⟩⟩⟩⟩
    · exact absurd (hv.symm.trans he) (hE 0 (by decide) (by decide))
    · exact absurd (hv.symm.trans he) (hE.fe _)
    · exact absurd (hv.symm.trans he) (hE 3 (by decide) (by decide))
    · exact absurd (hv.symm.trans he) (hE 1 (by decide) (by decide))
    · exact ⟨spend_on hsp, rfl, b, op.n.toNat, by omega, hf, hp⟩
  | other p0 => exact absurd hk (p0 6 (by decide))
  | _ => omega

theorem StepR.k10 (h : StepR E ss ns cap op n e m n' tr) (hk : op.kd = 10) (he : e = .nilIface) (hE : ENe E) : n'.pw.down = false ∧ n'.D = n.D ∧ ∃ b P', fnd n.s op.nm = some b ∧ hardP ss (n.s.O b) P' ∧ n'.s = hardS ss n.s b P' := by
  cases h using StepR.ind with
  | sync p0 p1 =>
    rcases p1 with ⟨_, hv, _⟩ | ⟨hsp, ⟨_, hv, _⟩ | ⟨b, P', hf, _, hh, hs⟩⟩
    · exact absurd (hv.symm.trans he) (hE 0 (by decide) (by decide))
    · exact absurd (hv.symm.trans he) (hE.fe _)
    · exact ⟨spend_on hsp, rfl, b, P', hf, hh, hs⟩
  | other p0 => exact absurd hk (p0 10 (by decide))
  | _ => omega

theorem StepR.k12 (h : StepR E ss ns cap op n e m n' tr) (hk : op.kd = 12) (he : e = .nilIface) (hE : ENe E) : n'.pw.down = false ∧ n'.D = n.D ∧ ∃ bs, HardAll ss (comS n.s) bs n'.s ∧ bs.Nodup ∧ ∀ b, b ∈ bs ↔ ∃ x, n.s.m x = some b := by
  cases h using StepR.ind with
  | syncAll p0 p1 =>
    rcases p1 with ⟨_, hv, _⟩ | ⟨hsp, _, bs, h1, h2, h3⟩
    · exact absurd (hv.symm.trans he) (hE 0 (by decide) (by decide))
    · exact ⟨spend_on hsp, rfl, bs, h1, h2, h3⟩
  | other p0 => exact absurd hk (p0 12 (by decide))
  | _ => omega

theorem StepR.k18 (h : StepR E ss ns cap op n e m n' tr) (hk : op.kd = 18) : ndCrash ss ns cap n tr n' := by
  cases h using StepR.ind with
  | crash p0 p1 => exact p1
  | other p0 => exact absurd hk (p0 18 (by decide))
  | _ => omega

/-- What leaves the objects. -/
def Quiet (n n' : NdV) : Prop := n'.D = n.D ∧ n'.s.T = n.s.T ∧ n'.s.O = n.s.O ∧ n'.s.nxt = n.s.nxt

/-- The steps that leave all objects and the device. -/
theorem StepR.quiet (h : StepR E ss ns cap op n e m n' tr) (hE : ENe E) (h15 : op.kd ≠ 15) (h16 : op.kd ≠ 16) (h18 : op.kd ≠ 18) (hq : e ≠ .nilIface ∨ (op.kd ≠ 0 ∧ op.kd ≠ 2 ∧ op.kd ≠ 3 ∧ op.kd ≠ 4 ∧ op.kd ≠ 5 ∧ op.kd ≠ 6 ∧ op.kd ≠ 10 ∧ op.kd ≠ 12)) : Quiet n n' := by
  have same : ∀ {P' : Pw} {s' : StV}, s' = n.s → Quiet n ⟨P', n.D, s'⟩ := fun hs => by rw [hs]; exact ⟨rfl, rfl, rfl, rfl⟩
  cases h using StepR.ind with
  | dwsec p0 p1 =>
    rcases hq with hq | hq
    · rcases p1.1 with ⟨_, _, hD⟩ | ⟨_, hv, _⟩
      · rw [hD]; exact ⟨rfl, rfl, rfl, rfl⟩
      · exact absurd hv hq
    · exact absurd p0 hq.1
  | dwrite p0 p1 =>
    rcases hq with hq | hq
    · rcases p1 with ⟨_, _, _, _, _, hD⟩ | ⟨_, hv, _⟩
      · rw [hD]; exact ⟨rfl, rfl, rfl, rfl⟩
      · simp at hv; exact absurd hv.2 hq
    · exact absurd p0 hq.1
  | dread p0 => exact ⟨rfl, rfl, rfl, rfl⟩
  | dsync p0 p1 =>
    rcases hq with hq | hq
    · rcases p1 with ⟨_, hD⟩ | ⟨_, hv, _⟩
      · rw [hD]; exact ⟨rfl, rfl, rfl, rfl⟩
      · exact absurd hv hq
    · exact absurd p0 hq.2.1
  | create p0 p1 =>
    rcases hq with hq | hq
    · rcases p1 with ⟨_, _, hs⟩ | ⟨_, ⟨_, _, hs⟩ | ⟨_, _, _, hs⟩ | ⟨_, _, hv, _⟩⟩
      · exact same hs
      · exact same hs
      · exact same hs
      · exact absurd hv hq
    · exact absurd p0 hq.2.2.1
  | write p0 p1 =>
    rcases hq with hq | hq
    · rcases p1 with ⟨_, _, hs⟩ | ⟨_, ⟨_, _, hs⟩ | ⟨b, _, ⟨_, _, hs⟩ | ⟨_, ⟨_, _, hs⟩ | ⟨_, hv⟩⟩⟩⟩
      · exact same hs
      · exact same hs
      · exact same hs
      · exact same hs
      · simp at hv; exact absurd hv.2 hq
    · exact absurd p0 hq.2.2.2.1
  | append p0 p1 =>
    rcases hq with hq | hq
    · rcases p1 with ⟨_, _, hs⟩ | ⟨_, ⟨_, _, hs⟩ | ⟨b, _, ⟨_, _, hs⟩ | ⟨_, hv⟩⟩⟩
      · exact same hs
      · exact same hs
      · exact same hs
      · simp at hv; exact absurd hv.2 hq
    · exact absurd p0 hq.2.2.2.2.1
  | trunc p0 p1 =>
    rcases hq with hq | hq
    · rcases p1 with ⟨_, _, hs⟩ | ⟨_, ⟨_, _, hs⟩ | ⟨b, _, ⟨_, _, hs⟩ | ⟨_, ⟨_, _, hs⟩ | ⟨_, hv⟩⟩⟩⟩
      · exact same hs
      · exact same hs
      · exact same hs
      · exact same hs
      · exact absurd hv hq
    · exact absurd p0 hq.2.2.2.2.2.1
  | read p0 p1 => exact ⟨rfl, rfl, rfl, rfl⟩
  | stat p0 => exact ⟨rfl, rfl, rfl, rfl⟩
  | list p0 => exact ⟨rfl, rfl, rfl, rfl⟩
  | sync p0 p1 =>
    rcases hq with hq | hq
    · rcases p1 with ⟨_, _, hs⟩ | ⟨_, ⟨_, _, hs⟩ | ⟨b, P', _, hv, _⟩⟩
      · exact same hs
      · exact same hs
      · exact absurd hv hq
    · exact absurd p0 hq.2.2.2.2.2.2.1
  | syncDir p0 p1 =>
    rcases p1 with ⟨_, _, hs⟩ | ⟨_, _, hs⟩
    · exact same hs
    · rw [hs]; exact ⟨rfl, rfl, rfl, rfl⟩
  | syncAll p0 p1 =>
    rcases hq with hq | hq
    · rcases p1 with ⟨_, _, hs⟩ | ⟨_, hv, _⟩
      · exact same hs
      · exact absurd hv hq
    · exact absurd p0 hq.2.2.2.2.2.2.2
  | rename p0 p1 =>
    rcases p1 with ⟨_, _, hs⟩ | ⟨_, ⟨_, _, hs⟩ | ⟨_, _, _, hs⟩ | ⟨b, _, _, _, _, hs⟩ | ⟨b, ys, _, _, _, _, _, hs⟩⟩
    · exact same hs
    · exact same hs
    · exact same hs
    · exact same hs
    · rw [hs]; exact ⟨rfl, rfl, rfl, rfl⟩
  | delete p0 p1 =>
    rcases p1 with ⟨_, _, hs⟩ | ⟨_, ⟨_, _, hs⟩ | ⟨b, i, _, _, _, hs⟩⟩
    · exact same hs
    · exact same hs
    · rw [hs]; exact ⟨rfl, rfl, rfl, rfl⟩
  | publish p0 p1 => exact absurd p0 h15
  | burst p0 p1 => exact absurd p0 h16
  | arm p0 p1 => exact ⟨rfl, rfl, rfl, rfl⟩
  | crash p0 p1 => exact absurd p0 h18
  | other p0 => exact ⟨rfl, rfl, rfl, rfl⟩

theorem resv_O2 {b size : Nat} (h : resv ss cap s b size = some s') : ∃ r, s'.O b = { s.O b with res := r } := by
  unfold resv at h
  split at h
  · cases h; exact ⟨(s.O b).res, rfl⟩
  · split at h
    · cases h
    · cases h
      exact ⟨sect ss size, oset_same⟩

theorem put_O {b off : Nat} {src : List Int} (h : putF ss cap s b off src = some s') : s'.T = s.T ∧ s'.m = s.m ∧ s'.nxt = s.nxt ∧ (∀ x, x ≠ b → s'.O x = s.O x) ∧ ((src = [] ∧ s' = s) ∨ (src ≠ [] ∧ off + src.length ≤ cap * ss ∧ ∃ r, s'.O b = wrOb ss { s.O b with res := r } off src)) := by
  unfold putF at h
  split at h
  · rename_i hd; cases h; exact ⟨rfl, rfl, rfl, fun _ _ => rfl, .inl ⟨hd, rfl⟩⟩
  · rename_i hd
    split at h
    · cases h
    · rename_i hle
      split at h
      · cases h
      · rename_i t1 ht
        cases h
        obtain ⟨r1, _, _⟩ := resv_O ht
        obtain ⟨r, hr⟩ := resv_O2 ht
        obtain ⟨q1, q2, q3, q4, q5, q6, q7, q8⟩ := resv_some ht
        refine ⟨q1, q2, q6, fun x hx => ?_, .inr ⟨hd, by omega, r, ?_⟩⟩
        · show oset t1.O b _ x = _
          simp only [oset]
          rw [if_neg hx, r1 x hx]
        · show oset t1.O b _ b = _
          rw [oset_same, hr]

theorem trunc_O {b z : Nat} (h : truncF ss cap s b z = some s') : s'.T = s.T ∧ s'.m = s.m ∧ s'.nxt = s.nxt ∧ (∀ x, x ≠ b → s'.O x = s.O x) ∧ z ≤ cap * ss ∧ ∃ r, s'.O b = truncOb ss { s.O b with res := r } z := by
  unfold truncF at h
  split at h
  · cases h
  · rename_i hle
    split at h
    · cases h
    · rename_i t1 ht
      cases h
      obtain ⟨r1, _, _⟩ := resv_O ht
      obtain ⟨r, hr⟩ := resv_O2 ht
      obtain ⟨q1, q2, q3, q4, q5, q6, q7, q8⟩ := resv_some ht
      refine ⟨q1, q2, q6, fun x hx => ?_, by omega, r, ?_⟩
      · show oset t1.O b _ x = _
        simp only [oset]
        rw [if_neg hx, r1 x hx]
      · show oset t1.O b _ b = _
        rw [oset_same, hr]

/-- Objects hardened, each once. -/
theorem HardAll.fates {bs : List Nat} (h : HardAll ss (comS s) bs s') (hn : bs.Nodup) : (∀ b ∈ bs, ∃ P', hardP ss (s.O b) P' ∧ s'.O b = hardOb ss (s.O b) P') ∧ ∀ b, b ∉ bs → s'.O b = s.O b := by
  induction h using HardAll.ind with
  | nil => exact ⟨fun b hb => (by cases hb), fun _ _ => rfl⟩
  | snoc h1 h2 ih =>
    rename_i bs s1 b P'
    rw [List.nodup_append] at hn
    obtain ⟨hn1, _, hn2⟩ := hn
    have hbn : b ∉ bs := fun hc => hn2 b hc b (by simp) rfl
    obtain ⟨i1, i2⟩ := ih hn1
    have hOb : s1.O b = s.O b := i2 b hbn
    have hO' : ∀ x, x ≠ b → (hardS ss s1 b P').O x = s1.O x := fun x hx => by
      show oset s1.O b _ x = _
      simp only [oset]
      rw [if_neg hx]
    refine ⟨fun c hc => ?_, fun c hc => ?_⟩
    · rcases List.mem_append.1 hc with hc | hc
      · obtain ⟨Q', h3, h4⟩ := i1 c hc
        exact ⟨Q', h3, by rw [hO' c fun hx => hbn (hx ▸ hc)]; exact h4⟩
      · rw [List.mem_singleton.1 hc]
        refine ⟨P', by rw [← hOb]; exact h2, ?_⟩
        show oset s1.O b _ b = _
        rw [oset_same, hOb]
    · have h4 : c ≠ b := fun hx => hc (by rw [hx]; simp)
      rw [hO' c h4]
      exact i2 c fun hx => hc (List.mem_append_left _ hx)

end

end Go.Proofs.Qxb6500695aGreatFmt
