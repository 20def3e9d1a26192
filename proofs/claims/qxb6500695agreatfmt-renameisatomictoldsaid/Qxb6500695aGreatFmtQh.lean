/-
  RENAME IS ATOMIC: ONE STEP, WHOLE.
-/
import Derived.Test.Qxb6500695aGreatFmtQg
namespace Go.Proofs.Qxb6500695aGreatFmt
open Go Go.Eng Go.Proofs
set_option maxRecDepth 100000
set_option linter.unusedVariables false
set_option linter.unusedSimpArgs false
set_option linter.unusedSectionVars false

theorem Ro.of42 {tg : Nat × Int} (h : tg = (42, 0)) : Ro tg := fun hc => by rw [h] at hc; cases hc
theorem Ro.k {k : Int} {tg : Nat × Int} (h : SpK k tg) : Ro tg := fun hc => SpK.zero (hc ▸ h)

theorem ndset_same {nd : Nat → NdV} {k : Nat} {n : NdV} : ndset nd k n k = n := by simp [ndset]
theorem ndset_ne {nd : Nat → NdV} {k j : Nat} {n : NdV} (h : j ≠ k) : ndset nd k n j = nd j := by simp [ndset, h]
theorem ndset_id {nd : Nat → NdV} {k : Nat} : ndset nd k (nd k) = nd := by
  funext j
  unfold ndset
  split
  · rename_i h; rw [h]
  · rfl

/-- What is known when a step has been played and the directory has been read. -/
structure Played (E : Nat → Value) (p : Option Addr) (n : Nat) (ops : List OpV) (rb sb4 : Nat) (H0 : Heap) (g0 : Gh) (i k sb : Nat) (op : OpV) (nd : Nat → NdV) (fs : Nat → List Dr) (e : Value) (n' : NdV) (tr : List Ask) (bd M r rl : Nat) (H : Heap) (g : Gh) : Prop where
  hk : k < 3
  hi : i < 65536
  hE : Ev Ro H0 g0 H g
  hF : F4 E p n ops rb sb4 H g bd M (ndset nd k n') fs
  hst : ∀ j, j < 3 → Stood (nd j).s (fs j)
  hs : StAt H g rb k sb
  hb : bd ≤ 80 * (i + 1)
  hM : M ≤ 4 * (i + 1)
  hI : ∃ N, StI (shS k) (shC k) N (nd k).s ∧ StI (shS k) (shC k) (N + 4) n'.s
  hD : DirStep op (nd k) e n' tr
  hup : n'.pw.down = false
  hr : DirM H g r (dirN n'.s)
  hl : DirM H g rl (dirN (nd k).s)

section
variable {H0 H : Heap} {g0 g : Gh} {p : Option Addr} {n c : Nat} {ops : List OpV} {E : Nat → Value} {rb sb4 i k sb : Nat} {op : OpV} {nd : Nat → NdV} {fs : Nat → List Dr} {e : Value} {n' : NdV} {tr : List Ask} {bd M r rl : Nat}

theorem Played.off42 {H' : Heap} {g' : Gh} (h : Played E p n ops rb sb4 H0 g0 i k sb op nd fs e n' tr bd M r rl H g) (ev : Ev (fun tg => tg = (42, 0)) H g H' g') : Played E p n ops rb sb4 H0 g0 i k sb op nd fs e n' tr bd M r rl H' g' :=
  have n0 : ¬ ((fun tg : Nat × Int => tg = (42, 0)) (0, 0)) := fun hc => by cases hc
  ⟨h.hk, h.hi, h.hE.trans (ev.mono fun tg ht => Ro.of42 ht), h.hF.off42 ev, h.hst, h.hs.off ev off42N, h.hb, h.hM, h.hI, h.hD, h.hup, h.hr.ev ev n0, h.hl.ev ev n0⟩

theorem Played.others (h : Played E p n ops rb sb4 H0 g0 i k sb op nd fs e n' tr bd M r rl H g) : ∀ j, j < 3 → j ≠ k → Stood (ndset nd k n' j).s (fs j) := fun j hj hjk => by
  rw [ndset_ne hjk]; exact h.hst j hj

/-- The directory is as it was: the step is over. -/
theorem Played.same (h : Played E p n ops rb sb4 H0 g0 i k sb op nd fs e n' tr bd M r rl H g) (hgo : Goes E p n c ops rb sb4 i H0 g0) (hsame : SameD (nd k).s n'.s) : f4_L10 (some ⟨rb, 0, none⟩) sb4 (k : Int) (some ⟨sb, 0, none⟩) p n c (n : Int) (i : Int) H (post4 H0 g0) := by
  refine f4_L10_ht hgo h.hk h.hE h.hF (fun j hj => ?_) h.hs h.hb h.hM h.hi
  by_cases hjk : j = k
  · subst hjk
    rw [ndset_same]
    exact (h.hst _ hj).same hsame
  · exact h.others j hj hjk

/-- It is compared, found as it was, and the step is over. -/
theorem Played.eq (h : Played E p n ops rb sb4 H0 g0 i k sb op nd fs e n' tr bd M r rl H g) (hgo : Goes E p n c ops rb sb4 i H0 g0) (hsame : SameD (nd k).s n'.s) :
    HT Tryz.prog 33 [.map (some r), .map (some rl)] H fun v hp => ∃ x : Bool, v = .bool x ∧ (((!x) = true → post4 H0 g0 (.bool false) hp) ∧ ((!x) = false → f4_L10 (some ⟨rb, 0, none⟩) sb4 (k : Int) (some ⟨sb, 0, none⟩) p n c (n : Int) (i : Int) hp (post4 H0 g0))) := by
  have hr := h.hr
  rw [hsame.dirN] at hr
  exact (f33_ht h.hF.ok hr h.hl).mono fun v H1 ⟨hv, g1, e1⟩ => ⟨true, hv, (fun h => by cases h), fun _ => (h.off42 e1).same hgo hsame⟩

/-- The directory has grown by one change. -/
theorem Played.grown (h : Played E p n ops rb sb4 H0 g0 i k sb op nd fs e n' tr bd M r rl H g) (hg : GrowD (nd k).s n'.s) : Stood (ndset nd k n' k).s (fs k ++ [dirN (ndset nd k n' k).s]) := by
  obtain ⟨N, h1, h2⟩ := h.hI
  rw [ndset_same]
  exact (h.hst k h.hk).grow hg h1 h2

theorem Played.hr' (h : Played E p n ops rb sb4 H0 g0 i k sb op nd fs e n' tr bd M r rl H g) : DirM H g r (dirN (ndset nd k n' k).s) := by
  rw [ndset_same]; exact h.hr

theorem Played.lone (h : Played E p n ops rb sb4 H0 g0 i k sb op nd fs e n' tr bd M r rl H g) (hj : n'.s.jr = []) : Stood (ndset nd k n' k).s [dirN (ndset nd k n' k).s] := by
  obtain ⟨N, h1, h2⟩ := h.hI
  rw [ndset_same]
  exact Stood.one hj h2

/-- A sync of the directory. -/
theorem L6_sync {bp : Option Addr} {bn bc : Nat} (h : Played E p n ops rb sb4 H0 g0 i k sb op nd fs e n' tr bd M r rl H g) (hgo : Goes E p n c ops rb sb4 i H0 g0) (he : e = .nilIface) (hkd : op.kd = 11 ∨ op.kd = 12) :
    f4_L6 (some ⟨rb, 0, none⟩) sb4 op.kd op.node op.nm op.to op.off op.n op.dp op.dn op.dc op.pp op.pn op.pc (k : Int) (some ⟨sb, 0, none⟩) bp bn bc (some r) (some rl) p n c (n : Int) (i : Int) true H (post4 H0 g0) := by
  have hc : CommD (nd k).s n'.s := by
    rcases h.hD with ⟨_, hd | ⟨hne, _⟩ | ⟨_, ⟨q1, q2, q3, q4, q5⟩, _⟩⟩ | ⟨_, _, _, hg⟩ | ⟨_, _, _, hc⟩ | ⟨_, hx, _⟩
    · rw [h.hup] at hd; cases hd
    · exact absurd he hne
    · rcases hkd with hx | hx
      · exact absurd hx q2
      · exact absurd hx q3
    · omega
    · exact hc
    · omega
  have hr := h.hr
  rw [hc.dirN] at hr
  apply f4_L6_of
  refine ⟨fun _ => ?_, (fun h => by cases h)⟩
  refine (f33_ht h.hF.ok hr h.hl).mono fun v H1 ⟨hv, g1, e1⟩ => ⟨true, hv, (fun h => by cases h), fun _ => ?_⟩
  have h1 := h.off42 e1
  exact one_ht hgo h1.hk h1.hE h1.hF h1.others (h1.lone hc.jr) h1.hr' h1.hs h1.hb h1.hM h1.hi

/-- What neither syncs nor renames. -/
theorem L6_rest {bp : Option Addr} {bn bc : Nat} (h : Played E p n ops rb sb4 H0 g0 i k sb op nd fs e n' tr bd M r rl H g) (hgo : Goes E p n c ops rb sb4 i H0 g0) (he : e = .nilIface) (h11 : op.kd ≠ 11) (h12 : op.kd ≠ 12) (h13 : op.kd ≠ 13) (h18 : op.kd ≠ 18) :
    f4_L6 (some ⟨rb, 0, none⟩) sb4 op.kd op.node op.nm op.to op.off op.n op.dp op.dn op.dc op.pp op.pn op.pc (k : Int) (some ⟨sb, 0, none⟩) bp bn bc (some r) (some rl) p n c (n : Int) (i : Int) false H (post4 H0 g0) := by
  have grow : op.kd = 3 ∨ op.kd = 14 → f4_L9 (some ⟨rb, 0, none⟩) sb4 (k : Int) (some ⟨sb, 0, none⟩) (some r) (some rl) p n c (n : Int) (i : Int) true H (post4 H0 g0) := by
    intro hkd
    have hg : GrowD (nd k).s n'.s := by
      rcases h.hD with ⟨_, hd | ⟨hne, _⟩ | ⟨_, ⟨q1, q2, q3, q4, q5⟩, _⟩⟩ | ⟨_, _, hg, _⟩ | ⟨_, _, hx, _⟩ | ⟨_, hx, _⟩
      · rw [h.hup] at hd; cases hd
      · exact absurd he hne
      · rcases hkd with hx | hx
        · exact absurd hx q1
        · exact absurd hx q4
      · exact hg
      · omega
      · omega
    apply f4_L9_of
    exact ⟨fun _ => more_ht hgo h.hk h.hE h.hF h.others (h.grown hg) h.hr' h.hs h.hb h.hM h.hi, (fun h => by cases h)⟩
  have rest : op.kd ≠ 3 → op.kd ≠ 14 → f4_L9 (some ⟨rb, 0, none⟩) sb4 (k : Int) (some ⟨sb, 0, none⟩) (some r) (some rl) p n c (n : Int) (i : Int) false H (post4 H0 g0) := by
    intro h3 h14
    have hs : SameD (nd k).s n'.s := by
      rcases h.hD with ⟨hs, _⟩ | ⟨_, _, _, hx⟩ | ⟨_, _, hx, _⟩ | ⟨_, hx, _⟩
      · exact hs
      · omega
      · omega
      · omega
    apply f4_L9_of
    exact ⟨(fun h => by cases h), fun _ => h.eq hgo hs⟩
  apply f4_L6_of
  refine ⟨(fun h => by cases h), fun _ => ⟨fun hx => absurd (by simpa using hx) h13, fun _ => ⟨fun h3 => grow (.inl (by simpa using h3)), fun h3 => ?_⟩⟩⟩
  have h3' : op.kd ≠ 3 := by simpa using h3
  by_cases h14 : op.kd = 14
  · rw [show (op.kd == (14 : Int)) = true by simp [h14]]
    exact grow (.inr h14)
  · rw [show (op.kd == (14 : Int)) = false by simp [h14]]
    exact rest h3' h14

end

end Go.Proofs.Qxb6500695aGreatFmt
