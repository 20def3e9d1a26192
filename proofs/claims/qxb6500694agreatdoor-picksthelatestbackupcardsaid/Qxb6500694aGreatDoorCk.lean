/-
  CONTRACTS, PART K: known, usable.
-/
import Derived.Test.Qxb6500694aGreatDoorCg
namespace Go.Proofs.Qxb6500694aGreatDoor
open Go Go.Eng Go.Proofs
set_option maxRecDepth 100000
set_option linter.unusedVariables false
set_option linter.unusedSimpArgs false
set_option linter.unusedSectionVars false

def manOf : Value → Option Man
  | .agg #[.int .u64 a, .int .u64 b, .int .u32 c, .int .u64 d, .int .u64 e, .slice p n k] => some ⟨a, b, c, d, e, p, n, k⟩
  | _ => none

theorem manOf_val (m : Man) : manOf m.val = some m := rfl

def exitOk (m : Man) : List Hist → Bool
  | [] => true
  | h2 :: _ => decide (m.stop ≤ h2.br)

/-- Taken on the path of line. -/
def onp (m : Man) : List Hist → Bool → Bool
  | [], acc => acc
  | h :: r, acc => onp m r (if h.tl == m.tl then decide (m.start ≥ h.br) && exitOk m r else acc)

/-- usable. -/
def usF (esM : Array MapEntry) (line : List Hist) (at_ : Int) : Nat → Int → Int → Bool
  | 0, _, _ => false
  | d + 1, id, before => match (iget esM.toList id).bind manOf with
    | none => false
    | some m => if m.start > m.stop then false else if m.stop > at_ then false else if m.stop > before then false else
      if onp m line false then (if m.par == 0 then decide ((m.pn : Int) = 4) else usF esM line at_ d m.par m.start) else false

section
variable {H : Heap} {ba : Nat} {esM esL esH : Array MapEntry}

theorem f43_ht (hA : Arch H ba esM esL esH) (hG : Globs H) {q : Option Addr} {qn qc : Nat} {line : List Hist} (hr : ReadL H 3 Hist.cs q qn line) (hn : qn < 2 ^ 32) {at_ : Int} :
    ∀ (dd : Nat), dd < 2 ^ 32 → ∀ (id before : Int), HT Tryz.prog 43 [.pointer (some ⟨ba, 0, none⟩), .slice q qn qc, .int .u64 id, .int .u64 at_, .int .u64 before, .int .i64 (dd : Int)] H
      fun v H' => H' = H ∧ v = .bool (usF esM line at_ dd id before) := by
  intro dd
  induction dd with
  | zero =>
    intro hdd id before
    apply f43_of
    refine (f33_ht hA hG id).mono fun v h1 ⟨he, hv⟩ => ?_
    subst he
    have bad : ∀ {m : Man}, f43_L1 (some ⟨ba, 0, none⟩) q qn qc at_ ((0 : Nat) : Int) m.id m.par m.tl m.start m.stop m.pp m.pn m.pc true h1 fun v H' => H' = h1 ∧ v = .bool (usF esM line at_ 0 id before) := by
      intro m
      apply f43_L1_of
      exact ⟨fun _ => ⟨rfl, rfl⟩, fun h => by cases h⟩
    rcases hv with ⟨m, hg, hid, rfl⟩ | ⟨hg, t, x, rfl⟩
    · exact ⟨m.id, m.par, m.tl, m.start, m.stop, m.pp, m.pn, m.pc, _, rfl, fun _ => ⟨_, neqErr IsI.nil, (fun h => by cases h), fun _ => ⟨fun _ => bad, fun h => by cases h⟩⟩⟩
    · exact ⟨0, 0, 0, 0, 0, none, 0, 0, _, rfl, fun _ => ⟨_, neqErr (IsI.some _ _), fun _ => bad (m := Man.zero), fun h => by cases h⟩⟩
  | succ dd ih =>
    intro hdd id before
    apply f43_of
    refine (f33_ht hA hG id).mono fun v h1 ⟨he, hv⟩ => ?_
    subst he
    have bad : usF esM line at_ (dd + 1) id before = false → ∀ {m : Man}, f43_L1 (some ⟨ba, 0, none⟩) q qn qc at_ ((dd + 1 : Nat) : Int) m.id m.par m.tl m.start m.stop m.pp m.pn m.pc true h1 fun v H' => H' = h1 ∧ v = .bool (usF esM line at_ (dd + 1) id before) := by
      intro hf m
      apply f43_L1_of
      exact ⟨fun _ => ⟨rfl, by rw [hf]⟩, fun h => by cases h⟩
    rcases hv with ⟨m, hg, hid, rfl⟩ | ⟨hg, t, x, rfl⟩
    · have hu : usF esM line at_ (dd + 1) id before = if m.start > m.stop then false else if m.stop > at_ then false else if m.stop > before then false else
        if onp m line false then (if m.par == 0 then decide ((m.pn : Int) = 4) else usF esM line at_ dd m.par m.start) else false := by
        simp only [usF, hg, Option.bind_some, manOf_val]
      refine ⟨m.id, m.par, m.tl, m.start, m.stop, m.pp, m.pn, m.pc, _, rfl, fun _ => ⟨_, neqErr IsI.nil, (fun h => by cases h), fun _ => ⟨fun h0 => ?_, fun _ => ⟨fun c1 => ?_, fun c1 => ⟨fun c2 => ?_, fun c2 => ?_⟩⟩⟩⟩⟩
      · simp at h0; omega
      · refine bad ?_; rw [hu, if_pos (of_decide_eq_true c1)]
      · refine bad ?_; rw [hu, if_neg (of_decide_eq_false c1), if_pos (of_decide_eq_true c2)]
      · by_cases c3 : m.stop > before
        · rw [decide_eq_true c3]
          refine bad ?_; rw [hu, if_neg (of_decide_eq_false c1), if_neg (of_decide_eq_false c2), if_pos c3]
        · rw [decide_eq_false c3]
          rw [hu, if_neg (of_decide_eq_false c1), if_neg (of_decide_eq_false c2), if_neg c3]
          apply f43_L1_of
          refine ⟨(fun h => by cases h), fun _ => ?_⟩
          have hlen := hr.len
          have loop : ∀ (k i : Nat) (acc : Bool), i + k = qn → onp m (line.drop i) acc = onp m line false →
              f43_L2 (some ⟨ba, 0, none⟩) q qn qc at_ ((dd + 1 : Nat) : Int) m.id m.par m.tl m.start m.stop m.pp m.pn m.pc acc q qn qc (qn : Int) (i : Int) h1 fun v H' => H' = h1 ∧ v = .bool (if onp m line false then (if m.par == 0 then decide ((m.pn : Int) = 4) else usF esM line at_ dd m.par m.start) else false) := by
            intro k
            induction k with
            | zero =>
              intro i acc hi hacc
              rw [List.drop_eq_nil_of_le (by omega)] at hacc
              simp only [onp] at hacc
              rw [← hacc]
              apply f43_L2_of
              refine ⟨fun hd => absurd (of_decide_eq_true hd) (by omega), fun _ => ⟨fun ha => ?_, fun ha => ⟨fun hp => ?_, fun hp => ?_⟩⟩⟩
              · have : acc = false := by simpa using ha
                subst this
                exact ⟨rfl, rfl⟩
              · have : acc = true := by simpa using ha
                subst this
                rw [if_pos rfl, if_pos hp]
                exact ⟨rfl, rfl⟩
              · have : acc = true := by simpa using ha
                subst this
                rw [if_pos rfl, if_neg (by rw [hp]; simp)]
                rw [wrapP (by omega) (by omega)]
                refine (ih (by omega) m.par m.start).mono fun v h2 ⟨he2, hv2⟩ => ?_
                subst he2
                exact ⟨_, hv2, rfl, rfl⟩
            | succ k ihk =>
              intro i acc hi hacc
              apply f43_L2_of
              refine ⟨fun _ => ?_, fun hd => absurd (of_decide_eq_false hd) (by simp; omega)⟩
              obtain ⟨b, o, hp, hc⟩ := hr.cells i (by omega)
              rw [List.drop_eq_getElem_cons (by omega), onp] at hacc
              have next : ∀ acc', onp m (line.drop (i + 1)) acc' = onp m line false →
                  f43_L3 (some ⟨ba, 0, none⟩) q qn qc at_ ((dd + 1 : Nat) : Int) m.id m.par m.tl m.start m.stop m.pp m.pn m.pc acc' q qn qc (qn : Int) (i : Int) h1 fun v H' => H' = h1 ∧ v = .bool (if onp m line false then (if m.par == 0 then decide ((m.pn : Int) = 4) else usF esM line at_ dd m.par m.start) else false) := by
                intro acc' h'
                apply f43_L3_of
                unfold f43_L3_pre
                rw [wrapS (by omega)]
                exact ihk (i + 1) acc' (by omega) h'
              refine ⟨b, o, hp, by omega, by omega, _, _, _, hc, fun _ => ⟨fun ht => ?_, fun ht => ?_⟩⟩
              · rw [if_pos ht] at hacc
                refine (f70_ht (c := qc) hr (by omega) (i := i) (by omega)).mono fun v h2 ⟨he2, hv2⟩ => ?_
                subst he2
                by_cases hlast : i + 1 < line.length
                · have hex : exitOk m (line.drop (i + 1)) = decide (m.stop ≤ line[i + 1].br) := by rw [List.drop_eq_getElem_cons hlast, exitOk]
                  rw [hex] at hacc
                  refine ⟨line[i + 1].br, true, by rw [hv2, leavesV, List.getElem?_eq_getElem hlast], fun c4 => ⟨(fun h => by cases h), fun _ => next _ ?_⟩, fun c4 => next _ ?_⟩
                  · rw [c4] at hacc; simpa using hacc
                  · rw [c4] at hacc; simpa using hacc
                · have hnil : line.drop (i + 1) = [] := List.drop_eq_nil_of_le (by omega)
                  rw [hnil] at hacc
                  refine ⟨0, false, by rw [hv2, leavesV, List.getElem?_eq_none (by omega)], fun c4 => ⟨fun _ => next _ ?_, (fun h => by cases h)⟩, fun c4 => next _ ?_⟩
                  · rw [c4] at hacc; rw [hnil]; simpa [exitOk] using hacc
                  · rw [c4] at hacc; rw [hnil]; simpa [exitOk] using hacc
              · rw [if_neg (by rw [ht]; simp)] at hacc
                exact next acc hacc
          exact loop qn 0 false (by omega) (by simp)
    · refine ⟨0, 0, 0, 0, 0, none, 0, 0, _, rfl, fun _ => ⟨_, neqErr (IsI.some _ _), fun _ => bad ?_ (m := Man.zero), fun h => by cases h⟩⟩
      simp only [usF, hg, Option.bind_none]

end

end Go.Proofs.Qxb6500694aGreatDoor
