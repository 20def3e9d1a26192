/-
  CONTRACTS, PART E: ancestry, known, usable, lastAtOrBefore, wholeChain, Lineage.
-/
import Derived.Test.Qxb6500694aGreatDoorCd
import Derived.Test.Qxb6500694aGreatDoorEngL
namespace Go.Proofs.Qxb6500694aGreatDoor
open Go Go.Eng Go.Proofs
set_option maxRecDepth 100000
set_option linter.unusedVariables false
set_option linter.unusedSimpArgs false

def hisOf : Value → Option Hist
  | .agg #[.int .u32 a, .int .u32 b, .int .u64 c] => some ⟨a, b, c⟩
  | _ => none

theorem hisOf_val (m : Hist) : hisOf m.val = some m := rfl

def lastBr (o : List Hist) : Int := match o.getLast? with
  | some h => h.br
  | none => 0

/-- A timeline and its ancestors, the root first. -/
def ancF (esH : Array MapEntry) : Nat → Int → Option (List Hist)
  | 0, _ => none
  | f + 1, t => match (iget esH.toList t).bind hisOf with
    | none => none
    | some h => if h.par = 0 then some [h] else match ancF esH f h.par with
      | none => none
      | some o => if h.br < lastBr o then none else some (o ++ [h])

/-- What is known of an ancestry. -/
structure AncOk (esH : Array MapEntry) (t : Int) (hs : List Hist) : Prop where
  pos : 0 < hs.length
  last : ∀ h, hs.getLast? = some h → h.tl = t
  all : ∀ h ∈ hs, iget esH.toList h.tl = some h.val ∧ h.good h.tl ∧ h.tl ≤ t
  first : ∀ h, hs.head? = some h → h.par = 0
  link : ∀ i (h : i + 1 < hs.length), hs[i + 1].par = hs[i].tl ∧ hs[i].br ≤ hs[i + 1].br
  len : (hs.length : Int) ≤ t

theorem ancF_ok {H : Heap} {ba : Nat} {esM esL esH : Array MapEntry} (hA : Arch H ba esM esL esH) : ∀ (f : Nat) (t : Int) (hs : List Hist), ancF esH f t = some hs → AncOk esH t hs := by
  intro f
  induction f with
  | zero => intro t hs h; cases h
  | succ f ih =>
    intro t hs h
    unfold ancF at h
    cases hg : iget esH.toList t with
    | none => rw [hg] at h; cases h
    | some v =>
      obtain ⟨e, he, hk, hv⟩ := iget_mem hg
      obtain ⟨m, hm, hid, hrest⟩ := hA.his e he
      have hvm : v = m.val := by rw [← hv, hm]
      subst hvm
      have htl : m.tl = t := hid.trans hk
      rw [hg] at h
      simp only [Option.bind_some, hisOf_val] at h
      have hgood : m.good m.tl := ⟨rfl, hrest⟩
      obtain ⟨hr1, hr2, hr3, hr4, hr5⟩ := hrest
      by_cases hp : m.par = 0
      · rw [if_pos hp] at h
        cases h
        refine ⟨by simp, by simp [htl], ?_, by simp [hp], by simp, by simp; omega⟩
        intro x hx
        rw [List.mem_singleton.1 hx]
        exact ⟨by rw [htl]; exact hg, hgood, by omega⟩
      · rw [if_neg hp] at h
        cases ho : ancF esH f m.par with
        | none => rw [ho] at h; cases h
        | some o =>
          rw [ho] at h
          simp only at h
          by_cases hb : m.br < lastBr o
          · rw [if_pos hb] at h; cases h
          · rw [if_neg hb] at h
            cases h
            have io := ih m.par o ho
            have hpos := io.pos
            refine ⟨by simp, by simp [htl], ?_, ?_, ?_, ?_⟩
            · intro x hx
              rcases List.mem_append.1 hx with h1 | h1
              · obtain ⟨a1, a2, a3⟩ := io.all x h1
                exact ⟨a1, a2, by omega⟩
              · rw [List.mem_singleton.1 h1]
                exact ⟨by rw [htl]; exact hg, hgood, by omega⟩
            · intro x hx
              cases o with
              | nil => simp at hpos
              | cons y o => simp at hx; subst hx; exact io.first _ rfl
            · intro i hi
              simp only [List.length_append, List.length_singleton] at hi
              by_cases hc : i + 1 < o.length
              · have e1 : (o ++ [m])[i + 1]'(by simp; omega) = o[i + 1] := List.getElem_append_left hc
                have e2 : (o ++ [m])[i]'(by simp; omega) = o[i] := List.getElem_append_left (by omega)
                rw [e1, e2]
                exact io.link i hc
              · have he : i + 1 = o.length := by omega
                have hgl : o.getLast? = some o[i] := by rw [List.getLast?_eq_getElem?, show o.length - 1 = i by omega, List.getElem?_eq_getElem]
                have h1 := io.last _ hgl
                have h2 : lastBr o = o[i].br := by unfold lastBr; rw [hgl]
                rw [h2] at hb
                have e1 : (o ++ [m])[i + 1]'(by simp; omega) = m := by rw [List.getElem_append_right (by omega)]; simp [he]
                have e2 : (o ++ [m])[i]'(by simp; omega) = o[i] := List.getElem_append_left (by omega)
                rw [e1, e2]
                exact ⟨h1.symm, by omega⟩
            · have := io.len
              simp
              omega

section
variable {H : Heap} {ba : Nat} {esM esL esH : Array MapEntry}

def ancPost (H : Heap) (esH : Array MapEntry) (f : Nat) (t : Int) (v : Value) (H' : Heap) : Prop :=
  ∃ p n c, v = .slice p n c ∧ Sub H H' ∧ ((ancF esH f t = none ∧ p = none ∧ n = 0) ∨ ∃ hs, ancF esH f t = some hs ∧ New H p ∧ p ≠ none ∧ Hists H' p n c hs)

theorem nilSlice {x : Operand} {y : Operand} {p : Option Addr} {n c T E : Nat} (hu : Tryz.prog.underlying T = some (.slice E)) : BinIs Tryz.prog .eql T x y (.slice p n c) (.slice none 0 0) (.bool p.isNone) :=
  binIs_slice_eql hu

theorem f41_ht (hA : Arch H ba esM esL esH) (hG : Globs H) : ∀ (f : Nat) (t : Int), t.toNat < f →
    HT Tryz.prog 41 [.pointer (some ⟨ba, 0, none⟩), .int .u32 t] H (ancPost H esH f t) := by
  intro f
  induction f with
  | zero => intro t ht; omega
  | succ f ih =>
    intro t ht
    apply f41_of
    refine (f21_ht hA hG t).mono fun v H' ⟨he, hv⟩ => ?_
    subst he
    rcases hv with ⟨m, hg, hgood, rfl⟩ | ⟨hg, tt, x, rfl⟩
    · refine ⟨m.tl, m.par, m.br, _, rfl, fun _ => ⟨_, neqErr IsI.nil, (fun h => by cases h), fun _ => ⟨fun hp => ?_, fun hp => ?_⟩⟩⟩
      · have hp : m.par = 0 := by simpa using hp
        intro b20 h2 ha
        refine ⟨_, 1, 1, rfl, ha.sub, .inr ⟨[m], ?_, ?_, by simp, ?_⟩⟩
        · unfold ancF; rw [hg]; simp [hisOf_val, hp]
        · intro a hab; simp at hab; subst hab; exact ha.fresh
        · exact ⟨rfl, Hist.size, .inr ⟨b20, 0, _, rfl, ha.same, by omega, by simp, by simp [Hist.cs]⟩⟩
      · have hp : m.par ≠ 0 := by simpa using hp
        obtain ⟨g1, g2, g3, g4, g5, g6⟩ := hgood
        refine (ih m.par (by omega)).mono fun v h3 ⟨p, n, c, hv, hs, hcase⟩ => ⟨p, n, c, hv, _, nilSlice Tryz.underlying106, ?_⟩
        rcases hcase with ⟨hnone, hpn, hn0⟩ | ⟨o, hsome, hnew, hpn, ho⟩
        · subst hpn hn0
          refine ⟨fun _ => ?_, (fun h => by cases h)⟩
          apply f41_L1_of
          refine ⟨fun _ => ⟨none, 0, 0, rfl, hs, .inl ⟨?_, rfl, rfl⟩⟩, (fun h => by cases h)⟩
          unfold ancF; rw [hg]; simp [hisOf_val, hp, hnone]
        · have io := ancF_ok hA f m.par o hsome
          have hlen := ho.len
          have hpos := io.pos
          have hle := io.len
          refine ⟨fun h => ?_, fun _ => ?_⟩
          · exact absurd (Option.isNone_iff_eq_none.1 h) hpn
          · obtain ⟨b34, o34, hp34, hc34⟩ := ho.cells (i := n - 1) (by omega)
            rw [wrapP (by omega) (by omega)]
            refine ⟨b34, o34, hp34, by omega, by omega, _, hc34.part 2 rfl (by simp [Hist.cs]), ?_⟩
            have hgl : o.getLast? = some o[n - 1] := by
              rw [List.getLast?_eq_getElem?, List.getElem?_eq_getElem (by omega)]
              congr 2
              omega
            have hlb : lastBr o = o[n - 1].br := by unfold lastBr; rw [hgl]
            apply f41_L1_of
            refine ⟨fun hlt => ?_, fun hlt => ?_⟩
            · refine ⟨none, 0, 0, rfl, hs, .inl ⟨?_, rfl, rfl⟩⟩
              unfold ancF; rw [hg]; simp only [Option.bind_some, hisOf_val]
              rw [if_neg hp, hsome]
              simp only
              rw [if_pos (by rw [hlb]; exact of_decide_eq_true hlt)]
            · intro b41 h4 ha
              refine app_hist m ha ho (by omega) hs hnew fun p' c' h5 a1 a2 a3 a4 => ⟨p', n + 1, c', rfl, p', n + 1, c', rfl, a1, .inr ⟨o ++ [m], ?_, a2, ?_, a3⟩⟩
              · unfold ancF; rw [hg]; simp only [Option.bind_some, hisOf_val]
                rw [if_neg hp, hsome]
                simp only
                rw [if_neg (by rw [hlb]; exact of_decide_eq_false hlt)]
              · obtain ⟨b, o', hb⟩ := a3.isSome (by simp)
                rw [hb]; simp
    · refine ⟨0, 0, 0, _, rfl, fun _ => ⟨_, neqErr (IsI.some _ _), fun _ => ?_, (fun h => by cases h)⟩⟩
      refine ⟨none, 0, 0, rfl, Sub.refl _, .inl ⟨?_, rfl, rfl⟩⟩
      unfold ancF; rw [hg]; rfl

end

end Go.Proofs.Qxb6500694aGreatDoor
