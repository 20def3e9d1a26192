/-
  THE PLANE, PART L: cut.
-/
import Derived.Test.Qxb6500695aGreatFmtXk
namespace Go.Proofs.Qxb6500695aGreatFmt
open Go Go.Eng Go.Proofs
set_option maxRecDepth 100000
set_option linter.unusedVariables false
set_option linter.unusedSimpArgs false
set_option linter.unusedSectionVars false

/-- What is left of sector i's value behind a cut at size bytes. -/
def cutV (ss size i : Nat) (v : Option (List Int)) : Option (List Int) :=
  if (i + 1) * ss ≤ size then v else if size ≤ i * ss then none else v.map fun bs => bs.take (size - i * ss) ++ List.replicate (ss - (size - i * ss)) 0

section
variable {H : Heap} {g : Gh} {e : Int} {pb ss ns bd : Nat} {P : Pl}

/-- The first k of a list that is owned, what lies beyond them being written. -/
theorem shrinkT {tg : Nat × Int} {p : Option Addr} {n c k : Nat} {l : List Sec} {H' : Heap} {b o : Nat} {arr : Array Value} {ys : List Value} (h : OwnT H g tg 35 1 Sec.cs p n c l) (hp : p = some ⟨b, o, none⟩) (hb : H b = some (.cells arr 35 (0, 0)))
    (hw : Wr H b (.cells (setAll arr (o + k) ys) 35 (0, 0)) H') (hk : k ≤ n) (hfit : o + k + ys.length ≤ arr.size) : OwnT H' g tg 35 1 Sec.cs p k c (l.take k) := by
  have hlen := h.own.len
  refine ⟨⟨by simp; omega, h.own.size, ?_⟩, h.tag⟩
  rcases h.own.own with ⟨h9, _⟩ | ⟨b2, o2, arr2, hp2, hb2, h10, h11, h12⟩
  · rw [hp] at h9; cases h9
  · rw [hp] at hp2
    simp at hp2
    obtain ⟨rfl, rfl⟩ := hp2
    rw [hb] at hb2
    simp at hb2
    subst hb2
    refine .inr ⟨b, o, _, hp, hw.same, by omega, by rw [setAll_size]; exact h11, ?_⟩
    have hfl : (l.take k).flatMap Sec.cs = (l.flatMap Sec.cs).take k := by
      have : ∀ (l : List Sec) (k : Nat), (l.take k).flatMap Sec.cs = (l.flatMap Sec.cs).take k := by
        intro l
        induction l with
        | nil => intro k; simp
        | cons x l ih =>
          intro k
          cases k with
          | zero => simp
          | succ k => simp [Sec.cs, ih]
      exact this l k
    rw [hfl, h12]
    apply List.ext_getElem?
    intro i
    simp only [List.getElem?_take, List.getElem?_drop, Nat.mul_one]
    by_cases hi : i < k
    · rw [if_pos hi, if_pos (by omega), if_pos hi]
      have := setAll_get ys arr (o + k) (o + i) hfit
      rw [if_neg (by omega)] at this
      simpa using this.symm
    · rw [if_neg hi, if_neg hi]

theorem cut_dur {P' : Pl} {size keep : Nat} (hss : 0 < ss) (hkeep : keep = (size + ss - 1) / ss) (hm : P'.media = P.media.take keep) (h : size % ss = 0 ∨ P.media.length < keep) : ∀ i, P'.dur i = cutV ss size i (P.dur i) := by
  intro i
  unfold Pl.dur
  rw [hm, List.getElem?_take]
  have hd := Nat.div_add_mod (size + ss - 1) ss
  have hmod := Nat.mod_lt (size + ss - 1) hss
  rw [← hkeep] at hd
  have hcomm : ss * keep = keep * ss := Nat.mul_comm _ _
  unfold cutV
  by_cases hik : i < keep
  · rw [if_pos hik]
    have h1 : (i + 1) * ss ≤ keep * ss := Nat.mul_le_mul_right _ hik
    by_cases hc : (i + 1) * ss ≤ size
    · rw [if_pos hc]
    · rw [if_neg hc]
      have h2 : i * ss + ss = (i + 1) * ss := by rw [Nat.add_mul, Nat.one_mul]
      rcases h with h0 | h0
      · -- size is whole: then i is beyond
        exfalso
        have h3 := Nat.div_add_mod size ss
        rw [h0] at h3
        have h4 : size / ss * ss = size := by rw [Nat.mul_comm]; omega
        have h5 : size / ss < i + 1 := by
          rcases Nat.lt_or_ge (size / ss) (i + 1) with h | h
          · exact h
          · have := Nat.mul_le_mul_right ss h; omega
        have h6 : (size / ss) * ss ≤ i * ss := Nat.mul_le_mul_right _ (by omega)
        have h7 : (i + 1) * ss ≤ keep * ss := h1
        omega
      · have : P.media[i]? = none ∨ i < P.media.length := by
          rcases Nat.lt_or_ge i P.media.length with h | h
          · exact .inr h
          · exact .inl (List.getElem?_eq_none h)
        rcases this with h3 | h3
        · rw [h3]; simp
        · exfalso
          have h4 : (i + 2) * ss ≤ keep * ss := Nat.mul_le_mul_right _ (by omega)
          have h5 : (i + 2) * ss = (i + 1) * ss + ss := by rw [Nat.add_mul, Nat.add_mul]; omega
          omega
  · rw [if_neg hik]
    have h1 : keep * ss ≤ i * ss := Nat.mul_le_mul_right _ (by omega)
    have h2 : i * ss + ss = (i + 1) * ss := by rw [Nat.add_mul, Nat.one_mul]
    rw [if_neg (by omega), if_pos (by omega)]
    rfl

end

end Go.Proofs.Qxb6500695aGreatFmt
