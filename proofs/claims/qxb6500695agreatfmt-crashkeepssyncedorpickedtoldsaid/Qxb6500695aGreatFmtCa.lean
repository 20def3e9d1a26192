/-
  BYTES: what is read of what was written.
-/
import Derived.Test.Qxb6500695aGreatFmtXp
namespace Go.Proofs.Qxb6500695aGreatFmt
open Go Go.Eng Go.Proofs
set_option maxRecDepth 100000
set_option linter.unusedVariables false
set_option linter.unusedSimpArgs false
set_option linter.unusedSectionVars false

/-- Every sector that is seen has its length. -/
def SSz (ss : Nat) (P : Pl) : Prop := ∀ i, (P.seen ss i).length = ss

/-- The byte j. -/
def byt (ss : Nat) (P : Pl) (j : Nat) : Int := ((P.seen ss (j / ss))[j % ss]?).getD 0

theorem spanN_pos {ss off n : Nat} (h0 : 0 < ss) (hn : 0 < n) : 0 < spanN ss off n ∧ spanN ss off n ≤ n ∧ off % ss + spanN ss off n ≤ ss := by
  have := Nat.mod_lt off h0
  unfold spanN
  split <;> omega

theorem div_add_lt {ss off j : Nat} (h0 : 0 < ss) (h : off % ss + j < ss) : (off + j) / ss = off / ss ∧ (off + j) % ss = off % ss + j := by
  have hd := Nat.div_add_mod off ss
  have e : off + j = (off % ss + j) + ss * (off / ss) := by omega
  rw [e]
  constructor
  · rw [Nat.add_mul_div_left _ _ h0, Nat.div_eq_of_lt h, Nat.zero_add]
  · rw [Nat.add_mul_mod_self_left, Nat.mod_eq_of_lt h]

theorem rdF_byt {ss : Nat} {P : Pl} (h0 : 0 < ss) (hs : SSz ss P) : ∀ (k off n : Nat), n ≤ k → rdF ss P k off n = (List.range n).map fun j => byt ss P (off + j) := by
  intro k
  induction k with
  | zero =>
    intro off n hn
    have : n = 0 := by omega
    subst this
    rfl
  | succ k ih =>
    intro off n hn
    unfold rdF
    split
    · rename_i h; subst h; rfl
    · rename_i hne
      obtain ⟨p1, p2, p3⟩ := spanN_pos (off := off) (n := n) h0 (by omega)
      rw [ih _ _ (by omega)]
      generalize spanN ss off n = m at *
      have hsplit : List.range n = List.range m ++ (List.range (n - m)).map (m + ·) := by
        have := List.range_add (n := m) (m := n - m)
        rw [show m + (n - m) = n by omega] at this
        exact this
      rw [hsplit, List.map_append, List.map_map]
      congr 1
      · apply List.ext_getElem?
        intro j
        rw [List.getElem?_take, List.getElem?_map]
        by_cases hj : j < m
        · have hd := div_add_lt (off := off) (j := j) h0 (by omega)
          rw [if_pos hj, List.getElem?_drop, List.getElem?_range hj]
          simp only [Option.map_some]
          unfold byt
          rw [hd.1, hd.2]
          have hl := hs (off / ss)
          rw [List.getElem?_eq_getElem (by omega)]
          rfl
        · rw [if_neg hj]
          have : (List.range m)[j]? = none := List.getElem?_eq_none (by simp; omega)
          rw [this]
          rfl
      · apply List.map_congr_left
        intro j _
        simp only [Function.comp]
        congr 1
        omega

theorem seen_put {ss i j : Nat} {P : Pl} {v : List Int} : (P.put i v).seen ss j = if j = i then v else P.seen ss j := by
  unfold Pl.seen Pl.lat Pl.put Pl.dur
  simp only
  by_cases h : j = i
  · subst h
    simp
  · have h2 : ¬ ((j : Int) = (i : Int)) := by omega
    simp [h, h2]

theorem blankV_seen {ss i m : Nat} {P : Pl} (h : m < ss) : blankV P ss i m = P.seen ss i := by
  unfold blankV Pl.seen
  rw [if_pos h]
  cases P.lat i <;> rfl

theorem blankV_len {ss i m : Nat} {P : Pl} (hs : SSz ss P) : (blankV P ss i m).length = ss := by
  by_cases h : m < ss
  · rw [blankV_seen h]; exact hs i
  · unfold blankV
    rw [if_neg h]
    simp

theorem over_get {α : Type} {bs seg : List α} {f r : Nat} (h : f + seg.length ≤ bs.length) : (over bs f seg)[r]? = if f ≤ r ∧ r < f + seg.length then seg[r - f]? else bs[r]? := by
  unfold over
  rw [List.append_assoc]
  by_cases h1 : r < f
  · rw [if_neg (by omega), List.getElem?_append_left (by simp; omega), List.getElem?_take, if_pos h1]
  · rw [List.getElem?_append_right (by simp; omega)]
    have hl : (bs.take f).length = f := by simp; omega
    rw [hl]
    by_cases h2 : r < f + seg.length
    · rw [if_pos ⟨by omega, h2⟩, List.getElem?_append_left (by omega)]
    · rw [if_neg (by omega), List.getElem?_append_right (by omega), List.getElem?_drop]
      congr 1
      omega

theorem byt_put {ss off m j : Nat} {P : Pl} {seg : List Int} (h0 : 0 < ss) (hs : SSz ss P) (hm : seg.length = m) (hfit : off % ss + m ≤ ss) :
    SSz ss (P.put (off / ss) (over (blankV P ss (off / ss) m) (off % ss) seg)) ∧ byt ss (P.put (off / ss) (over (blankV P ss (off / ss) m) (off % ss) seg)) j = if off ≤ j ∧ j < off + m then (seg[j - off]?).getD 0 else byt ss P j := by
  have hbl := blankV_len (i := off / ss) (m := m) hs
  refine ⟨fun i => ?_, ?_⟩
  · rw [seen_put]
    split
    · rw [over_len (by omega), hbl]
    · exact hs i
  · unfold byt
    rw [seen_put]
    have hjd := Nat.div_add_mod j ss
    have hod := Nat.div_add_mod off ss
    have hjm := Nat.mod_lt j h0
    have hom := Nat.mod_lt off h0
    by_cases hji : j / ss = off / ss
    · rw [if_pos hji, over_get (by omega), hm]
      rw [hji] at hjd
      by_cases hin : off % ss ≤ j % ss ∧ j % ss < off % ss + m
      · rw [if_pos hin, if_pos (by omega)]
        congr 2
        omega
      · rw [if_neg hin, if_neg (by omega)]
        by_cases hms : m < ss
        · rw [blankV_seen hms, hji]
        · exact absurd ⟨by omega, by omega⟩ hin
    · rw [if_neg hji, if_neg]
      intro ⟨h1, h2⟩
      have h3 : j = off + (j - off) := by omega
      have := (div_add_lt (off := off) (j := j - off) h0 (by omega)).1
      rw [← h3] at this
      exact hji this

theorem wrF_byt {ss : Nat} (h0 : 0 < ss) : ∀ (k : Nat) (P : Pl) (off : Nat) (src : List Int), src.length ≤ k → SSz ss P → SSz ss (wrF ss k P off src) ∧ ∀ j, byt ss (wrF ss k P off src) j = if off ≤ j ∧ j < off + src.length then (src[j - off]?).getD 0 else byt ss P j := by
  intro k
  induction k with
  | zero =>
    intro P off src hl hs
    have : src = [] := List.eq_nil_of_length_eq_zero (by omega)
    subst this
    refine ⟨hs, fun j => ?_⟩
    rw [if_neg (by simp only [List.length_nil]; omega)]
    rfl
  | succ k ih =>
    intro P off src hl hs
    unfold wrF
    split
    · rename_i h
      subst h
      refine ⟨hs, fun j => ?_⟩
      rw [if_neg (by simp only [List.length_nil]; omega)]
    · rename_i hne
      have hpos : 0 < src.length := List.length_pos_iff.2 hne
      obtain ⟨p1, p2, p3⟩ := spanN_pos (off := off) (n := src.length) h0 hpos
      generalize spanN ss off src.length = m at *
      have hseg : (src.take m).length = m := by simp; omega
      have hput := fun j => byt_put (j := j) (seg := src.take m) h0 hs hseg p3
      obtain ⟨h1, h2⟩ := ih (P.put (off / ss) (over (blankV P ss (off / ss) m) (off % ss) (src.take m))) (off + m) (src.drop m) (by simp; omega) (hput 0).1
      refine ⟨h1, fun j => ?_⟩
      rw [h2, (hput j).2]
      have hdl : (src.drop m).length = src.length - m := by simp
      rw [hdl]
      by_cases hA : off + m ≤ j ∧ j < off + m + (src.length - m)
      · rw [if_pos hA, if_pos (by omega), List.getElem?_drop]
        congr 2
        omega
      · rw [if_neg hA]
        by_cases hB : off ≤ j ∧ j < off + m
        · rw [if_pos hB, if_pos (by omega), List.getElem?_take, if_pos (by omega)]
        · rw [if_neg hB, if_neg (by omega)]

/-- A cut leaves the bytes below. -/
theorem cutV_seen {ss size i : Nat} {v : Option (List Int)} (h0 : 0 < ss) (hv : ∀ bs, v = some bs → bs.length = ss) : ((match cutV ss size i v with | some bs => bs | none => List.replicate ss 0).length = ss) ∧ ∀ r, i * ss + r < size → r < ss → ((match cutV ss size i v with | some bs => bs | none => List.replicate ss 0)[r]?).getD 0 = ((match v with | some bs => bs | none => List.replicate ss 0)[r]?).getD 0 := by
  unfold cutV
  by_cases h1 : (i + 1) * ss ≤ size
  · rw [if_pos h1]
    refine ⟨?_, fun _ _ _ => rfl⟩
    cases v with
    | none => simp
    | some bs => exact hv bs rfl
  · rw [if_neg h1]
    by_cases h2 : size ≤ i * ss
    · rw [if_pos h2]
      refine ⟨by simp, fun r hr _ => by omega⟩
    · rw [if_neg h2]
      rw [Nat.add_mul, Nat.one_mul] at h1
      cases v with
      | none => exact ⟨by simp, fun _ _ _ => rfl⟩
      | some bs =>
        have hl := hv bs rfl
        simp only [Option.map_some]
        refine ⟨by simp; omega, fun r hr hrs => ?_⟩
        rw [List.getElem?_append_left (by simp; omega), List.getElem?_take, if_pos (by omega)]

theorem lat_clean {P : Pl} (h : P.clean) (i : Nat) : P.lat i = P.dur i := by
  unfold Pl.lat
  rw [h]
  rfl

theorem SSz.lat {ss i : Nat} {P : Pl} (h : SSz ss P) {bs : List Int} (hl : P.lat i = some bs) : bs.length = ss := by
  have := h i
  unfold Pl.seen at this
  rw [hl] at this
  exact this

/-- A plane that holds on its media what another shows, cut at a size, shows the same below it. -/
theorem cut_byt {ss size : Nat} {P P' : Pl} (h0 : 0 < ss) (hs : SSz ss P) (hc : P'.clean) (hd : ∀ i, P'.dur i = cutV ss size i (P.lat i)) : SSz ss P' ∧ ∀ j, j < size → byt ss P' j = byt ss P j := by
  have hseen : ∀ i, P'.seen ss i = match cutV ss size i (P.lat i) with | some bs => bs | none => List.replicate ss 0 := fun i => by
    unfold Pl.seen
    rw [lat_clean hc, hd]
    cases cutV ss size i (P.lat i) <;> rfl
  refine ⟨fun i => ?_, fun j hj => ?_⟩
  · rw [hseen]
    exact (cutV_seen h0 fun bs hb => hs.lat hb).1
  · unfold byt
    rw [hseen]
    have hjd := Nat.div_add_mod j ss
    have hjm := Nat.mod_lt j h0
    rw [Nat.mul_comm] at hjd
    exact (cutV_seen h0 fun bs hb => hs.lat hb).2 (j % ss) (by omega) hjm

end Go.Proofs.Qxb6500695aGreatFmt
