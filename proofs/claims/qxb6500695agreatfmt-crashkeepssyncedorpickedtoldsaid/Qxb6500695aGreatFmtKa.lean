/-
  HISTORIES: the values that a sector has had since the last sync (no Go in sight).
-/
import Derived.Test.Qxb6500695aGreatFmtCb
namespace Go.Proofs.Qxb6500695aGreatFmt
open Go Go.Eng Go.Proofs
set_option maxRecDepth 100000
set_option linter.unusedVariables false
set_option linter.unusedSimpArgs false
set_option linter.unusedSectionVars false

abbrev Sv := Option (List Int)

def zer (ss : Nat) : List Int := List.replicate ss 0

/-- What a sector's value reads as. -/
def sO (ss : Nat) (v : Sv) : List Int := match v with
  | some bs => bs
  | none => zer ss

/-- The values of a sector, the synced one first. -/
def hs (ss : Nat) (P : Pl) (i : Nat) : List Sv := some (sO ss (P.dur i)) :: P.cache (i : Int)

/-- No value in the cache is nil. -/
def PS (P : Pl) : Prop := ∀ i, ∀ v ∈ P.cache i, v ≠ none

section
variable {ss : Nat} {P P' : Pl}

theorem seen_sO (i : Nat) : P.seen ss i = sO ss (P.lat i) := by
  unfold Pl.seen sO zer
  cases P.lat i <;> rfl

theorem lat_of_cache {i : Nat} {l : List Sv} {v : Sv} (h : P.cache (i : Int) = l ++ [v]) : P.lat i = v := by
  unfold Pl.lat
  rw [h]
  simp

theorem seen_of_cache {i : Nat} {l : List Sv} {v : List Int} (h : P.cache (i : Int) = l ++ [some v]) : P.seen ss i = v := by
  rw [seen_sO, lat_of_cache h]
  rfl

theorem hs_last (h : PS P) (i : Nat) : (hs ss P i).getLast? = some (some (P.seen ss i)) := by
  unfold hs
  rcases List.eq_nil_or_concat (P.cache (i : Int)) with hc | ⟨l, v, hc⟩
  · rw [hc]
    have : P.lat i = P.dur i := by
      unfold Pl.lat
      rw [hc]
      rfl
    rw [seen_sO, this]
    rfl
  · rw [List.concat_eq_append] at hc
    have hv := h (i : Int) v (by rw [hc]; simp)
    rw [hc]
    cases v with
    | none => exact absurd rfl hv
    | some bs =>
      rw [seen_of_cache hc, ← List.cons_append, List.getLast?_concat]

theorem hs_seen_clean (h : P.clean) (i : Nat) : hs ss P i = [some (P.seen ss i)] := by
  unfold hs
  rw [h, seen_sO, lat_clean h]

theorem zrF_eq : ∀ (k : Nat) (P : Pl) (off n : Nat), zrF ss k P off n = wrF ss k P off (List.replicate n 0)
  | 0, _, _, _ => rfl
  | k + 1, P, off, n => by
    unfold zrF wrF
    by_cases hn : n = 0
    · subst hn; rfl
    · rw [if_neg hn, if_neg (by simpa using hn), zrF_eq k]
      simp only [List.length_replicate, List.take_replicate, List.drop_replicate]
      congr 2
      congr 2
      congr 1
      by_cases hs : n < ss - off % ss
      · simp [spanN, hs]
      · simp [spanN, hs]; omega

/-- What a write leaves in the cache: of every sector that it touches one value more. -/
theorem wrF_cache (h0 : 0 < ss) : ∀ (k : Nat) (P : Pl) (off : Nat) (src : List Int), src.length ≤ k →
    (wrF ss k P off src).media = P.media ∧ ∀ j : Nat, if 0 < src.length ∧ off / ss ≤ j ∧ j * ss < off + src.length then ∃ v, (wrF ss k P off src).cache (j : Int) = P.cache (j : Int) ++ [some v] else (wrF ss k P off src).cache (j : Int) = P.cache (j : Int) := by
  intro k
  induction k with
  | zero =>
    intro P off src hl
    refine ⟨rfl, fun j => ?_⟩
    rw [if_neg (by omega)]
    rfl
  | succ k ih =>
    intro P off src hl
    unfold wrF
    split
    · rename_i h
      subst h
      refine ⟨rfl, fun j => ?_⟩
      rw [if_neg (by simp)]
    · rename_i hne
      have hpos : 0 < src.length := List.length_pos_iff.2 hne
      obtain ⟨p1, p2, p3⟩ := spanN_pos (off := off) (n := src.length) h0 hpos
      have hsp : spanN ss off src.length = src.length ∨ spanN ss off src.length = ss - off % ss := by
        unfold spanN
        split
        · exact .inl rfl
        · exact .inr rfl
      generalize spanN ss off src.length = m at *
      obtain ⟨q1, q2⟩ := ih (P.put (off / ss) (over (blankV P ss (off / ss) m) (off % ss) (src.take m))) (off + m) (src.drop m) (by simp; omega)
      refine ⟨q1, fun j => ?_⟩
      have q3 := q2 j
      have hdl : (src.drop m).length = src.length - m := by simp
      rw [hdl] at q3
      have hd := Nat.div_add_mod off ss
      have hm := Nat.mod_lt off h0
      have hputc : (P.put (off / ss) (over (blankV P ss (off / ss) m) (off % ss) (src.take m))).cache (j : Int) = if j = off / ss then P.cache (j : Int) ++ [some (over (blankV P ss (off / ss) m) (off % ss) (src.take m))] else P.cache (j : Int) := by
        unfold Pl.put
        simp only
        by_cases hj : j = off / ss
        · rw [if_pos hj, if_pos (by omega)]
        · rw [if_neg hj, if_neg (by omega)]
      rw [hputc] at q3
      generalize over (blankV P ss (off / ss) m) (off % ss) (src.take m) = v0 at *
      generalize wrF ss k (P.put (off / ss) v0) (off + m) (src.drop m) = PP at *
      rw [Nat.mul_comm] at hd
      generalize hi0 : off / ss = i0 at *
      by_cases hj : j = i0
      · subst hj
        rw [if_pos rfl] at q3
        rw [if_pos ⟨hpos, Nat.le_refl _, by omega⟩]
        rw [if_neg] at q3
        · exact ⟨_, q3⟩
        · rintro ⟨h1, h2, h3⟩
          rcases hsp with hsp | hsp
          · omega
          · have h4 : off + m = (j + 1) * ss := by rw [Nat.add_mul, Nat.one_mul]; omega
            rw [h4, Nat.mul_div_cancel _ h0] at h2
            omega
      · rw [if_neg hj] at q3
        by_cases hr : 0 < src.length - m
        · have hm2 : m = ss - off % ss := by
            rcases hsp with hsp | hsp
            · omega
            · exact hsp
          have h4 : off + m = (i0 + 1) * ss := by rw [Nat.add_mul, Nat.one_mul]; omega
          have h5 : (off + m) / ss = i0 + 1 := by rw [h4, Nat.mul_div_cancel _ h0]
          rw [h5] at q3
          by_cases hc : 0 < src.length ∧ i0 ≤ j ∧ j * ss < off + src.length
          · rw [if_pos hc]
            rw [if_pos ⟨hr, by omega, by omega⟩] at q3
            exact q3
          · rw [if_neg hc]
            rw [if_neg (by intro hx; exact hc ⟨hpos, by omega, by omega⟩)] at q3
            exact q3
        · rw [if_neg (by omega)] at q3
          rw [if_neg]
          · exact q3
          · rintro ⟨h1, h2, h3⟩
            have h6 : i0 + 1 ≤ j := by omega
            have h7 := Nat.mul_le_mul_right ss h6
            rw [Nat.add_mul, Nat.one_mul] at h7
            omega

theorem wrF_PS (h0 : 0 < ss) {off : Nat} {src : List Int} : ∀ (k : Nat) (P : Pl) (off : Nat) (src : List Int), PS P → PS (wrF ss k P off src) := by
  intro k
  induction k with
  | zero => intro P off src h; exact h
  | succ k ih =>
    intro P off src h
    unfold wrF
    split
    · exact h
    · refine ih _ _ _ fun i v hv => ?_
      unfold Pl.put at hv
      simp only at hv
      split at hv
      · rcases List.mem_append.1 hv with hv | hv
        · exact h i v hv
        · rw [List.mem_singleton.1 hv]; simp
      · exact h i v hv

/-- The same, said of the values. -/
theorem wrF_hs (h0 : 0 < ss) (P : Pl) (off : Nat) (src : List Int) (j : Nat) : hs ss (wrF ss src.length P off src) j = if 0 < src.length ∧ off / ss ≤ j ∧ j * ss < off + src.length then hs ss P j ++ [some ((wrF ss src.length P off src).seen ss j)] else hs ss P j := by
  obtain ⟨h1, h2⟩ := wrF_cache h0 src.length P off src (Nat.le_refl _)
  have h3 := h2 j
  have hd : (wrF ss src.length P off src).dur j = P.dur j := by
    unfold Pl.dur
    rw [h1]
  unfold hs
  rw [hd]
  split
  · rename_i hc
    rw [if_pos hc] at h3
    obtain ⟨v, hv⟩ := h3
    rw [hv, seen_of_cache hv]
    rfl
  · rename_i hc
    rw [if_neg hc] at h3
    rw [h3]

/-- What a cut leaves above. -/
theorem cut_zero {size : Nat} {v : Nat → Sv} (h0 : 0 < ss) (hc : P'.clean) (hd : ∀ i, P'.dur i = cutV ss size i (v i)) (hv : ∀ i bs, v i = some bs → bs.length = ss) : ∀ j, size ≤ j → byt ss P' j = 0 := by
  intro j hj
  unfold byt
  rw [seen_sO, lat_clean hc, hd]
  have hjd := Nat.div_add_mod j ss
  have hjm := Nat.mod_lt j h0
  rw [Nat.mul_comm] at hjd
  generalize j / ss = i at *
  generalize j % ss = r at *
  have hz : ((zer ss)[r]?).getD 0 = 0 := by
    unfold zer
    rw [List.getElem?_replicate]
    split <;> rfl
  unfold cutV
  by_cases h1 : (i + 1) * ss ≤ size
  · rw [Nat.add_mul, Nat.one_mul] at h1
    omega
  · rw [if_neg h1]
    split
    · exact hz
    · cases hvi : v i with
      | none => exact hz
      | some bs =>
        have hl := hv i bs hvi
        show (((bs.take (size - i * ss)) ++ _)[r]?).getD 0 = 0
        rw [List.getElem?_append_right (by simp; omega), List.getElem?_replicate]
        split <;> rfl

/-- Bytes from the end on are zeros. -/
def Zr (ss : Nat) (o : Ob) : Prop := ∀ j, o.size ≤ j → byt ss o.pl j = 0

/-- Sector i as a reader of the object sees it. -/
def secNow (ss : Nat) (o : Ob) (i : Nat) : List Int := (List.range ss).map fun r => if i * ss + r < o.size then byt ss o.pl (i * ss + r) else 0

theorem byt_seen (h0 : 0 < ss) (hz : SSz ss P) (i : Nat) : P.seen ss i = (List.range ss).map fun r => byt ss P (i * ss + r) := by
  apply List.ext_getElem?
  intro r
  rw [List.getElem?_map]
  have hl := hz i
  by_cases hr : r < ss
  · rw [List.getElem?_range hr, Option.map_some]
    unfold byt
    have h1 : (i * ss + r) / ss = i := by rw [Nat.mul_comm, Nat.mul_add_div h0, Nat.div_eq_of_lt hr, Nat.add_zero]
    have h2 : (i * ss + r) % ss = r := by rw [Nat.mul_comm, Nat.mul_add_mod, Nat.mod_eq_of_lt hr]
    rw [h1, h2, List.getElem?_eq_getElem (by omega)]
    rfl
  · rw [List.getElem?_eq_none (by omega), List.getElem?_eq_none (by simp; omega)]
    rfl

theorem secNow_seen {o : Ob} (h0 : 0 < ss) (hz : SSz ss o.pl) (hzr : Zr ss o) (i : Nat) : secNow ss o i = o.pl.seen ss i := by
  rw [byt_seen h0 hz]
  apply List.map_congr_left
  intro r _
  split
  · rfl
  · rename_i h
    exact (hzr _ (by omega)).symm

theorem secNow_len {o : Ob} (i : Nat) : (secNow ss o i).length = ss := by
  unfold secNow
  simp

end

end Go.Proofs.Qxb6500695aGreatFmt
