/-
  ENGINE, PART L: append of a whole list.
-/
import Derived.Test.Qxb6500695aGreatFmtEngK
namespace Go.Eng
open Go
set_option maxRecDepth 100000
set_option linter.unusedVariables false
set_option linter.unusedSimpArgs false

/-- append of nothing. -/
theorem semOk_append0 {P : Program} {t T ty : TypeId} {inf : TypeInfo} {p q : Option Addr} {n c mc : Nat} {h : Heap} {K : Value → Heap → Prop}
    (ht : P.underlying t = some (.slice T)) (hi : P.info? T = some inf) (hnc : n ≤ c) (H1 : K (.slice p n c) h) :
    SemOk P (Builtin.append_ #[t, t] ty #[.slice p n c, .slice q 0 mc]) h K := by
  intro w hw
  have key : (Builtin.append_ #[t, t] ty #[.slice p n c, .slice q 0 mc]).run P w = .ok (.slice p n c) w := by
    unfold Builtin.append_
    cases p <;> cases q <;> simp [underlying, ht, sizeOf, typeInfo, hi, Builtin.lenOf, hnc, Builtin.firstCells, loadCells, loadCellsFrom, storeCells]
  rw [key]
  exact ⟨h, Str.refl _, hw, Fr.refl _ _, H1⟩

/-- append(s, ys...). -/
theorem appN {α : Type} {P : Program} {t T ty : TypeId} {inf : TypeInfo} {zero : Value} {p q : Option Addr} {n c m mc sz : Nat} {xs ys : List α} {enc : α → List Value} {H0 H1 : Heap} {K : Value → Heap → Prop}
    (ht : P.underlying t = some (.slice T)) (hi : P.info? T = some inf) (hz : inf.zero = some zero) (hzs : zero.cells.size = inf.size) (hby : inf.bytes ≤ 4096) (hsz : inf.size = sz)
    (hs : OwnL H1 T sz enc p n c xs) (hm : m = ys.length) (hq : 0 < m → ∃ b o, q = some ⟨b, o, none⟩ ∧ Cells H1 b o (ys.flatMap enc)) (h1 : ∀ x, ∀ v ∈ enc x, v.oneCell' = true) (hn : n + m < 2 ^ 34)
    (h0 : Sub H0 H1) (hnew : New H0 p)
    (h3 : ∀ p' c' H', Sub H0 H' → New H0 p' → OwnL H' T sz enc p' (n + m) c' (xs ++ ys) → (∀ b' o', H1 b' = some o' → (∀ a, p = some a → a.block ≠ b') → H' b' = some o') → K (.slice p' (n + m) c') H') :
    SemOk P (Builtin.append_ #[t, t] ty #[.slice p n c, .slice q m mc]) H1 K := by
  subst hsz
  rcases Nat.eq_zero_or_pos m with hm0 | hpos
  · subst hm0
    have : ys = [] := List.eq_nil_of_length_eq_zero hm.symm
    subst this
    refine semOk_append0 ht hi hs.lenc (h3 p c H1 h0 hnew (by simpa using hs) fun _ _ h _ => h)
  have hyl : (ys.flatMap enc).length = m * inf.size := by rw [flat_len hs.size, hm]
  refine semOk_append (xs := xs.flatMap enc) (ys := ys.flatMap enc) ht hi hz hs.own (hq hpos) hyl ?_ ?_ (by omega) ?_ ?_ hpos
  · intro v hv
    obtain ⟨x, _, hx⟩ := List.mem_flatMap.1 hv
    exact h1 x v hx
  · have : 2 * (n + m) * inf.bytes ≤ 2 * (n + m) * 4096 := Nat.mul_le_mul_left _ hby
    have : 2 * (n + m) ≤ 2 ^ 36 := by omega
    have h4 : 2 * (n + m) * 4096 ≤ 2 ^ 36 * 4096 := Nat.mul_le_mul_right _ this
    have : (2 : Nat) ^ 36 * 4096 = 2 ^ 48 := by decide
    omega
  · intro b' o arr H' hp hb hsz hfit hw
    refine h3 p c H' ?_ hnew ⟨by simp [hs.len, hm], hs.size, ?_⟩ ?_
    · exact h0.wr hw (hnew _ hp)
    · refine .inr ⟨b', o, _, hp, hw.same, hfit, ?_, ?_⟩
      · rw [setAll_size]
        rcases hs.own with ⟨h9, _⟩ | ⟨b2, o2, arr2, hp2, hb2, _, h10, _⟩
        · rw [hp] at h9; cases h9
        · rw [hp] at hp2
          simp at hp2
          obtain ⟨rfl, rfl⟩ := hp2
          rw [hb] at hb2
          simp at hb2
          rw [hb2]; exact h10
      · have hrow : xs.flatMap enc = (arr.toList.drop o).take (n * inf.size) := by
          rcases hs.own with ⟨h9, _⟩ | ⟨b2, o2, arr2, hp2, hb2, _, _, h11⟩
          · rw [hp] at h9; cases h9
          · rw [hp] at hp2
            simp at hp2
            obtain ⟨rfl, rfl⟩ := hp2
            rw [hb] at hb2
            simp at hb2
            rw [hb2]; exact h11
        have := row_append (arr := arr) (o := o) (k := n * inf.size) (ys := ys.flatMap enc) (by rw [hyl]; rw [Nat.add_mul] at hsz; omega)
        rw [hyl] at this
        rw [Nat.add_mul, this, ← hrow]
        simp
    · intro b2 o2 hb2 hne
      refine hw.keep hb2 ?_
      have := hne _ hp
      exact Ne.symm this
  · intro c' b' H' hc' ha
    refine h3 _ c' H' (h0.al ha) ?_ ⟨by simp [hs.len, hm], hs.size, ?_⟩ (fun b2 o2 hb2 _ => ha.keep hb2)
    · intro a hab
      simp at hab
      subst hab
      cases hc : H0 b' with
      | none => rfl
      | some y => have := h0 _ _ hc; rw [ha.fresh] at this; cases this
    · have hl : (xs.flatMap enc ++ ys.flatMap enc).length = (n + m) * inf.size := by
        rw [List.length_append, flat_len hs.size, hyl, hs.len, Nat.add_mul]
      refine .inr ⟨b', 0, _, rfl, ha.same, hc', ?_, ?_⟩
      · simp only [Nat.zero_add, Array.size_append, List.size_toArray, zeroCells_eq, hl, hzs]
        rw [← Nat.add_mul, show n + m + (c' - (n + m)) = c' by omega]
        exact Nat.le_refl _
      · rw [List.drop_zero, Array.toList_append, List.flatMap_append]
        rw [List.take_append_of_le_length (by simp [hl]), List.take_of_length_le (by simp [hl])]

theorem OwnL.flat {α : Type} {H : Heap} {T sz : Nat} {enc : α → List Value} {p : Option Addr} {n c : Nat} {xs : List α} (h : OwnL H T sz enc p n c xs) (hn : 0 < n) : ∃ b o, p = some ⟨b, o, none⟩ ∧ Cells H b o (xs.flatMap enc) := by
  obtain ⟨b, o, rfl⟩ := h.isSome (by have := h.len; omega)
  exact ⟨b, o, rfl, h.own.cells⟩

theorem flat_cells {α : Type} {H : Heap} {sz b o : Nat} {enc : α → List Value} {xs : List α} (hz : ∀ x, (enc x).length = sz) (hx : 0 < xs.length) (hall : ∀ i (hi : i < xs.length), Cells H b (o + i * sz) (enc xs[i])) : Cells H b o (xs.flatMap enc) := by
  obtain ⟨c, T, fr, hb, _⟩ := hall 0 hx
  refine ⟨c, T, fr, hb, fun j hj => ?_⟩
  rw [flat_len hz] at hj
  have hsz : 0 < sz := by
    rcases Nat.eq_zero_or_pos sz with h | h
    · subst h; simp at hj
    · exact h
  have hi : j / sz < xs.length := (Nat.div_lt_iff_lt_mul hsz).2 hj
  have ht : j % sz < sz := Nat.mod_lt _ hsz
  obtain ⟨c', T', fr', hb', hc⟩ := hall (j / sz) hi
  rw [hb] at hb'
  simp at hb'
  obtain ⟨rfl, rfl, rfl⟩ := hb'
  have h1 := hc (j % sz) (by rw [hz]; exact ht)
  have hjd : j / sz * sz + j % sz = j := by rw [Nat.mul_comm]; exact Nat.div_add_mod j sz
  rw [Nat.add_assoc, hjd] at h1
  rw [h1, ← flat_get hz xs (j / sz) hi, List.getElem?_take, if_pos ht, List.getElem?_drop, hjd]

end Go.Eng
