/-
  ENGINE, PART K: lists that are owned: one element turned; append of one, with all the rest named.
-/
import Derived.Test.Qxb6500695aGreatFmtEngJ
namespace Go.Eng
open Go
set_option maxRecDepth 100000
set_option linter.unusedVariables false
set_option linter.unusedSimpArgs false

theorem flat_of_chunks {α : Type} {enc : α → List Value} {sz : Nat} (he : ∀ x, (enc x).length = sz) : ∀ (xs : List α) (l : List Value), l.length = xs.length * sz →
    (∀ i (hi : i < xs.length), (l.drop (i * sz)).take sz = enc xs[i]) → l = xs.flatMap enc
  | [], l, hl, _ => by
    simp at hl; simp [hl]
  | x :: xs, l, hl, hc => by
    have h0 := hc 0 (by simp)
    simp only [Nat.zero_mul, List.drop_zero, List.getElem_cons_zero] at h0
    have ih := flat_of_chunks he xs (l.drop sz) (by rw [List.length_drop, hl, List.length_cons, Nat.add_mul]; omega) (fun i hi => by
      have := hc (i + 1) (by simp; omega)
      rw [List.drop_drop]
      simp only [List.getElem_cons_succ] at this
      rw [← this, Nat.add_mul, Nat.one_mul, Nat.add_comm])
    rw [List.flatMap_cons, ← h0, ← ih, List.take_append_drop]

section
variable {α : Type} {H H' : Heap} {T sz : Nat} {enc : α → List Value} {p : Option Addr} {n c : Nat} {xs : List α}

/-- Where an owned list may be written. -/
theorem OwnL.at (h : OwnL H T sz enc p n c xs) {i : Nat} (hi : i < xs.length) :
    ∃ b o arr, p = some ⟨b, o, none⟩ ∧ H b = some (.cells arr T (0, 0)) ∧ (o + i * sz) + sz ≤ arr.size ∧ Cells H b (o + i * sz) (enc xs[i]) ∧
      ∀ x H', Wr H b (.cells (setAll arr (o + i * sz) (enc x)) T (0, 0)) H' → OwnL H' T sz enc p n c (xs.set i x) := by
  have hcell := h.cells hi
  rcases h.own with ⟨_, h2, _, _⟩ | ⟨b, o, arr, hp, hb, h3, h4, h5⟩
  · have := h.len; omega
  · have hsz : o + i * sz + sz ≤ arr.size := by
      have h6 : (i + 1) * sz ≤ c * sz := Nat.mul_le_mul_right _ (by have := h.len; omega)
      rw [Nat.add_mul] at h6
      omega
    refine ⟨b, o, arr, hp, hb, hsz, ?_, ?_⟩
    · obtain ⟨b', o', hp', hc⟩ := hcell
      rw [hp] at hp'
      simp at hp'
      obtain ⟨rfl, rfl⟩ := hp'
      exact hc
    · intro x H' hw
      refine ⟨by rw [List.length_set]; exact h.len, h.size, .inr ⟨b, o, _, hp, hw.same, h3, by rw [setAll_size]; exact h4, ?_⟩⟩
      symm
      have hn := h.len
      have hncz : n * sz ≤ c * sz := Nat.mul_le_mul_right _ h3
      apply flat_of_chunks h.size
      · rw [List.length_take, List.length_drop, List.length_set, Array.length_toList, setAll_size, hn]
        rw [hn] at hncz
        omega
      · intro j hj
        rw [List.length_set] at hj
        have hj1 : (j + 1) * sz ≤ n * sz := Nat.mul_le_mul_right _ (by omega)
        rw [Nat.add_mul] at hj1
        have hold := flat_get h.size xs j hj
        rw [h5] at hold
        apply List.ext_getElem?
        intro k
        rw [List.getElem?_take, List.getElem_set]
        by_cases hk : k < sz
        · rw [if_pos hk, List.getElem?_drop, List.getElem?_take, if_pos (by omega), List.getElem?_drop, Array.getElem?_toList, setAll_get _ _ _ _ (by rw [h.size]; omega), h.size]
          by_cases hij : i = j
          · subst hij
            rw [if_pos (by omega), if_pos rfl]
            congr 1
            omega
          · have hR : (enc xs[j])[k]? = arr[o + (j * sz + k)]? := by
              rw [← hold, List.getElem?_take, if_pos hk, List.getElem?_drop, List.getElem?_take, if_pos (by omega), List.getElem?_drop, Array.getElem?_toList]
            rw [if_neg hij, hR, if_neg]
            intro ⟨h7, h8⟩
            rcases Nat.lt_or_gt_of_ne hij with hl | hl
            · have : (i + 1) * sz ≤ j * sz := Nat.mul_le_mul_right _ hl
              rw [Nat.add_mul] at this
              omega
            · have : (j + 1) * sz ≤ i * sz := Nat.mul_le_mul_right _ hl
              rw [Nat.add_mul] at this
              omega
        · rw [if_neg hk]
          symm
          rw [List.getElem?_eq_none]
          split
          · rw [h.size]; omega
          · rw [h.size]; omega

/-- append of one element that was just laid. -/
theorem app1 {P : Program} {t ty : TypeId} {inf : TypeInfo} {zero : Value} {b : Nat} {x : α} {arr : Array Value} {H0 H1 : Heap} {K : Value → Heap → Prop}
    (ht : P.underlying t = some (.slice T)) (hi : P.info? T = some inf) (hz : inf.zero = some zero) (hzs : zero.cells.size = inf.size) (hby : inf.bytes ≤ 4096) (hsz : inf.size = sz)
    (ha : Al H (.cells arr T (0, 0)) b H1) (harr : arr.toList = enc x) (h1 : ∀ v ∈ enc x, v.oneCell' = true)
    (hs : OwnL H T sz enc p n c xs) (hn : n < 2 ^ 34) (h0 : Sub H0 H) (hnew : New H0 p)
    (h3 : ∀ p' c' H', Sub H0 H' → New H0 p' → OwnL H' T sz enc p' (n + 1) c' (xs ++ [x]) → (∀ b' o', H b' = some o' → (∀ a, p = some a → a.block ≠ b') → H' b' = some o') → K (.slice p' (n + 1) c') H') :
    SemOk P (Builtin.append_ #[t, t] ty #[.slice p n c, .slice (some ⟨b, 0, none⟩) 1 1]) H1 K := by
  subst hsz
  refine semOk_append1 ht hi hz hzs hby hs (H1 := H1) ?_ ha.sub h1 hn (h0.al ha) hnew ?_
  · refine Cells.of ha.same ?_
    rw [harr, List.drop_zero, List.take_of_length_le (Nat.le_refl _)]
  · intro p' c' H' a1 a2 a3 a4
    exact h3 p' c' H' a1 a2 a3 fun b' o' hb hne => a4 b' o' (ha.keep hb) hne

theorem OwnL.isSome (h : OwnL H T sz enc p n c xs) (hx : 0 < xs.length) : ∃ b o, p = some ⟨b, o, none⟩ :=
  let ⟨b, o, h1, _⟩ := h.cells hx
  ⟨b, o, h1⟩

end

end Go.Eng
