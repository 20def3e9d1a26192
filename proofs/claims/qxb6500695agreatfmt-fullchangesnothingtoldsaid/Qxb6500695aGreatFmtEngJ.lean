/-
  THE ENGINE, PART J: slices of things; append of one.
-/
import Derived.Test.Qxb6500695aGreatFmtEngI
namespace Go.Eng
open Go
set_option linter.unusedSimpArgs false

theorem flat_len {α : Type} {enc : α → List Value} {sz : Nat} (he : ∀ x, (enc x).length = sz) : ∀ xs : List α, (xs.flatMap enc).length = xs.length * sz
  | [] => by simp
  | x :: xs => by
    rw [List.flatMap_cons, List.length_append, he, flat_len he xs, List.length_cons, Nat.add_mul]
    omega

theorem flat_get {α : Type} {enc : α → List Value} {sz : Nat} (he : ∀ x, (enc x).length = sz) : ∀ (xs : List α) (i : Nat) (hi : i < xs.length), ((xs.flatMap enc).drop (i * sz)).take sz = enc xs[i]
  | x :: xs, 0, _ => by
    simp only [List.flatMap_cons, Nat.zero_mul, List.drop_zero, List.getElem_cons_zero]
    rw [List.take_append_of_le_length (by rw [he]; exact Nat.le_refl _), List.take_of_length_le (by rw [he]; exact Nat.le_refl _)]
  | x :: xs, i + 1, hi => by
    simp only [List.flatMap_cons, List.getElem_cons_succ]
    rw [Nat.add_mul, Nat.one_mul, Nat.add_comm, ← List.drop_drop]
    have : ((enc x ++ xs.flatMap enc).drop sz) = xs.flatMap enc := by
      rw [List.drop_append_of_le_length (by rw [he]; exact Nat.le_refl _), List.drop_eq_nil_of_le (by rw [he]; exact Nat.le_refl _)]
      simp
    rw [this]
    exact flat_get he xs i (by simpa using hi)

/-- A slice that holds xs, each laid by enc into sz cells of an array of T. -/
structure OwnL {α : Type} (H : Heap) (T sz : Nat) (enc : α → List Value) (p : Option Addr) (n c : Nat) (xs : List α) : Prop where
  len : n = xs.length
  size : ∀ x, (enc x).length = sz
  own : Own H T sz p n c (xs.flatMap enc)

section
variable {α : Type} {H H' : Heap} {T sz : Nat} {enc : α → List Value} {p : Option Addr} {n c : Nat} {xs : List α}

theorem OwnL.nil (hs : ∀ x, (enc x).length = sz) : OwnL H T sz enc none 0 0 [] :=
  ⟨rfl, hs, .inl ⟨rfl, rfl, rfl, rfl⟩⟩

/-- Where the element i lies. -/
theorem OwnL.cells (h : OwnL H T sz enc p n c xs) {i : Nat} (hi : i < xs.length) : ∃ b o, p = some ⟨b, o, none⟩ ∧ Cells H b (o + i * sz) (enc xs[i]) := by
  rcases h.own with ⟨_, h2, _, _⟩ | ⟨b, o, arr, hp, hb, h3, h4, h5⟩
  · have := h.len; omega
  · refine ⟨b, o, hp, ?_⟩
    have hc : Cells H b o (xs.flatMap enc) := by rw [hp] at h; exact h.own.cells
    refine hc.part (i * sz) ?_ ?_
    · rw [h.size]; exact flat_get h.size xs i hi
    · rw [h.size, flat_len h.size]
      have : (i + 1) * sz ≤ xs.length * sz := Nat.mul_le_mul_right _ hi
      rw [Nat.add_mul] at this
      omega

theorem OwnL.keep (h : OwnL H T sz enc p n c xs) (hk : ∀ a, p = some a → H' a.block = H a.block) : OwnL H' T sz enc p n c xs := by
  refine ⟨h.len, h.size, ?_⟩
  rcases h.own with h1 | ⟨b, o, arr, hp, hb, h3, h4, h5⟩
  · exact .inl h1
  · exact .inr ⟨b, o, arr, hp, by rw [hk _ hp]; exact hb, h3, h4, h5⟩

theorem OwnL.sub (h : OwnL H T sz enc p n c xs) (hs : Sub H H') : OwnL H' T sz enc p n c xs := by
  refine ⟨h.len, h.size, ?_⟩
  rcases h.own with h1 | ⟨b, o, arr, hp, hb, h3, h4, h5⟩
  · exact .inl h1
  · exact .inr ⟨b, o, arr, hp, hs _ _ hb, h3, h4, h5⟩

theorem OwnL.lenc (h : OwnL H T sz enc p n c xs) : n ≤ c := by
  rcases h.own with ⟨_, h2, h3, _⟩ | ⟨b, o, arr, hp, hb, h3, h4, h5⟩
  · omega
  · exact h3

end

/-- The slice's array is not of H0. -/
def New (H0 : Heap) (p : Option Addr) : Prop := ∀ a, p = some a → H0 a.block = none

theorem New.none (H0 : Heap) : New H0 none := fun _ h => by cases h

theorem setAll_size (vs : List Value) : ∀ (c : Array Value) (off : Nat), (setAll c off vs).size = c.size := by
  induction vs with
  | nil => intro c off; rfl
  | cons v vs ih => intro c off; simp only [setAll]; rw [ih]; simp

theorem setAll_get (vs : List Value) : ∀ (c : Array Value) (off i : Nat), off + vs.length ≤ c.size →
    (setAll c off vs)[i]? = if off ≤ i ∧ i < off + vs.length then vs[i - off]? else c[i]? := by
  induction vs with
  | nil => intro c off i _; simp [setAll]; intro h1 h2; omega
  | cons v vs ih =>
    intro c off i hl
    simp only [List.length_cons] at hl
    simp only [setAll]
    rw [ih _ _ _ (by simp; omega)]
    by_cases h1 : off + 1 ≤ i ∧ i < off + 1 + vs.length
    · rw [if_pos h1, if_pos (by simp; omega)]
      rw [show i - off = (i - (off + 1)) + 1 by omega]
      simp
    · rw [if_neg h1]
      by_cases h2 : i = off
      · subst h2
        rw [if_pos (by simp)]
        have : i < c.size := by omega
        simp [this]
      · rw [if_neg (by simp; omega)]
        simp [Ne.symm h2]

/-- What a row holds behind an append in place. -/
theorem row_append {arr : Array Value} {o k : Nat} {ys : List Value} (hl : o + k + ys.length ≤ arr.size) :
    ((setAll arr (o + k) ys).toList.drop o).take (k + ys.length) = (arr.toList.drop o).take k ++ ys := by
  apply List.ext_getElem?
  intro i
  rw [List.getElem?_take, List.getElem?_append]
  have hlen : ((arr.toList.drop o).take k).length = k := by rw [List.length_take, List.length_drop]; simp; omega
  rw [hlen]
  by_cases h1 : i < k
  · rw [if_pos (by omega), if_pos h1, List.getElem?_drop, List.getElem?_take, if_pos h1, List.getElem?_drop]
    have := setAll_get ys arr (o + k) (o + i) (by omega)
    rw [if_neg (by omega)] at this
    simpa using this
  · rw [if_neg h1]
    by_cases h2 : i < k + ys.length
    · rw [if_pos h2, List.getElem?_drop]
      have := setAll_get ys arr (o + k) (o + i) (by omega)
      rw [if_pos (by omega)] at this
      rw [show o + i - (o + k) = i - k by omega] at this
      simpa using this
    · rw [if_neg h2]
      symm
      apply List.getElem?_eq_none
      omega

/-- append(s, x) where x lies in a new block of its own. -/
theorem semOk_append1 {α : Type} {P : Program} {t T ty : TypeId} {inf : TypeInfo} {zero : Value} {p : Option Addr} {n c b : Nat} {xs : List α} {x : α} {enc : α → List Value} {H0 H H1 : Heap} {K : Value → Heap → Prop}
    (ht : P.underlying t = some (.slice T)) (hi : P.info? T = some inf) (hz : inf.zero = some zero) (hzs : zero.cells.size = inf.size) (hby : inf.bytes ≤ 4096)
    (hs : OwnL H T inf.size enc p n c xs) (hx : Cells H1 b 0 (enc x)) (hsub : Sub H H1) (h1 : ∀ v ∈ enc x, v.oneCell' = true) (hn : n < 2 ^ 34)
    (h0 : Sub H0 H1) (hnew : New H0 p)
    (h3 : ∀ p' c' H', Sub H0 H' → New H0 p' → OwnL H' T inf.size enc p' (n + 1) c' (xs ++ [x]) → (∀ b' o', H1 b' = some o' → (∀ a, p = some a → a.block ≠ b') → H' b' = some o') → K (.slice p' (n + 1) c') H') :
    SemOk P (Builtin.append_ #[t, t] ty #[.slice p n c, .slice (some ⟨b, 0, none⟩) 1 1]) H1 K := by
  have hxl := hs.size x
  have hs' := hs.sub hsub
  refine semOk_append (xs := xs.flatMap enc) (ys := enc x) ht hi hz hs'.own ⟨b, 0, rfl, hx⟩ (by rw [hxl]; omega) h1 ?_ (by omega) ?_ ?_ (by omega)
  · have : 2 * (n + 1) * inf.bytes ≤ 2 * (n + 1) * 4096 := Nat.mul_le_mul_left _ hby
    have : 2 * (n + 1) ≤ 2 ^ 36 := by omega
    have h4 : 2 * (n + 1) * 4096 ≤ 2 ^ 36 * 4096 := Nat.mul_le_mul_right _ this
    have : (2 : Nat) ^ 36 * 4096 = 2 ^ 48 := by decide
    omega
  · intro b' o arr H' hp hb hsz hfit hw
    refine h3 p c H' ?_ hnew ⟨by simp [hs.len], hs.size, ?_⟩ ?_
    · refine h0.wr hw ?_
      have := hnew _ hp
      exact this
    · refine .inr ⟨b', o, _, hp, hw.same, hfit, ?_, ?_⟩
      · rw [setAll_size]
        rcases hs'.own with ⟨h9, _⟩ | ⟨b2, o2, arr2, hp2, hb2, _, h10, _⟩
        · rw [hp] at h9; cases h9
        · rw [hp] at hp2
          simp at hp2
          obtain ⟨rfl, rfl⟩ := hp2
          rw [hb] at hb2
          simp at hb2
          rw [hb2]; exact h10
      · have hrow : xs.flatMap enc = (arr.toList.drop o).take (n * inf.size) := by
          rcases hs'.own with ⟨h9, _⟩ | ⟨b2, o2, arr2, hp2, hb2, _, _, h11⟩
          · rw [hp] at h9; cases h9
          · rw [hp] at hp2
            simp at hp2
            obtain ⟨rfl, rfl⟩ := hp2
            rw [hb] at hb2
            simp at hb2
            rw [hb2]; exact h11
        have := row_append (arr := arr) (o := o) (k := n * inf.size) (ys := enc x) (by rw [hxl]; rw [Nat.add_mul] at hsz; omega)
        rw [hxl] at this
        rw [Nat.add_mul, Nat.one_mul, this, ← hrow]
        simp
    · intro b2 o2 hb2 hne
      refine hw.keep hb2 ?_
      have := hne _ hp
      exact Ne.symm this
  · intro c' b' H' hc' ha
    refine h3 _ c' H' (h0.al ha) ?_ ⟨by simp [hs.len], hs.size, ?_⟩ (fun b2 o2 hb2 _ => ha.keep hb2)
    · intro a hab
      simp at hab
      subst hab
      cases hc : H0 b' with
      | none => rfl
      | some y => have := h0 _ _ hc; rw [ha.fresh] at this; cases this
    · refine .inr ⟨b', 0, _, rfl, ha.same, hc', ?_, ?_⟩
      · have hl : (xs.flatMap enc ++ enc x).length = (n + 1) * inf.size := by
          rw [List.length_append, flat_len hs.size, hxl, hs.len, Nat.add_mul, Nat.one_mul]
        simp only [Nat.zero_add, Array.size_append, List.size_toArray, zeroCells_eq, hl, hzs]
        rw [← Nat.add_mul, show n + 1 + (c' - (n + 1)) = c' by omega]
        exact Nat.le_refl _
      · have hl : (xs.flatMap enc ++ enc x).length = (n + 1) * inf.size := by
          rw [List.length_append, flat_len hs.size, hxl, hs.len, Nat.add_mul, Nat.one_mul]
        rw [List.drop_zero, Array.toList_append]
        simp only [List.flatMap_append, List.flatMap_cons, List.flatMap_nil, List.append_nil]
        rw [List.take_append_of_le_length (by rw [hl]; exact Nat.le_refl _), List.take_of_length_le (by rw [hl]; exact Nat.le_refl _)]

end Go.Eng
