/-
  CONTRACTS, PART C: slices.Reverse at legs, at manifests.
-/
import Derived.Test.Qxb6500694aGreatDoorCb
namespace Go.Proofs.Qxb6500694aGreatDoor
open Go Go.Eng Go.Proofs
set_option maxRecDepth 100000
set_option linter.unusedVariables false
set_option linter.unusedSimpArgs false

/-- Half way of a reversal. -/
def Half {α : Type} (xs ys : List α) (i : Nat) : Prop :=
  ys.length = xs.length ∧ ∀ k, k < xs.length → ys[k]? = if k < i ∨ xs.length ≤ k + i then xs[xs.length - 1 - k]? else xs[k]?

theorem Half.start {α : Type} (xs : List α) : Half xs xs 0 :=
  ⟨rfl, fun k hk => by rw [if_neg (by omega)]⟩

theorem Half.done {α : Type} {xs ys : List α} {i : Nat} (h : Half xs ys i) (hi : xs.length ≤ 2 * i + 1) : ys = xs.reverse := by
  apply List.ext_getElem?
  intro k
  by_cases hk : k < xs.length
  · rw [h.2 k hk, List.getElem?_reverse hk]
    split
    · rfl
    · congr 1; omega
  · rw [List.getElem?_eq_none (by rw [h.1]; omega), List.getElem?_eq_none (by simp; omega)]

theorem Half.step {α : Type} {xs ys : List α} {i j : Nat} (h : Half xs ys i) (hij : i + j + 1 = xs.length) (hlt : i < j) {a b : α} (ha : ys[i]? = some a) (hb : ys[j]? = some b) :
    Half xs ((ys.set i b).set j a) (i + 1) := by
  have hl := h.1
  refine ⟨by simp [hl], fun k hk => ?_⟩
  have h1 := h.2 i (by omega)
  have h2 := h.2 j (by omega)
  rw [ha, if_neg (by omega)] at h1
  rw [hb, if_neg (by omega)] at h2
  rw [List.getElem?_set, List.getElem?_set]
  by_cases hkj : j = k
  · subst hkj
    rw [if_pos rfl, if_pos (by rw [List.length_set]; omega), if_pos (by omega)]
    rw [h1]; congr 1; omega
  · rw [if_neg hkj]
    by_cases hki : i = k
    · subst hki
      rw [if_pos rfl, if_pos (by omega), if_pos (by omega), h2]; congr 1; omega
    · rw [if_neg hki, h.2 k hk]
      by_cases hc : k < i ∨ xs.length ≤ k + i
      · rw [if_pos hc, if_pos (by omega)]
      · rw [if_neg hc, if_neg (by omega)]

section
variable {H : Heap}

theorem f104_L1_ht {q : Option Addr} {n c : Nat} {xs : List Leg} (hn : n < 2 ^ 32) (hlen : n = xs.length) (hnew : New H q) :
    ∀ (k i : Nat) (j : Int), (j - i + 1).toNat ≤ k → (i : Int) + j + 1 = n → ∀ (ys : List Leg) (h : Heap), Sub H h → Legs h q n c ys → Half xs ys i →
      f104_L1 q n c (i : Int) j h fun v H' => v = .tuple #[] ∧ Sub H H' ∧ Legs H' q n c xs.reverse := by
  intro k
  induction k with
  | zero =>
    intro i j hk hij ys h hs ho hh
    apply f104_L1_of
    refine ⟨fun hd => absurd (of_decide_eq_true hd) (by omega), fun _ => ⟨rfl, hs, ?_⟩⟩
    rw [← hh.done (by omega)]; exact ho
  | succ k ih =>
    intro i j hk hij ys h hs ho hh
    apply f104_L1_of
    refine ⟨fun hd => ?_, fun hd => ?_⟩
    · have hd := of_decide_eq_true hd
      obtain ⟨j, rfl⟩ : ∃ j' : Nat, j = (j' : Int) := ⟨j.toNat, by omega⟩
      have hyl := hh.1
      obtain ⟨b, o, arr, hp, hb, hsz, hcj, _⟩ := ho.at (i := j) (by omega)
      obtain ⟨b', o', arr', hp', hb', hsz', hci, hw1⟩ := ho.at (i := i) (by omega)
      rw [hp] at hp'; simp at hp'; obtain ⟨rfl, rfl⟩ := hp'
      rw [hb] at hb'; simp at hb'; subst hb'
      refine ⟨b, o, hp, by omega, by omega, _, _, _, hcj, b, o, hp, by omega, by omega, _, _, _, hci, b, o, hp, by omega, by omega, arr, _, hb, hsz', fun hp1 hwr1 => ?_⟩
      have ho1 := hw1 ys[j] hp1 hwr1
      obtain ⟨b2, o2, arr2, hp2, hb2, hsz2, _, hw2⟩ := ho1.at (i := j) (by rw [List.length_set]; omega)
      rw [hp] at hp2; simp at hp2; obtain ⟨rfl, rfl⟩ := hp2
      refine ⟨b, o, hp, by omega, by omega, arr2, _, hb2, hsz2, fun hp2 hwr2 => ?_⟩
      have ho2 := hw2 ys[i] hp2 hwr2
      rw [wrapS (by omega), wrapP (by omega) (by omega)]
      have hnb : H b = none := hnew _ hp
      exact ih (i + 1) _ (by omega) (by omega) _ hp2 ((hs.wr hwr1 hnb).wr hwr2 hnb) ho2 (hh.step (by omega) (by omega) (List.getElem?_eq_getElem _) (List.getElem?_eq_getElem _))
    · have hd := of_decide_eq_false hd
      refine ⟨rfl, hs, ?_⟩
      rw [← hh.done (by omega)]; exact ho

theorem f104_ht {h : Heap} {q : Option Addr} {n c : Nat} {xs : List Leg} (hn : n < 2 ^ 32) (hnew : New H q) (hs : Sub H h) (ho : Legs h q n c xs) :
    HT Tryz.prog 104 [.slice q n c] h fun v H' => v = .tuple #[] ∧ Sub H H' ∧ Legs H' q n c xs.reverse := by
  apply f104_of
  unfold f104_pre
  rw [wrapI (by omega) (by omega)]
  exact f104_L1_ht hn ho.len hnew n 0 _ (by omega) (by omega) xs h hs ho (Half.start xs)

theorem f141_L1_ht {q : Option Addr} {n c : Nat} {xs : List Man} (hn : n < 2 ^ 32) (hlen : n = xs.length) (hnew : New H q) :
    ∀ (k i : Nat) (j : Int), (j - i + 1).toNat ≤ k → (i : Int) + j + 1 = n → ∀ (ys : List Man) (h : Heap), Sub H h → Mans h q n c ys → Half xs ys i →
      f141_L1 q n c (i : Int) j h fun v H' => v = .tuple #[] ∧ Sub H H' ∧ Mans H' q n c xs.reverse := by
  intro k
  induction k with
  | zero =>
    intro i j hk hij ys h hs ho hh
    apply f141_L1_of
    refine ⟨fun hd => absurd (of_decide_eq_true hd) (by omega), fun _ => ⟨rfl, hs, ?_⟩⟩
    rw [← hh.done (by omega)]; exact ho
  | succ k ih =>
    intro i j hk hij ys h hs ho hh
    apply f141_L1_of
    refine ⟨fun hd => ?_, fun hd => ?_⟩
    · have hd := of_decide_eq_true hd
      obtain ⟨j, rfl⟩ : ∃ j' : Nat, j = (j' : Int) := ⟨j.toNat, by omega⟩
      have hyl := hh.1
      obtain ⟨b, o, arr, hp, hb, hsz, hcj, _⟩ := ho.at (i := j) (by omega)
      obtain ⟨b', o', arr', hp', hb', hsz', hci, hw1⟩ := ho.at (i := i) (by omega)
      rw [hp] at hp'; simp at hp'; obtain ⟨rfl, rfl⟩ := hp'
      rw [hb] at hb'; simp at hb'; subst hb'
      refine ⟨b, o, hp, by omega, by omega, _, _, _, _, _, _, _, _, hcj, b, o, hp, by omega, by omega, _, _, _, _, _, _, _, _, hci, b, o, hp, by omega, by omega, arr, _, hb, hsz', fun hp1 hwr1 => ?_⟩
      have ho1 := hw1 ys[j] hp1 hwr1
      obtain ⟨b2, o2, arr2, hp2, hb2, hsz2, _, hw2⟩ := ho1.at (i := j) (by rw [List.length_set]; omega)
      rw [hp] at hp2; simp at hp2; obtain ⟨rfl, rfl⟩ := hp2
      refine ⟨b, o, hp, by omega, by omega, arr2, _, hb2, hsz2, fun hp2 hwr2 => ?_⟩
      have ho2 := hw2 ys[i] hp2 hwr2
      rw [wrapS (by omega), wrapP (by omega) (by omega)]
      have hnb : H b = none := hnew _ hp
      exact ih (i + 1) _ (by omega) (by omega) _ hp2 ((hs.wr hwr1 hnb).wr hwr2 hnb) ho2 (hh.step (by omega) (by omega) (List.getElem?_eq_getElem _) (List.getElem?_eq_getElem _))
    · have hd := of_decide_eq_false hd
      refine ⟨rfl, hs, ?_⟩
      rw [← hh.done (by omega)]; exact ho

theorem f141_ht {h : Heap} {q : Option Addr} {n c : Nat} {xs : List Man} (hn : n < 2 ^ 32) (hnew : New H q) (hs : Sub H h) (ho : Mans h q n c xs) :
    HT Tryz.prog 141 [.slice q n c] h fun v H' => v = .tuple #[] ∧ Sub H H' ∧ Mans H' q n c xs.reverse := by
  apply f141_of
  unfold f141_pre
  rw [wrapI (by omega) (by omega)]
  exact f141_L1_ht hn ho.len hnew n 0 _ (by omega) (by omega) xs h hs ho (Half.start xs)

end

end Go.Proofs.Qxb6500694aGreatDoor
