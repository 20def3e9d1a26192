/-
  THE PLANE, PART N: the sort of at most twelve integers.
-/
import Derived.Test.Qxb6500695aGreatFmtXm
import Derived.Test.Qxb6500695aGreatFmtVh
namespace Go.Proofs.Qxb6500695aGreatFmt
open Go Go.Eng Go.Proofs
set_option maxRecDepth 100000
set_option linter.unusedVariables false
set_option linter.unusedSimpArgs false
set_option linter.unusedSectionVars false

def I64.cs (x : Int) : List Value := [.int .i64 x]
theorem I64.size (x : Int) : (I64.cs x).length = 1 := rfl

section
variable {H : Heap}

theorem f223_ht {n : Nat} (hn : n ≤ 12) : HT Tryz.prog 223 [.int .u64 (n : Int)] H fun v H' => H' = H ∧ ∃ x, v = .int .i64 x := by
  apply f223_of
  refine ⟨fun hd => absurd (of_decide_eq_true hd) (by omega), fun _ => ?_⟩
  apply f223_L1_of
  refine ⟨fun hd => absurd (of_decide_eq_true hd) (by omega), fun _ => ?_⟩
  apply f223_L2_of
  refine ⟨fun hd => absurd (of_decide_eq_true hd) (by omega), fun _ => ?_⟩
  apply f223_L3_of
  match n, hn with
  | 0, _ => exact ⟨0, fun w => by kernel_rfl, rfl, _, rfl⟩
  | 1, _ => exact ⟨1, fun w => by kernel_rfl, rfl, _, rfl⟩
  | 2, _ => exact ⟨2, fun w => by kernel_rfl, rfl, _, rfl⟩
  | 3, _ => exact ⟨2, fun w => by kernel_rfl, rfl, _, rfl⟩
  | 4, _ => exact ⟨3, fun w => by kernel_rfl, rfl, _, rfl⟩
  | 5, _ => exact ⟨3, fun w => by kernel_rfl, rfl, _, rfl⟩
  | 6, _ => exact ⟨3, fun w => by kernel_rfl, rfl, _, rfl⟩
  | 7, _ => exact ⟨3, fun w => by kernel_rfl, rfl, _, rfl⟩
  | 8, _ => exact ⟨4, fun w => by kernel_rfl, rfl, _, rfl⟩
  | 9, _ => exact ⟨4, fun w => by kernel_rfl, rfl, _, rfl⟩
  | 10, _ => exact ⟨4, fun w => by kernel_rfl, rfl, _, rfl⟩
  | 11, _ => exact ⟨4, fun w => by kernel_rfl, rfl, _, rfl⟩
  | 12, _ => exact ⟨4, fun w => by kernel_rfl, rfl, _, rfl⟩

theorem f248_ht (x : Int) : HT Tryz.prog 248 [.int .i64 x] H fun v H' => H' = H ∧ v = .bool false := by
  apply f248_of
  exact ⟨rfl, by simp⟩

theorem f231_ht (x y : Int) : HT Tryz.prog 231 [.int .i64 x, .int .i64 y] H fun v H' => H' = H ∧ v = .bool (decide (x < y)) := by
  apply f231_of
  refine (f248_ht x).mono fun v H1 ⟨he, hv⟩ => ⟨false, hv, (fun h => by cases h), fun _ => ⟨he, rfl⟩⟩

/-- Sorted, as far as m. -/
def SrtTo (m : Nat) (ys : List Int) : Prop := ∀ i j (hi : i < ys.length) (hj : j < ys.length), i < j → j < m → ys[i] ≤ ys[j]

/-- Sorted, as far as m, but for what stands at k. -/
def SrtBut (m k : Nat) (ys : List Int) : Prop := ∀ i j (hi : i < ys.length) (hj : j < ys.length), i < j → j < m → j ≠ k → ys[i] ≤ ys[j]

theorem swap_but {m j : Nat} {xs : List Int} (hj : j + 1 < xs.length) (h : SrtBut m (j + 1) xs) (hlt : xs[j + 1] < xs[j]) : SrtBut m j ((xs.set (j + 1) xs[j]).set j xs[j + 1]) := by
  intro a b ha hb hab hbm hbj
  have e : ∀ c (hc : c < xs.length) (hc2 : c < ((xs.set (j + 1) xs[j]).set j xs[j + 1]).length), ((xs.set (j + 1) xs[j]).set j xs[j + 1])[c]'hc2 = if j = c then xs[j + 1] else if j + 1 = c then xs[j] else xs[c] := fun c hc hc2 => by
    rw [List.getElem_set, List.getElem_set]
  have ha' : a < xs.length := by simpa using ha
  have hb' : b < xs.length := by simpa using hb
  have eb : ((xs.set (j + 1) xs[j]).set j xs[j + 1])[b]'hb = if j + 1 = b then xs[j] else xs[b] := by
    rw [e b hb' hb, if_neg (fun hc => hbj hc.symm)]
  rw [e a ha' ha, eb]
  by_cases b1 : j + 1 = b
  · rw [if_pos b1]
    by_cases a1 : j = a
    · subst a1
      rw [if_pos rfl]
      omega
    · rw [if_neg a1, if_neg (by omega)]
      exact h a j ha' (by omega) (by omega) (by omega) (by omega)
  · rw [if_neg b1]
    by_cases a1 : j = a
    · rw [if_pos a1]
      exact h (j + 1) b hj hb' (by omega) hbm (fun hc => b1 hc.symm)
    · rw [if_neg a1]
      by_cases a2 : j + 1 = a
      · rw [if_pos a2]
        exact h j b (by omega) hb' (by omega) hbm (fun hc => b1 hc.symm)
      · rw [if_neg a2]
        exact h a b ha' hb' hab hbm (fun hc => b1 hc.symm)

theorem but_to {m j : Nat} {xs : List Int} (hj : j + 1 < xs.length) (h : SrtBut m (j + 1) xs) (hge : ¬ xs[j + 1] < xs[j]) : SrtTo m xs := by
  intro a b ha hb hab hbm
  by_cases b1 : b = j + 1
  · subst b1
    by_cases a1 : a = j
    · subst a1; omega
    · have := h a j ha (by omega) (by omega) (by omega) (by omega)
      omega
  · exact h a b ha hb hab hbm b1

/-- What the sort leaves: the same numbers; only their array has turned. -/
def sortPost (H : Heap) (b : Nat) (p : Option Addr) (n c : Nat) (xs : List Int) (v : Value) (H' : Heap) : Prop :=
  v = .tuple #[] ∧ ∃ ys : List Int, (ys.Perm xs ∧ SrtTo n ys) ∧ OwnL H' 2 1 I64.cs p n c ys ∧ (∀ x, x ≠ b → H' x = H x)

theorem swap_perm {α : Type} {l : List α} {i : Nat} (h : i + 1 < l.length) : ((l.set (i + 1) l[i]).set i l[i + 1]).Perm l := by
  induction l generalizing i with
  | nil => simp at h
  | cons x l ih =>
    cases i with
    | zero =>
      cases l with
      | nil => simp at h
      | cons y l => simp; exact List.Perm.swap _ _ _
    | succ i =>
      simp only [List.set_cons_succ, List.getElem_cons_succ]
      exact (ih (by simpa using h)).cons x

theorem f225_L2_ht {b : Nat} {p : Option Addr} {n c : Nat} {xs0 : List Int} {H0 : Heap} (hp : ∃ o, p = some ⟨b, o, none⟩) (hn : n < 2 ^ 32) {i : Nat} (hi : i < n)
    (next : ∀ (H : Heap) (xs : List Int), (xs.Perm xs0 ∧ SrtTo (i + 1) xs) → OwnL H 2 1 I64.cs p n c xs → (∀ x, x ≠ b → H x = H0 x) → f225_L1 p n c 0 (n : Int) ((i + 1 : Nat) : Int) H (sortPost H0 b p n c xs0)) :
    ∀ (j : Nat) (H : Heap) (xs : List Int), j ≤ i → (xs.Perm xs0 ∧ SrtBut (i + 1) j xs) → OwnL H 2 1 I64.cs p n c xs → (∀ x, x ≠ b → H x = H0 x) → f225_L2 p n c 0 (n : Int) (i : Int) (j : Int) H (sortPost H0 b p n c xs0) := by
  obtain ⟨o, hp⟩ := hp
  have fin : ∀ (j : Nat) (H : Heap) (xs : List Int), (xs.Perm xs0 ∧ SrtTo (i + 1) xs) → OwnL H 2 1 I64.cs p n c xs → (∀ x, x ≠ b → H x = H0 x) → f225_L3 p n c 0 (n : Int) (i : Int) (j : Int) false H (sortPost H0 b p n c xs0) := by
    intro j H xs hperm ho hk
    apply f225_L3_of
    refine ⟨(fun h => by cases h), fun _ => ?_⟩
    apply f225_L4_of
    unfold f225_L4_pre
    rw [wrapS (by omega)]
    exact next H xs hperm ho hk
  intro j
  induction j with
  | zero =>
    intro H xs hj hperm ho hk
    apply f225_L2_of
    exact ⟨fun hd => absurd (of_decide_eq_true hd) (by omega), fun _ => fin 0 H xs ⟨hperm.1, fun a b ha hb hab hm => hperm.2 a b ha hb hab hm (by omega)⟩ ho hk⟩
  | succ j ih =>
    intro H xs hj hperm ho hk
    have hlen := ho.len
    apply f225_L2_of
    refine ⟨fun _ => ?_, fun hd => absurd (of_decide_eq_false hd) (by simp)⟩
    have hwj : IntKind.wrap .i64 (((j + 1 : Nat) : Int) - 1) = (j : Int) := by rw [wrapI] <;> omega
    obtain ⟨b1, o1, arr1, hp1, hb1, hf1, hc1, hset1⟩ := ho.at (i := j + 1) (by omega)
    obtain ⟨b2, o2, arr2, hp2, hb2, hf2, hc2, hset2⟩ := ho.at (i := j) (by omega)
    rw [hp] at hp1 hp2
    simp at hp1 hp2
    obtain ⟨rfl, rfl⟩ := hp1
    obtain ⟨rfl, rfl⟩ := hp2
    rw [hb1] at hb2
    simp at hb2
    subst hb2
    rw [hwj]
    refine ⟨b, o, hp, by omega, by omega, _, by simpa [I64.cs] using hc1, b, o, hp, by omega, by omega, _, by simpa [I64.cs] using hc2, ?_⟩
    refine (f231_ht _ _).mono fun v H1 ⟨he, hv⟩ => ⟨_, hv, ?_⟩
    subst he
    by_cases hlt : xs[j + 1] < xs[j]
    · rw [decide_eq_true hlt]
      apply f225_L3_of
      refine ⟨fun _ => ?_, fun hx => by cases hx⟩
      rw [hwj]
      refine ⟨b, o, hp, by omega, by omega, _, by simpa [I64.cs] using hc2, b, o, hp, by omega, by omega, _, by simpa [I64.cs] using hc1, b, o, hp, by omega, by omega, arr1, 2, hb1, by simpa using hf1, fun H2 hw2 => ?_⟩
      have ho2 := hset1 xs[j] H2 (by simpa [I64.cs] using hw2)
      obtain ⟨b3, o3, arr3, hp3, hb3, hf3, hc3, hset3⟩ := ho2.at (i := j) (by simp; omega)
      rw [hp] at hp3
      simp at hp3
      obtain ⟨rfl, rfl⟩ := hp3
      refine ⟨b, o, hp, by omega, by omega, arr3, 2, hb3, by simpa using hf3, fun H3 hw3 => ?_⟩
      have ho3 := hset3 xs[j + 1] H3 (by simpa [I64.cs] using hw3)
      exact ih H3 _ (by omega) ⟨(swap_perm (by omega)).trans hperm.1, swap_but (by omega) hperm.2 hlt⟩ ho3 fun x hx => by rw [hw3.other hx, hw2.other hx]; exact hk x hx
    · rw [decide_eq_false hlt]
      exact fin (j + 1) H1 xs ⟨hperm.1, but_to (by omega) hperm.2 hlt⟩ ho hk

theorem f225_ht {b : Nat} {p : Option Addr} {n c : Nat} {xs : List Int} (hp : ∃ o, p = some ⟨b, o, none⟩) (hn : n < 2 ^ 32) (ho : OwnL H 2 1 I64.cs p n c xs) :
    HT Tryz.prog 225 [.slice p n c, .int .i64 0, .int .i64 (n : Int)] H (sortPost H b p n c xs) := by
  apply f225_of
  have loop : ∀ (k i : Nat) (H1 : Heap) (ys : List Int), i + k = n ∨ (k = 0 ∧ n ≤ i) → (ys.Perm xs ∧ SrtTo i ys) → OwnL H1 2 1 I64.cs p n c ys → (∀ x, x ≠ b → H1 x = H x) → f225_L1 p n c 0 (n : Int) (i : Int) H1 (sortPost H b p n c xs) := by
    intro k
    induction k with
    | zero =>
      intro i H1 ys hi hperm ho1 hk
      apply f225_L1_of
      exact ⟨fun hd => absurd (of_decide_eq_true hd) (by omega), fun _ => ⟨rfl, ys, ⟨hperm.1, fun a b ha hb hab hm => hperm.2 a b ha hb hab (by omega)⟩, ho1, hk⟩⟩
    | succ k ih =>
      intro i H1 ys hi hperm ho1 hk
      apply f225_L1_of
      refine ⟨fun _ => ?_, fun hd => absurd (of_decide_eq_false hd) (by simp; omega)⟩
      exact f225_L2_ht hp hn (by omega) (fun H2 zs h1 h2 h3 => ih (i + 1) H2 zs (by omega) h1 h2 h3) i H1 ys (Nat.le_refl _) ⟨hperm.1, fun a b ha hb hab hm hbi => hperm.2 a b ha hb hab (by omega)⟩ ho1 hk
  have hw : IntKind.wrap .i64 ((0 : Int) + 1) = ((1 : Nat) : Int) := by decide
  unfold f225_pre
  rw [hw]
  exact loop (n - 1) 1 H xs (by omega) ⟨List.Perm.refl _, fun a b ha hb hab hm => by omega⟩ ho (fun _ _ => rfl)

theorem f204_ht {b : Nat} {p : Option Addr} {n c : Nat} {xs : List Int} (hp : ∃ o, p = some ⟨b, o, none⟩) (hn : n ≤ 12) (ho : OwnL H 2 1 I64.cs p n c xs) :
    HT Tryz.prog 204 [.slice p n c] H (sortPost H b p n c xs) := by
  apply f204_of
  have hw : IntKind.wrap .u64 (n : Int) = (n : Int) := by
    simp only [IntKind.wrap, IntKind.bits, IntKind.signed]
    simp
    omega
  unfold f204_pre
  rw [hw]
  have h208 : HT Tryz.prog 208 [.int .u64 (n : Int)] H fun v H' => H' = H ∧ ∃ x, v = .int .i64 x := by
    apply f208_of
    exact (f223_ht hn).mono fun v H1 ⟨he, x, hv⟩ => ⟨x, hv, he, x, rfl⟩
  refine h208.mono fun v H1 ⟨he, x, hv⟩ => ⟨x, hv, ?_⟩
  subst he
  have h211 : HT Tryz.prog 211 [.slice p n c, .int .i64 0, .int .i64 (n : Int), .int .i64 x] H1 (sortPost H1 b p n c xs) := by
    apply f211_of
    unfold f211_pre
    apply f211_L1_of
    have hw2 : IntKind.wrap .i64 ((n : Int) - 0) = (n : Int) := by rw [wrapI] <;> omega
    unfold f211_L1_pre
    rw [hw2]
    refine ⟨fun _ => (f225_ht hp (by omega) ho).mono fun v H2 hs => ⟨hs.1, ?_⟩, fun hd => absurd (of_decide_eq_false hd) (by simp; omega)⟩
    exact ⟨rfl, hs.2⟩
  exact h211.mono fun v H2 hs => ⟨hs.1, rfl, hs.2⟩

end

end Go.Proofs.Qxb6500695aGreatFmt
