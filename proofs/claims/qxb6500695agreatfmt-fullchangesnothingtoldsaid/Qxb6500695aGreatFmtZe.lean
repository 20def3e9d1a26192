/-
  NAMES, PART E: sort.Strings, by the shelf.
-/
import Derived.Test.Qxb6500695aGreatFmtZd
import Derived.Test.Qxb6500695aGreatFmtXn
import Derived.Test.Qxb6500695aGreatFmtVj
import Derived.Test.Qxb6500695aGreatFmtEngR
import Derived.Shelf.Sort.Plain
import Derived.Shelf.Lay
import Derived.Ground.NamesProg
namespace Go.Proofs
open Go.Shelf

shelf_lay Lays.n192 Nm 192 at Tryz as Tryz.sortStrings192

end Go.Proofs

namespace Go.Proofs.Qxb6500695aGreatFmt
open Go Go.Eng Go.Proofs Go.Shelf Go.RowKit Go.Lib Go.Sort
set_option maxRecDepth 100000
set_option linter.unusedVariables false
set_option linter.unusedSimpArgs false
set_option linter.unusedSectionVars false

theorem enc_bl (x : ByteArray) : encStr (bl x) = .string x := by
  unfold bl encStr
  cases x
  simp

theorem own_bl {H : Heap} {p : Option Addr} {n c : Nat} {xs : List ByteArray} (h : OwnL H 9 1 Str.cs p n c xs) : OwnL H 9 1 (fun l => [encStr l]) p n c (xs.map bl) := by
  refine ⟨by simp [h.len], fun _ => rfl, ?_⟩
  have : (xs.map bl).flatMap (fun l => [encStr l]) = xs.flatMap Str.cs := by
    rw [List.flatMap_map]
    congr 1
  rw [this]
  exact h.own

theorem bl_own {H : Heap} {p : Option Addr} {n c : Nat} {ls : List (List UInt8)} (h : OwnL H 9 1 (fun l => [encStr l]) p n c ls) : OwnL H 9 1 Str.cs p n c (ls.map fun l => (⟨l.toArray⟩ : ByteArray)) := by
  refine ⟨by simp [h.len], Str.size, ?_⟩
  have : (ls.map fun l => (⟨l.toArray⟩ : ByteArray)).flatMap Str.cs = ls.flatMap fun l => [encStr l] := by
    rw [List.flatMap_map]
    rfl
  rw [this]
  exact h.own

theorem mk_bl (x : ByteArray) : (⟨(bl x).toArray⟩ : ByteArray) = x := by
  unfold bl
  cases x
  simp

theorem f167_ht {H : Heap} {g : Gh} {tg : Nat × Int} {p : Option Addr} {n c : Nat} {xs : List ByteArray} (hg : GOk H g) (ho : OwnT H g tg 9 1 Str.cs p n c xs) (hn : n < 2 ^ 30) (hd : xs.Nodup) :
    HT Tryz.prog 167 [.slice p n c] H fun v H' => v = .tuple #[] ∧ ∃ ys, ys.Perm xs ∧ Srt ys ∧ Ev (fun t => t = tg) H g H' g ∧ OwnT H' g tg 9 1 Str.cs p n c ys := by
  have hlen := ho.own.len
  cases hp : p with
  | none =>
    subst hp
    have hn0 : n = 0 := by
      rcases ho.own.own with ⟨_, h2, _⟩ | ⟨b, o, arr, h1, _⟩
      · exact h2
      · cases h1
    have hx : xs = [] := List.eq_nil_of_length_eq_zero (by omega)
    subst hn0
    have h194 : HT Tryz.prog 194 [.slice none 0 c] H fun v H' => v = .tuple #[] ∧ H' = H := by
      apply f194_of
      have h208 : HT Tryz.prog 208 [.int .u64 ((0 : Nat) : Int)] H fun v H' => H' = H ∧ ∃ x, v = .int .i64 x := by
        apply f208_of
        exact (f223_ht (n := 0) (by omega)).mono fun v H1 ⟨he, x, hv⟩ => ⟨x, hv, he, x, rfl⟩
      refine h208.mono fun v H1 ⟨he, x, hv⟩ => ⟨x, hv, ?_⟩
      subst he
      have h207 : HT Tryz.prog 207 [.slice none 0 c, .int .i64 0, .int .i64 ((0 : Nat) : Int), .int .i64 x] H1 fun v H' => v = .tuple #[] ∧ H' = H1 := by
        apply f207_of
        unfold f207_pre
        apply f207_L1_of
        refine ⟨fun _ => ?_, fun hd => absurd (of_decide_eq_false hd) (by decide)⟩
        have h213 : HT Tryz.prog 213 [.slice none 0 c, .int .i64 0, .int .i64 ((0 : Nat) : Int)] H1 fun v H' => v = .tuple #[] ∧ H' = H1 := by
          apply f213_of
          unfold f213_pre
          apply f213_L1_of
          exact ⟨fun hd => absurd (of_decide_eq_true hd) (by decide), fun _ => ⟨rfl, rfl⟩⟩
        exact h213.mono fun v H2 ⟨hv2, he2⟩ => ⟨hv2, rfl, he2⟩
      exact h207.mono fun v H2 ⟨hv2, he2⟩ => ⟨hv2, rfl, he2⟩
    apply f167_of
    refine h194.mono fun v H1 ⟨hv, he⟩ => ⟨hv, rfl, xs, List.Perm.refl _, ?_, ?_, ?_⟩
    · rw [hx]; exact List.Pairwise.nil
    · subst he; exact Ev.refl hg
    · subst he; exact ho
  | some a =>
    obtain ⟨b, o, arr, hpp, hb, hnc, hfit, hrow, htag⟩ : ∃ b o arr, p = some ⟨b, o, none⟩ ∧ H b = some (.cells arr 9 (0, 0)) ∧ n ≤ c ∧ o + c * 1 ≤ arr.size ∧ xs.flatMap Str.cs = (arr.toList.drop o).take (n * 1) ∧ g b = some tg := by
      rcases ho.own.own with ⟨h1, _⟩ | ⟨b, o, arr, h1, h2, h3, h4, h5⟩
      · rw [hp] at h1; cases h1
      · exact ⟨b, o, arr, h1, h2, h3, h4, h5, ho.tag _ h1⟩
    rw [← hp]
    subst hpp
    refine ⟨enters_of Tryz.func167 (by kernel_rfl) rfl, fun w hw => ?_⟩
    have hgb := hw _ _ hb
    have hblt : b < w.heap.size := (Array.getElem?_eq_some_iff.1 hgb).1
    have ho' : OwnL H 9 1 (fun l => [encStr l]) (some ⟨b, o, none⟩) n c ((xs.map bl).toArray).toList := own_bl ho.own
    have hH := holds_K encStr w b o (xs.map bl).toArray (holdsK_own (enc := fun l => [encStr l]) (k := 1) (fun _ => rfl) ho' hw)
    have hl : (xs.map bl).length = n := by simp [hlen]
    have key := Any.sort_Strings Tryz.sortStrings192 b o c (xs.map bl) w hH hblt (by omega)
    rw [hl] at key
    refine key.mono ?_
    rintro e w' ⟨rfl, m, os, rfl⟩
    rw [putRow_K]
    generalize hms : (xs.map bl).mergeSort (fun x y => decide (x ≤ y)) = ms
    have hperm : ms.Perm (xs.map bl) := by rw [← hms]; exact List.mergeSort_perm _ _
    obtain ⟨H', hwr, hsat, hfr, hown⟩ := sat_sorted (enc := fun l => [encStr l]) (k := 1) (fun _ => rfl) (d' := ms.toArray) ho' hw (by simp [hperm.length_eq]) m os
    have hms' : ms.map (fun l => (⟨l.toArray⟩ : ByteArray)) = ms.map (fun l => (⟨l.toArray⟩ : ByteArray)) := rfl
    have hback : ((xs.map bl).map fun l => (⟨l.toArray⟩ : ByteArray)) = xs := by
      rw [List.map_map]
      conv => rhs; rw [← List.map_id xs]
      apply List.map_congr_left
      intro x _
      exact mk_bl x
    have hpy : (ms.map fun l => (⟨l.toArray⟩ : ByteArray)).Perm xs := by
      have := hperm.map fun l => (⟨l.toArray⟩ : ByteArray)
      rw [hback] at this
      exact this
    refine ⟨_, H', rfl, ⟨rfl, rfl, rfl⟩, hsat, hfr, rfl, ms.map fun l => (⟨l.toArray⟩ : ByteArray), hpy, ?_, Ev.wr hg hwr fun t ht => ?_, ⟨bl_own hown, ho.tag⟩⟩
    · have hsorted : ms.Pairwise fun a b => a ≤ b := by
        rw [← hms]
        have := List.pairwise_mergeSort (le := fun x y : List UInt8 => decide (x ≤ y)) (fun a b c h1 h2 => by simp at *; exact List.le_trans h1 h2) (fun a b => by simp; exact List.le_total a b) (xs.map bl)
        exact List.pairwise_iff_getElem.2 fun i j hi hj hij => by simpa using List.pairwise_iff_getElem.1 this i j hi hj hij
      have hnd : ms.Nodup := by
        rw [hperm.nodup_iff]
        exact List.Pairwise.map bl (fun a b hne he => hne (bl_inj he)) hd
      unfold Srt
      rw [List.pairwise_map]
      refine List.pairwise_iff_getElem.2 fun i j hi hj hij => ?_
      have h1 := List.pairwise_iff_getElem.1 hsorted i j hi hj hij
      have h2 := List.pairwise_iff_getElem.1 hnd i j hi hj hij
      generalize ms[i] = a at *
      generalize ms[j] = b at *
      show a.toArray.toList < b.toArray.toList
      show a < b
      by_cases hlt : a < b
      · exact hlt
      · exact absurd (List.le_antisymm h1 (List.not_lt.1 hlt)) h2
    · rw [htag] at ht; cases ht; rfl

end Go.Proofs.Qxb6500695aGreatFmt
