/-
  NAMES, PART B: slices.Insert, slices.Delete on lists of strings.
-/
import Derived.Test.Qxb6500695aGreatFmtZa
import Derived.Test.Qxb6500695aGreatFmtXi
import Derived.Test.Qxb6500695aGreatFmtVi
import Derived.Lib.Overlaps
namespace Go.Proofs.Qxb6500695aGreatFmt
open Go Go.Eng Go.Proofs
set_option maxRecDepth 100000
set_option linter.unusedVariables false
set_option linter.unusedSimpArgs false
set_option linter.unusedSectionVars false

theorem flat_str : ∀ xs : List ByteArray, xs.flatMap Str.cs = xs.map Value.string
  | [] => rfl
  | x :: xs => by rw [List.flatMap_cons, flat_str xs]; rfl

theorem row_ins {A : Array Value} {o n k : Nat} {ys : List Value} {v : Value} (hl : ys.length = n) (hk : k ≤ n)
    (hget : ∀ i, i < n + 1 → A[o + i]? = if i < k then ys[i]? else if i = k then some v else ys[i - 1]?) :
    (A.toList.drop o).take (n + 1) = ys.take k ++ v :: ys.drop k := by
  apply List.ext_getElem?
  intro i
  have hlt : (ys.take k).length = k := by simp; omega
  rw [List.getElem?_take, List.getElem?_append, hlt]
  by_cases h1 : i < n + 1
  · rw [if_pos h1, List.getElem?_drop, Array.getElem?_toList, hget i h1]
    by_cases h2 : i < k
    · rw [if_pos h2, if_pos h2, List.getElem?_take, if_pos h2]
    · rw [if_neg h2, if_neg h2]
      by_cases h3 : i = k
      · subst h3; simp
      · rw [if_neg h3]
        obtain ⟨j, hj⟩ : ∃ j, i - k = j + 1 := ⟨i - k - 1, by omega⟩
        rw [hj, List.getElem?_cons_succ, List.getElem?_drop]
        congr 1
        omega
  · rw [if_neg h1, if_neg (by omega)]
    symm
    apply List.getElem?_eq_none
    simp
    omega

theorem row_del {A : Array Value} {o n k : Nat} {ys : List Value} (hl : ys.length = n) (hk : k < n)
    (hget : ∀ i, i < n - 1 → A[o + i]? = if i < k then ys[i]? else ys[i + 1]?) :
    (A.toList.drop o).take (n - 1) = ys.take k ++ ys.drop (k + 1) := by
  apply List.ext_getElem?
  intro i
  have hlt : (ys.take k).length = k := by simp; omega
  rw [List.getElem?_take, List.getElem?_append, hlt]
  by_cases h1 : i < n - 1
  · rw [if_pos h1, List.getElem?_drop, Array.getElem?_toList, hget i h1]
    by_cases h2 : i < k
    · rw [if_pos h2, if_pos h2, List.getElem?_take, if_pos h2]
    · rw [if_neg h2, if_neg h2, List.getElem?_drop]
      congr 1
      omega
  · rw [if_neg h1, if_neg (by omega)]
    symm
    apply List.getElem?_eq_none
    simp
    omega

theorem semOk_overlaps {H : Heap} {vb b vo o la ca lb cb : Nat} {arrA arrB : Array Value} {tA tB : TypeId} {K : Value → Heap → Prop} (hne : vb ≠ b) (ha : H vb = some (.cells arrA tA (0, 0))) (hb : H b = some (.cells arrB tB (0, 0))) (hz : arrB.size ≠ 0)
    (hK : K (.bool false) H) : SemOk Tryz.prog (extSem 209 #[.slice (some ⟨vb, vo, none⟩) la ca, .slice (some ⟨b, o, none⟩) lb cb]) H K := by
  intro w hw
  have hga := hw _ _ ha
  have hgb := hw _ _ hb
  have hsz : ∀ w, (Go.sizeOf 9).run Tryz.prog w = .ok 1 w := by
    intro w
    have hi : Tryz.prog.info? 9 = some Tryz.t9 := by kernel_rfl
    simp [sizeOf, typeInfo, hi]
    rfl
  have h1 := Lib.run_overlaps_apart (P := Tryz.prog) w 49 4 9 Tryz.underlying49 1 hsz ⟨vb, vo, none⟩ ⟨b, o, none⟩ la ca lb cb hne tA tB arrA.size arrB.size (by simp [World.shape?, hga]) (by simp [World.shape?, hgb]) hz (by simp [World.frozen?, hga]) (by simp [World.frozen?, hga])
  have h2 : (callFunc 209 #[.slice (some ⟨vb, vo, none⟩) la ca, .slice (some ⟨b, o, none⟩) lb cb]).run Tryz.prog w = .ok (.value (.bool false)) w := by
    rw [run_callFunc_extern Tryz.func209 (by kernel_rfl) (by kernel_rfl) (by kernel_rfl) (e := Extern.SlicesOverlaps.overlaps #[49, 49] #[4]) (by kernel_rfl), h1]
    rfl
  have h3 : (extSem 209 #[.slice (some ⟨vb, vo, none⟩) la ca, .slice (some ⟨b, o, none⟩) lb cb]).run Tryz.prog w = .ok (.bool false) w := by
    unfold extSem
    rw [Sem.run_bind, h2]
    simp
  rw [h3]
  exact ⟨H, Str.refl w, hw, Fr.refl _ _, hK⟩

end Go.Proofs.Qxb6500695aGreatFmt
