/-
  FROM THE SHELF's SORTS (said of worlds) TO CALLS SAID OF A PART OF THE HEAP: rows of k cells.
-/
import Derived.Test.Qxb6500695aGreatFmtEngK
import Derived.Shelf.GgSortFunc.RowK
import Derived.Sort.Statements
namespace Go.Eng
open Go Go.Sort
set_option maxRecDepth 100000
set_option linter.unusedVariables false
set_option linter.unusedSimpArgs false

section
variable {α : Type} [Inhabited α] {enc : α → List Value} {k : Nat}

theorem flatK_toList (hk : ∀ x, (enc x).length = k) (d : Array α) : (flatK enc k d).toList = d.toList.flatMap enc := by
  apply flat_of_chunks hk
  · simp
  · intro i hi
    have hi' : i < d.size := by simpa using hi
    apply List.ext_getElem?
    intro t
    rw [List.getElem?_take]
    by_cases ht : t < k
    · have h1 : (i + 1) * k ≤ d.size * k := Nat.mul_le_mul_right _ hi'
      rw [Nat.add_mul, Nat.one_mul] at h1
      rw [if_pos ht, List.getElem?_drop, Array.getElem?_toList]
      have h2 := get_flatK enc k d (i * k + t) (by omega)
      have h3 : (i * k + t) / k = i := by rw [Nat.mul_comm, Nat.mul_add_div (by omega), Nat.div_eq_of_lt ht]; rfl
      have h4 : (i * k + t) % k = t := by rw [Nat.mul_comm, Nat.mul_add_mod, Nat.mod_eq_of_lt ht]
      rw [h3, h4] at h2
      rw [Array.getElem?_eq_getElem (by simp; omega), ← getElem!_pos _ _ (by simp; omega), h2]
      rw [getElem!_pos d i hi', getElem!_pos _ t (by rw [hk]; exact ht)]
      symm
      rw [Array.getElem_toList]
      exact List.getElem?_eq_getElem _
    · rw [if_neg ht, List.getElem?_eq_none (by rw [hk]; omega)]

theorem holdsK_own {H : Heap} {T b o n c : Nat} {w : World} (hk : ∀ x, (enc x).length = k) {d : Array α} (h : OwnL H T k enc (some ⟨b, o, none⟩) n c d.toList) (hw : Sat H w.heap) : HoldsK enc k w b o d := by
  intro j hj
  rcases h.own with ⟨h1, _⟩ | ⟨b', o', arr, hp, hb, h3, h4, h5⟩
  · cases h1
  · simp at hp
    obtain ⟨rfl, rfl⟩ := hp
    have hg := hw _ _ hb
    have hn := h.len
    rw [← flatK_toList hk] at h5
    simp only [size_flatK] at hj
    have hF : (flatK enc k d)[j]? = some (flatK enc k d)[j]! := by
      rw [Array.getElem?_eq_getElem (by simpa using hj), getElem!_pos]
    have hA : arr[o + j]? = some (flatK enc k d)[j]! := by
      rw [← hF, ← Array.getElem?_toList, ← Array.getElem?_toList, h5, List.getElem?_take, List.getElem?_drop, if_pos]
      rw [hn]; simpa using hj
    constructor
    · simp only [World.cell?, hg, hA, id]
      rfl
    · simp [World.frozen?, hg]

/-- Behind a sort of rows. -/
theorem sat_sorted {H : Heap} {T b o n c : Nat} {w : World} (hk : ∀ x, (enc x).length = k) {d d' : Array α} (h : OwnL H T k enc (some ⟨b, o, none⟩) n c d.toList) (hw : Sat H w.heap) (hd : d'.size = d.size) (m : Nat) (os : Array Obj) :
    ∃ H', Wr H b (match H b with | some (.cells arr T fr) => .cells (Sort.putCells id o (flatK enc k d') arr) T fr | _ => .cells #[] 0 (0, 0)) H' ∧ Sat H' (Sort.grow (putRowK enc k (Sort.ahead w m) b o d') os).heap ∧
      Fr H w.heap H' (Sort.grow (putRowK enc k (Sort.ahead w m) b o d') os).heap ∧ OwnL H' T k enc (some ⟨b, o, none⟩) n c d'.toList := by
  rcases h.own with ⟨h1, _⟩ | ⟨b', o', arr, hp, hb, h3, h4, h5⟩
  · cases h1
  · simp at hp
    obtain ⟨rfl, rfl⟩ := hp
    have hg := hw _ _ hb
    have hlt : b < w.heap.size := (Array.getElem?_eq_some_iff.1 hg).1
    have hn := h.len
    have hheap : ∀ x, x < w.heap.size → (Sort.grow (putRowK enc k (Sort.ahead w m) b o d') os).heap[x]? = if x = b then some (.cells (Sort.putCells id o (flatK enc k d') arr) T (0, 0)) else w.heap[x]? := by
      intro x hx
      simp only [Sort.grow, putRowK, Sort.putRow, Sort.mapBlock, Sort.ahead]
      rw [Array.getElem?_append_left (by simpa using hx), Array.getElem?_modify]
      by_cases hxb : b = x
      · subst hxb; simp [hg, Sort.onCells]
      · rw [if_neg hxb, if_neg (fun h => hxb h.symm)]
    have hsize : w.heap.size ≤ (Sort.grow (putRowK enc k (Sort.ahead w m) b o d') os).heap.size := by
      simp [Sort.grow, putRowK, Sort.putRow, Sort.mapBlock, Sort.ahead]
    refine ⟨upd H b (.cells (Sort.putCells id o (flatK enc k d') arr) T (0, 0)), ?_, ?_, ?_, ?_⟩
    · rw [hb]; exact ⟨by rw [hb]; simp, rfl⟩
    · intro x ob hx
      by_cases hxb : x = b
      · subst hxb
        rw [upd_same] at hx
        rw [hheap x hlt, if_pos rfl]; exact hx
      · rw [upd_ne hxb] at hx
        have := hw _ _ hx
        rw [hheap x (Array.getElem?_eq_some_iff.1 this).1, if_neg hxb]; exact this
    · refine ⟨hsize, fun x hx hnone _ => ?_, fun x hnone hsome => ?_⟩
      · rw [hheap x hx, if_neg]
        intro he; subst he; rw [hb] at hnone; cases hnone
      · exfalso
        by_cases hxb : x = b
        · subst hxb; rw [hb] at hnone; cases hnone
        · rw [upd_ne hxb] at hsome; exact hsome hnone
    · refine ⟨by simp [hd, hn], h.size, .inr ⟨b, o, _, rfl, upd_same, h3, ?_, ?_⟩⟩
      · simp [Sort.putCells]; exact h4
      · rw [← flatK_toList hk]
        have hncz : n * k ≤ c * k := Nat.mul_le_mul_right _ h3
        have hdn : d'.size = n := by rw [hd, hn]; simp
        apply List.ext_getElem?
        intro j
        rw [List.getElem?_take]
        by_cases hj : j < n * k
        · rw [if_pos hj, List.getElem?_drop, Array.getElem?_toList, Array.getElem?_toList]
          simp only [Sort.putCells, Array.getElem?_mapIdx]
          rw [Array.getElem?_eq_getElem (xs := arr) (by omega), Array.getElem?_eq_getElem (xs := flatK enc k d') (by simp [hdn]; omega)]
          simp only [Option.map_some, size_flatK, hdn]
          rw [if_pos (by omega), Nat.add_sub_cancel_left, getElem!_pos]
          rfl
        · rw [if_neg hj, List.getElem?_eq_none (by simp [hdn]; omega)]

/-- Rows of one cell, as rows of lists of one cell. -/
theorem flat1 (e : α → Value) (d : Array α) (j : Nat) (hj : j < d.size) : (flatK (fun x => [e x]) 1 d)[j]! = e d[j]! := by
  rw [get_flatK _ _ _ _ (by omega), Nat.div_one, Nat.mod_one]
  rfl

theorem putRow_K (e : α → Value) (w : World) (b o : Nat) (d : Array α) : putRow e w b o d = putRowK (fun x => [e x]) 1 w b o d := by
  unfold putRowK putRow
  congr 1
  funext c
  unfold putCells
  apply Array.ext_getElem?
  intro i
  rw [Array.getElem?_mapIdx, Array.getElem?_mapIdx]
  congr 1
  funext x
  simp only [size_flatK, Nat.mul_one, id]
  split
  · rw [flat1 _ _ _ (by omega)]
  · rfl

theorem holds_K (e : α → Value) (w : World) (b o : Nat) (d : Array α) (h : HoldsK (fun x => [e x]) 1 w b o d) : Holds e w b o d := by
  intro j hj
  have := h j (by simpa using hj)
  rw [flat1 _ _ _ hj] at this
  exact this

end

end Go.Eng
