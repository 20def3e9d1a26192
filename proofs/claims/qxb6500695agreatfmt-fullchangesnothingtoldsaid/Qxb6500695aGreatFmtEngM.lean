/-
  THE ENGINE, PART M: copy, clear, make with a length, len of a map, slices of slices.
-/
import Derived.Test.Qxb6500695aGreatFmtEngL
namespace Go.Eng
open Go
set_option linter.unusedVariables false
set_option linter.unusedSimpArgs false

theorem Wr.of_same {H : Heap} {b : Nat} {o : Obj} (h : H b = some o) : Wr H b o H := by
  refine ⟨by simp [h], ?_⟩
  funext x
  unfold upd
  split
  · rename_i hx; rw [hx]; exact h
  · rfl

/-- copy: elements of one cell, into a row that is there. -/
theorem semOk_copy {P : Program} {t t2 T ty : TypeId} {inf : TypeInfo} {b o n c m mc : Nat} {q : Option Addr} {arr : Array Value} {T' : TypeId} {ys : List Value} {h : Heap} {K : Value → Heap → Prop}
    (ht : P.underlying t = some (.slice T)) (hi : P.info? T = some inf) (hsz : inf.size = 1)
    (hd : h b = some (.cells arr T' (0, 0))) (hfit : o + n ≤ arr.size) (hlen : ys.length = Nat.min m n)
    (hq : (q = none ∧ ys = []) ∨ ∃ qb qo, q = some ⟨qb, qo, none⟩ ∧ Cells h qb qo ys) (h1 : ∀ v ∈ ys, v.oneCell' = true)
    (H : ∀ h', Wr h b (.cells (setAll arr o ys) T' (0, 0)) h' → K (.int .i64 (ys.length : Int)) h') :
    SemOk P (Builtin.copy_ #[t, t2] ty #[.slice (some ⟨b, o, none⟩) n c, .slice q m mc]) h K := by
  intro w hw
  have hf : (Builtin.firstCells inf.size (Nat.min m n) (.slice q m mc)).run P w = .ok ys.toArray w := by
    rcases hq with ⟨rfl, rfl⟩ | ⟨qb, qo, rfl, hc⟩
    · simp [Builtin.firstCells]
    · have := run_loadCells (P := P) (hc.g hw)
      rw [hlen] at this
      simpa [Builtin.firstCells, hsz] using this
  obtain ⟨w', hr, hstr, hheap⟩ := run_storeCells (P := P) ys w o 0 arr (hw _ _ hd) (by rw [hlen]; have := Nat.min_le_right m n; simp only [Nat.min_def] at *; split <;> omega) h1
  have key : (Builtin.copy_ #[t, t2] ty #[.slice (some ⟨b, o, none⟩) n c, .slice q m mc]).run P w = .ok (.int .i64 (ys.length : Int)) w' := by
    unfold Builtin.copy_
    simp [underlying, ht, sizeOf, typeInfo, hi, Builtin.lenOf, hf, hr, goInt, hlen]
  rw [key]
  have hne : h b ≠ none := by simp [hd]
  simp only [Nat.add_zero] at hheap
  refine ⟨upd h b (.cells (setAll arr o ys) T' (0, 0)), hstr, ?_, ?_, H _ ⟨hne, rfl⟩⟩
  · rw [hheap]; exact hw.set _ (hw.lt hd)
  · rw [hheap]; exact Fr.set _ hne

/-- copy into a slice that has no memory. -/
theorem semOk_copy_nil {P : Program} {t t2 T ty : TypeId} {inf : TypeInfo} {c m mc : Nat} {q : Option Addr} {h : Heap} {K : Value → Heap → Prop}
    (ht : P.underlying t = some (.slice T)) (hi : P.info? T = some inf) (hsz : inf.size = 1) (hq : q = none ∨ ∃ qb qo ob, q = some ⟨qb, qo, none⟩ ∧ h qb = some ob)
    (H : K (.int .i64 0) h) : SemOk P (Builtin.copy_ #[t, t2] ty #[.slice none 0 c, .slice q m mc]) h K := by
  intro w hw
  have key : (Builtin.copy_ #[t, t2] ty #[.slice none 0 c, .slice q m mc]).run P w = .ok (.int .i64 0) w := by
    unfold Builtin.copy_
    rcases hq with rfl | ⟨qb, qo, ob, rfl, hb⟩
    · simp [underlying, ht, sizeOf, typeInfo, hi, Builtin.lenOf, goInt, Builtin.firstCells]
    · simp [underlying, ht, sizeOf, typeInfo, hi, Builtin.lenOf, goInt, Builtin.firstCells, loadCells, loadCellsFrom]
  rw [key]
  exact ⟨h, Str.refl _, hw, Fr.refl _ _, H⟩

theorem zeroCells_one (z : Value) (n : Nat) : (Builtin.zeroCells #[z] n).toList = List.replicate n z := by
  unfold Builtin.zeroCells
  apply List.ext_getElem
  · simp
  · intro i h1 h2
    simp [Nat.mod_one]

/-- clear of a slice: zeros, element by element (one cell each). -/
theorem semOk_clearS {P : Program} {t T ty : TypeId} {inf : TypeInfo} {z : Value} {b o n c : Nat} {arr : Array Value} {T' : TypeId} {h : Heap} {K : Value → Heap → Prop}
    (ht : P.underlying t = some (.slice T)) (hi : P.info? T = some inf) (hz : inf.zero = some z) (hz1 : z.cells = #[z]) (hz2 : z.oneCell' = true)
    (hd : h b = some (.cells arr T' (0, 0))) (hfit : o + n ≤ arr.size)
    (H : ∀ h', Wr h b (.cells (setAll arr o (List.replicate n z)) T' (0, 0)) h' → K (.tuple #[]) h') :
    SemOk P (Builtin.clear_ #[t] ty #[.slice (some ⟨b, o, none⟩) n c]) h K := by
  intro w hw
  obtain ⟨w', hr, hstr, hheap⟩ := run_storeCells (P := P) (List.replicate n z) w o 0 arr (hw _ _ hd) (by simpa using hfit) (by intro v hv; rw [List.eq_of_mem_replicate hv]; exact hz2)
  have hne : h b ≠ none := by simp [hd]
  cases n with
  | zero =>
    have key : (Builtin.clear_ #[t] ty #[.slice (some ⟨b, o, none⟩) 0 c]).run P w = .ok (.tuple #[]) w := by
      unfold Builtin.clear_
      simp [underlying, ht]
    rw [key]
    exact ⟨h, Str.refl _, hw, Fr.refl _ _, H h (Wr.of_same (by simpa [setAll] using hd))⟩
  | succ n =>
    have key : (Builtin.clear_ #[t] ty #[.slice (some ⟨b, o, none⟩) (n + 1) c]).run P w = .ok (.tuple #[]) w' := by
      unfold Builtin.clear_
      simp only [List.getElem?_toArray] at *
      simp [underlying, ht, sizeOf, typeInfo, hi, zeroValue, hz, hz1, zeroCells_one, hr]
    rw [key]
    simp only [Nat.add_zero] at hheap
    refine ⟨upd h b (.cells (setAll arr o (List.replicate (n + 1) z)) T' (0, 0)), hstr, ?_, ?_, H _ ⟨hne, rfl⟩⟩
    · rw [hheap]; exact hw.set _ (hw.lt hd)
    · rw [hheap]; exact Fr.set _ hne

theorem semOk_clearS_nil {P : Program} {t u : TypeId} {ty : TypeId} {c : Nat} {n : Nat} {h : Heap} {K : Value → Heap → Prop} (ht : P.underlying t = some (.slice u)) (H : K (.tuple #[]) h) :
    SemOk P (Builtin.clear_ #[t] ty #[.slice none n c]) h K := by
  intro w hw
  have key : (Builtin.clear_ #[t] ty #[.slice none n c]).run P w = .ok (.tuple #[]) w := by
    unfold Builtin.clear_
    simp [underlying, ht]
  rw [key]
  exact ⟨h, Str.refl _, hw, Fr.refl _ _, H⟩

theorem semOk_clearM {P : Program} {t kt et ty : TypeId} {r c : Nat} {es : Array MapEntry} {h : Heap} {K : Value → Heap → Prop} (ht : P.underlying t = some (.map kt et)) (hr : h r = some (.map es c))
    (H : ∀ h', Wr h r (.map #[] c) h' → K (.tuple #[]) h') : SemOk P (Builtin.clear_ #[t] ty #[.map (some r)]) h K := by
  intro w hw
  have hne : h r ≠ none := by simp [hr]
  have h3 := run_getMap (P := P) (hw _ _ hr)
  have h4 := fun o => run_setObj (P := P) (hw _ _ hr) o
  have key : (Builtin.clear_ #[t] ty #[.map (some r)]).run P w = .ok (.tuple #[]) { w with heap := w.heap.setIfInBounds r (.map #[] c) } := by
    unfold Builtin.clear_
    simp [underlying, ht, h3, h4]
  rw [key]
  exact ⟨_, ⟨rfl, rfl, rfl⟩, hw.set _ (hw.lt hr), Fr.set _ hne, H _ ⟨hne, rfl⟩⟩

theorem semOk_lenM {P : Program} {t kt et ty : TypeId} {r c : Nat} {es : Array MapEntry} {h : Heap} {K : Value → Heap → Prop} (ht : P.underlying t = some (.map kt et)) (hr : h r = some (.map es c))
    (H : K (.int .i64 (es.size : Int)) h) : SemOk P (Builtin.len_ #[t] ty #[.map (some r)]) h K := by
  intro w hw
  have h3 := run_getMap (P := P) (hw _ _ hr)
  have key : (Builtin.len_ #[t] ty #[.map (some r)]).run P w = .ok (.int .i64 (es.size : Int)) w := by
    unfold Builtin.len_
    simp [underlying, ht, h3, goInt]
  rw [key]
  exact ⟨h, Str.refl _, hw, Fr.refl _ _, H⟩

end Go.Eng
