/-
  THE ENGINE, PART I: ranging over a map that stands; append; slicing.
-/
import Derived.Test.Qxb6500695aGreatFmtEngH
namespace Go.Eng
open Go
set_option linter.unusedSimpArgs false

theorem run_newObj' {P : Program} (o : Obj) (w : World) : (newObj o).run P w = .ok w.heap.size { w with heap := w.heap.push o } := rfl

theorem semOk_range {P : Program} {t kt et r c : Nat} {es : Array MapEntry} {h : Heap} {K : Value → Heap → Prop}
    (ht : P.underlying t = some (.map kt et)) (hr0 : h r = some (.map es c))
    (H : ∀ b h', Al h (.mapIter (some r) c #[] c) b h' → K (.pointer (some ⟨b, 0, none⟩)) h') : SemOk P (Instr.range t (.map (some r))) h K := by
  intro w hw
  have hr := hw _ _ hr0
  have h3 := run_getMap (P := P) hr
  have key : (Instr.range t (.map (some r))).run P w = .ok (.pointer (some ⟨w.heap.size, 0, none⟩)) { w with heap := w.heap.push (.mapIter (some r) c #[] c) } := by
    unfold Instr.range
    simp only [Sem.run_bind, underlying, run_program, ht, Result.andThen_ok, Sem.run_pure, h3, run_newObj]
  rw [key]
  exact ⟨_, ⟨rfl, rfl, rfl⟩, hw.push _, Fr.push _, H _ _ ⟨hw.fresh, rfl⟩⟩

theorem filter_true {α : Type} (p : α → Bool) (xs : Array α) (h : ∀ x ∈ xs, p x = true) : xs.filter p = xs := by
  rw [Array.filter_eq_self]
  exact h

/-- The next entry of a map that has not turned since the range began. -/
theorem semOk_next {P : Program} {b r c ty : Nat} {es : Array MapEntry} {seen : Array Nat} {k : IntKind} {h : Heap} {K : Value → Heap → Prop}
    (hb0 : h b = some (.mapIter (some r) c seen c)) (hr0 : h r = some (.map es c)) (hok : MapOk k es c)
    (H0 : (∀ e ∈ es.toList, e.born ∈ seen) → K (.tuple #[.bool false]) h)
    (H1 : ∀ e ∈ es.toList, e.born ∉ seen → ∀ h', Wr h b (.mapIter (some r) c (seen.push e.born) c) h' → K (.tuple #[.bool true, e.key, e.val]) h') :
    SemOk P (Instr.next (.pointer (some ⟨b, 0, none⟩)) false ty) h K := by
  intro w hw
  have hr := hw _ _ hr0
  have hb := hw _ _ hb0
  have g1 : (getObj b).run P w = .ok (.mapIter (some r) c seen c) w := by simp [getObj, Sem.run, hb]
  have g2 := run_getMap (P := P) hr
  have hs : ∀ o, (setObj b o).run P w = .ok () { w with heap := w.heap.setIfInBounds b o } := by
    intro o; simp [setObj, Sem.run, hb]
  have hnoall : (!seen.isEmpty && !es.isEmpty && es.all fun e => decide (e.born ≥ c)) = false := by
    cases hes : es.isEmpty with
    | true => simp
    | false =>
      have hne : es.toList ≠ [] := by
        intro hc
        have : es = #[] := by simpa using hc
        simp [this] at hes
      obtain ⟨e, he⟩ := List.exists_mem_of_ne_nil _ hne
      have hlt := hok.2.2.1 e he
      have : (es.all fun e => decide (e.born ≥ c)) = false := by
        rw [Bool.eq_false_iff]
        intro hc
        rw [Array.all_eq_true_iff_forall_mem] at hc
        have := hc e (by simpa using he)
        simp at this
        omega
      simp [this]
  generalize hleft : (es.filter fun e => !seen.contains e.born) = left
  have hlm : ∀ e ∈ left, e ∈ es.toList ∧ e.born ∉ seen := by
    intro e he
    rw [← hleft] at he
    simp at he
    exact ⟨by simpa using he.1, he.2⟩
  have hold : (left.filter fun e => decide (e.born < c)) = left := by
    apply filter_true
    intro e he
    have := hok.2.2.1 e (hlm e he).1
    simpa using this
  have hnew : (left.filter fun e => decide (e.born ≥ c)) = #[] := by
    rw [Array.filter_eq_empty_iff]
    intro e he
    have := hok.2.2.1 e (hlm e he).1
    simp
    omega
  by_cases hempty : left = #[]
  · have hall : ∀ e ∈ es.toList, e.born ∈ seen := by
      intro e he
      rcases Classical.em (e.born ∈ seen) with h | h
      · exact h
      · have : e ∈ left := by rw [← hleft]; simp; exact ⟨by simpa using he, h⟩
        rw [hempty] at this
        simp at this
    have key : (Instr.next (.pointer (some ⟨b, 0, none⟩)) false ty).run P w = .ok (.tuple #[.bool false]) w := by
      unfold Instr.next
      simp only [Sem.run_bind, g1, g2, Result.andThen_ok, hnoall, hleft, hold, hnew, hempty]
      simp [choose, Sem.run, Question.forced]
    rw [key]
    exact ⟨h, Str.refl w, hw, Fr.refl _ _, H0 hall⟩
  · have hsz : 0 < left.size := Array.size_pos_iff.2 hempty
    have hisE : left.isEmpty = false := by simpa using hempty
    have hmain : ∃ e w', e ∈ left ∧ (Instr.next (.pointer (some ⟨b, 0, none⟩)) false ty).run P w = .ok (.tuple #[.bool true, e.key, e.val]) w' ∧ Str w w' ∧
        w'.heap = w.heap.setIfInBounds b (.mapIter (some r) c (seen.push e.born) c) := by
      unfold Instr.next
      simp only [Sem.run_bind, g1, g2, Result.andThen_ok, hnoall, hleft, hold, hnew, hisE]
      simp only [Bool.false_eq_true, if_false, Array.append_empty, Array.empty_append, Sem.run_pure, Result.andThen_ok, Array.size_map, Sem.run_bind, run_choose]
      by_cases h1 : left.size ≤ 1
      · have hf : (Question.mapNext left.size).forced = true := by simp [Question.forced, h1]
        simp only [hf, if_true, Result.andThen_ok]
        have h0 : (left.map some)[0]? = some (some left[0]) := by simp [hsz]
        simp only [h0, hs, Result.andThen_ok, Sem.run_bind, Sem.run_pure]
        exact ⟨left[0], _, Array.getElem_mem hsz, rfl, ⟨rfl, rfl, rfl⟩, rfl⟩
      · have hf : (Question.mapNext left.size).forced = false := by simp [Question.forced]; omega
        simp only [hf, Bool.false_eq_true, if_false, Result.andThen_ok, Question.cut]
        generalize hj : w.tape w.drawn (.mapNext left.size) % left.size = j
        have hjl : j < left.size := by rw [← hj]; exact Nat.mod_lt _ hsz
        have h0 : (left.map some)[j]? = some (some left[j]) := by simp [hjl]
        have hs' : ∀ o, (setObj b o).run P { w with drawn := w.drawn + 1 } = .ok () { w with drawn := w.drawn + 1, heap := w.heap.setIfInBounds b o } := by
          intro o; simp [setObj, Sem.run, hb]
        simp only [h0, hs', Result.andThen_ok, Sem.run_bind, Sem.run_pure]
        exact ⟨left[j], _, Array.getElem_mem hjl, rfl, ⟨rfl, rfl, rfl⟩, rfl⟩
    obtain ⟨e, w', he, hrun, hstr, hheap⟩ := hmain
    rw [hrun]
    obtain ⟨a1, a2⟩ := hlm e he
    have hne : h b ≠ none := by simp [hb0]
    refine ⟨upd h b (.mapIter (some r) c (seen.push e.born) c), hstr, ?_, ?_, H1 e a1 a2 _ ⟨hne, rfl⟩⟩
    · rw [hheap]; exact hw.set _ (hw.lt hb0)
    · rw [hheap]; exact Fr.set _ hne

theorem semOk_entry {P : Program} {b r c s : Nat} {es : Array MapEntry} {seen : Array Nat} {k : IntKind} {h : Heap} {K : Value → Heap → Prop} {e : MapEntry}
    (hb0 : h b = some (.mapIter (some r) s (seen.push e.born) c)) (hr0 : h r = some (.map es c)) (hok : MapOk k es c) (he : e ∈ es.toList)
    (H : K (.tuple #[e.key, e.val]) h) : SemOk P (Instr.entry (.pointer (some ⟨b, 0, none⟩))) h K := by
  intro w hw
  have hr := hw _ _ hr0
  have hb := hw _ _ hb0
  have g1 : (getObj b).run P w = .ok (.mapIter (some r) s (seen.push e.born) c) w := by simp [getObj, Sem.run, hb]
  have g2 := run_getMap (P := P) hr
  have hfind : es.find? (fun x => x.born == e.born) = some e := by
    rw [Array.find?_eq_some_iff_getElem]
    obtain ⟨i, hi⟩ := List.mem_iff_getElem?.1 he
    have hlt : i < es.size := by have := (List.getElem?_eq_some_iff.1 hi).1; simpa using this
    have hei : es[i] = e := by have := (List.getElem?_eq_some_iff.1 hi).2; simpa using this
    refine ⟨by simp, i, hlt, hei, fun j hj => ?_⟩
    have hjl : j < es.size := by omega
    cases hc : es[j].born == e.born with
    | false => rfl
    | true =>
      have hbe : es[j].born = e.born := by simpa using hc
      have := nodup_idx hok.2.2.2 (i := j) (j := i) (a := e.born) (by simp [hjl, hbe]) (by simp [hlt, hei])
      omega
  have key : (Instr.entry (.pointer (some ⟨b, 0, none⟩))).run P w = .ok (.tuple #[e.key, e.val]) w := by
    unfold Instr.entry
    simp only [Sem.run_bind, g1, g2, Result.andThen_ok, Array.back?_push, bne_self_eq_false, Bool.false_eq_true, if_false, hfind, Sem.run_pure]
  rw [key]
  exact ⟨h, Str.refl w, hw, Fr.refl _ _, H⟩

/-- The slice has its own row: n elements of sz cells each, room for c. -/
def Own (h : Heap) (T sz : Nat) (p : Option Addr) (n c : Nat) (xs : List Value) : Prop :=
  (p = none ∧ n = 0 ∧ c = 0 ∧ xs = []) ∨
  ∃ b o arr, p = some ⟨b, o, none⟩ ∧ h b = some (.cells arr T (0, 0)) ∧ n ≤ c ∧ o + c * sz ≤ arr.size ∧ xs = (arr.toList.drop o).take (n * sz)

/-- The zero cells of n elements. -/
def zeros (z : List Value) : Nat → List Value
  | 0 => []
  | n + 1 => z ++ zeros z n

theorem growBy_le (newLen : Nat) : ∀ (k c : Nat), 256 ≤ c → c < newLen → Builtin.growBy newLen k c ≤ 2 * newLen := by
  intro k
  induction k with
  | zero => intro c h1 h2; simp [Builtin.growBy]; omega
  | succ k ih =>
    intro c h1 h2
    unfold Builtin.growBy
    rw [if_neg (by omega)]
    by_cases h : c + (c + 768) / 4 < newLen
    · exact ih _ (by omega) h
    · cases k with
      | zero => simp [Builtin.growBy]; omega
      | succ k => unfold Builtin.growBy; rw [if_pos (by omega)]; omega

theorem nextslicecap_le {need old : Nat} (h : old < need) : Builtin.nextslicecap need old ≤ 2 * need := by
  unfold Builtin.nextslicecap
  split
  · omega
  · split
    · omega
    · exact growBy_le _ _ _ (by omega) h

theorem run_loadCells {P : Program} {w : World} {b off : Nat} {vs : List Value} (hc : CellsG w.heap b off vs) :
    (loadCells ⟨b, off, none⟩ vs.length).run P w = .ok vs.toArray w := by
  have := run_loadCellsFrom (P := P) vs.length 0 vs #[] hc (by omega)
  simpa [loadCells] using this

theorem Own.length {h : Heap} {T sz : Nat} {p : Option Addr} {n c : Nat} {xs : List Value} (H : Own h T sz p n c xs) : xs.length = n * sz := by
  rcases H with ⟨_, rfl, _, rfl⟩ | ⟨b, o, arr, _, _, h1, h2, rfl⟩
  · simp
  · rw [List.length_take, List.length_drop]
    have : n * sz ≤ c * sz := Nat.mul_le_mul_right _ h1
    simp
    omega

theorem Own.cells {h : Heap} {T sz : Nat} {b o n c : Nat} {xs : List Value} (H : Own h T sz (some ⟨b, o, none⟩) n c xs) : Cells h b o xs := by
  rcases H with ⟨h1, _⟩ | ⟨b', o', arr, h1, h2, h3, h4, rfl⟩
  · cases h1
  · simp at h1
    obtain ⟨rfl, rfl⟩ := h1
    refine Cells.of h2 ?_
    have hl : ((arr.toList.drop o).take (n * sz)).length = n * sz := by
      rw [List.length_take, List.length_drop]
      have : n * sz ≤ c * sz := Nat.mul_le_mul_right _ h3
      simp
      omega
    rw [hl]

theorem run_firstCells {P : Program} {h : Heap} {w : World} {T sz : Nat} {p : Option Addr} {n c : Nat} {xs : List Value} (H : Own h T sz p n c xs) (hw : Sat h w.heap) (m c' : Nat) :
    (Builtin.firstCells sz n (.slice p m c')).run P w = .ok xs.toArray w := by
  have hl := H.length
  rcases hp : p with _ | ⟨b, o, s⟩
  · rcases H with ⟨_, rfl, _, rfl⟩ | ⟨b, o, arr, h1, _⟩
    · simp [Builtin.firstCells]
    · rw [hp] at h1; cases h1
  · have hs : s = none := by
      rcases H with ⟨h1, _⟩ | ⟨b, o, arr, h1, _⟩
      · rw [hp] at h1; cases h1
      · rw [hp] at h1; simp at h1; exact h1.2.2
    subst hs
    subst hp
    have := run_loadCells (P := P) (H.cells.g hw)
    rw [hl] at this
    simpa [Builtin.firstCells] using this

theorem zeroCells_eq (z : Array Value) (n : Nat) : (Builtin.zeroCells z n).size = n * z.size := by
  simp [Builtin.zeroCells]

/-- append(s, x...), both slices. -/
theorem semOk_append {P : Program} {t T ty : TypeId} {inf : TypeInfo} {zero : Value} {p q : Option Addr} {n c m mc : Nat} {xs ys : List Value} {h : Heap} {K : Value → Heap → Prop}
    (ht : P.underlying t = some (.slice T)) (hi : P.info? T = some inf) (hz : inf.zero = some zero)
    (hs : Own h T inf.size p n c xs) (hq : ∃ b o, q = some ⟨b, o, none⟩ ∧ Cells h b o ys) (hm : ys.length = m * inf.size) (h1 : ∀ v ∈ ys, v.oneCell' = true)
    (hb : 2 * (n + m) * inf.bytes ≤ 2 ^ 48) (hn : n + m < 2 ^ 62)
    (H1 : ∀ b o arr h', p = some ⟨b, o, none⟩ → h b = some (.cells arr T (0, 0)) → o + (n + m) * inf.size ≤ arr.size → n + m ≤ c →
      Wr h b (.cells (setAll arr (o + n * inf.size) ys) T (0, 0)) h' → K (.slice p (n + m) c) h')
    (H2 : ∀ c' b' h', n + m ≤ c' → Al h (.cells ((xs ++ ys).toArray ++ Builtin.zeroCells zero.cells (c' - (n + m))) T (0, 0)) b' h' → K (.slice (some ⟨b', 0, none⟩) (n + m) c') h') (hpos : 0 < m) :
    SemOk P (Builtin.append_ #[t, t] ty #[.slice p n c, .slice q m mc]) h K := by
  intro w hw
  obtain ⟨qb, qo, rfl, hqc0⟩ := hq
  have hqc := hqc0.g hw
  have hfy : (Builtin.firstCells inf.size m (.slice (some ⟨qb, qo, none⟩) m mc)).run P w = .ok ys.toArray w := by
    have := run_loadCells (P := P) hqc
    rw [hm] at this
    simpa [Builtin.firstCells] using this
  by_cases hfit : n + m ≤ c
  · -- it fits
    rcases hs with ⟨_, _, rfl, _⟩ | ⟨b, o, arr, rfl, hbk, hnc, hsz, rfl⟩
    · omega
    · have hle : o + (n + m) * inf.size ≤ arr.size := by
        have : (n + m) * inf.size ≤ c * inf.size := Nat.mul_le_mul_right _ hfit
        omega
      obtain ⟨w', hr, hstr, hheap⟩ := run_storeCells (P := P) ys w (o + n * inf.size) 0 arr (hw _ _ hbk) (by rw [hm]; rw [Nat.add_mul] at hle; omega) h1
      have key : (Builtin.append_ #[t, t] ty #[.slice (some ⟨b, o, none⟩) n c, .slice (some ⟨qb, qo, none⟩) m mc]).run P w = .ok (.slice (some ⟨b, o, none⟩) (n + m) c) w' := by
        unfold Builtin.append_
        simp [underlying, ht, sizeOf, typeInfo, hi, Builtin.lenOf, hfit, hfy, addr_add, hr]
      rw [key]
      have hne : h b ≠ none := by simp [hbk]
      simp only [Nat.add_zero] at hheap
      refine ⟨upd h b (.cells (setAll arr (o + n * inf.size) ys) T (0, 0)), hstr, ?_, ?_, H1 b o arr _ rfl hbk hle hfit ⟨hne, rfl⟩⟩
      · rw [hheap]; exact hw.set _ (hw.lt hbk)
      · rw [hheap]; exact Fr.set _ hne
  · have hlt : c < n + m := by omega
    have hcap := nextslicecap_le hlt
    have hcap' : ¬ 2 ^ 48 < Builtin.nextslicecap (n + m) c * inf.bytes := by
      have : Builtin.nextslicecap (n + m) c * inf.bytes ≤ 2 * (n + m) * inf.bytes := Nat.mul_le_mul_right _ hcap
      omega
    have hbig : ¬ IntKind.i64.max < (n : Int) + (m : Int) := by
      have h63 : IntKind.i64.max = 9223372036854775807 := by decide
      have : (2 : Nat) ^ 62 = 4611686018427387904 := by decide
      rw [h63]; omega
    have hmain : ∃ c' w', n + m ≤ c' ∧ (Builtin.append_ #[t, t] ty #[.slice p n c, .slice (some ⟨qb, qo, none⟩) m mc]).run P w = .ok (.slice (some ⟨w.heap.size, 0, none⟩) (n + m) c') w' ∧ Str w w' ∧
        w'.heap = w.heap.push (.cells ((xs ++ ys).toArray ++ Builtin.zeroCells zero.cells (c' - (n + m))) T (0, 0)) := by
      have hfy' : ∀ d, (Builtin.firstCells inf.size m (.slice (some ⟨qb, qo, none⟩) m mc)).run P { w with drawn := d } = .ok ys.toArray { w with drawn := d } := by
        intro d
        have := run_loadCells (P := P) (w := { w with drawn := d }) hqc
        rw [hm] at this
        simpa [Builtin.firstCells] using this
      have hfx' : ∀ d, (Builtin.firstCells inf.size n (.slice p n c)).run P { w with drawn := d } = .ok xs.toArray { w with drawn := d } := fun d => run_firstCells (w := { w with drawn := d }) hs hw n c
      refine ⟨(Question.appendCap (n + m) c T).cut (w.tape w.drawn (.appendCap (n + m) c T)), { w with drawn := w.drawn + 1, heap := w.heap.push (.cells ((xs ++ ys).toArray ++ Builtin.zeroCells zero.cells ((Question.appendCap (n + m) c T).cut (w.tape w.drawn (.appendCap (n + m) c T)) - (n + m))) T (0, 0)) }, by simp [Question.cut], ?_, ⟨rfl, rfl, rfl⟩, rfl⟩
      unfold Builtin.append_
      simp [underlying, ht, sizeOf, typeInfo, hi, Builtin.lenOf, hfit, hcap', hbig, Question.forced, hfx', hfy', zeroValue, hz, newRow]
      rw [← Array.append_assoc]
      simp
    obtain ⟨c', w', hc', hrun, hstr, hheap⟩ := hmain
    rw [hrun]
    refine ⟨upd h w.heap.size (.cells ((xs ++ ys).toArray ++ Builtin.zeroCells zero.cells (c' - (n + m))) T (0, 0)), hstr, ?_, ?_, H2 c' _ _ hc' ⟨hw.fresh, rfl⟩⟩
    · rw [hheap]; exact hw.push _
    · rw [hheap]; exact Fr.push _

end Go.Eng
