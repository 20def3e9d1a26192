/-
  ENGINE: m[k] in a parallel assignment: the entry, then the store.
-/
import Derived.Test.Qxb6500694aGreatDoorEngL
namespace Go.Eng
open Go
set_option maxRecDepth 100000
set_option linter.unusedVariables false
set_option linter.unusedSimpArgs false

/-- The map behind the entry: its entries, its clock, the stamp, what the entry held. -/
def midE (k : IntKind) (es : Array MapEntry) (c : Nat) (n : Int) (zero : Value) : Array MapEntry × Nat × Nat × Value :=
  match ifind n es.toList 0 with
  | some (i, v) => (es.modify i fun e => { e with key := .int k n }, c, ((es[i]?).map (·.born)).getD 0, v)
  | none => (es.push { key := .int k n, val := zero, born := c }, c + 1, c, zero)

theorem semOk_mapEntry {P : Program} {t kt et r c : Nat} {es : Array MapEntry} {k k' : IntKind} {n : Int} {inf : TypeInfo} {zero : Value} {h : Heap} {K : Value → Heap → Prop}
    (ht : P.underlying t = some (.map kt et)) (hu : P.underlying kt = some (.int k')) (hi : P.info? et = some inf) (hz : inf.zero = some zero) (hr0 : h r = some (.map es c)) (hk : KeysI k es.toList)
    (H : ∀ h', Wr h r (.map (midE k es c n zero).1 (midE k es c n zero).2.1) h' → K (.tuple #[(midE k es c n zero).2.2.2, .int .i64 ((midE k es c n zero).2.2.1 : Int)]) h') :
    SemOk P (Instr.mapEntry t (.map (some r)) (.int k n)) h K := by
  intro w hw
  have hr := hw _ _ hr0
  have h1 := run_findKey (P := P) (n := n) hu hk w
  have h2 := run_checkKey (P := P) (n := n) (k := k) hu false 9999 w
  have h3 := run_getMap (P := P) hr
  have hne : h r ≠ none := by rw [hr0]; simp
  have key : (Instr.mapEntry t (.map (some r)) (.int k n)).run P w = .ok (.tuple #[(midE k es c n zero).2.2.2, .int .i64 ((midE k es c n zero).2.2.1 : Int)]) { w with heap := w.heap.setIfInBounds r (.map (midE k es c n zero).1 (midE k es c n zero).2.1) } := by
    unfold Instr.mapEntry
    simp only [Sem.run_bind, underlying, run_program, ht, Result.andThen_ok, Sem.run_pure, h3, h2, h1]
    unfold midE
    cases hf : ifind n es.toList 0 with
    | none =>
      have h4 := fun o => run_setObj (P := P) hr o
      simp [zeroValue, typeInfo, hi, hz, h4, goInt]
    | some iv =>
      obtain ⟨i, v⟩ := iv
      obtain ⟨e, _, he, hke, hve⟩ := ifind_some hf
      have he' : es[i]? = some e := by simpa using he
      have hkey : e.key = .int k n := by
        obtain ⟨m, hm⟩ := hk e (List.mem_of_getElem? he)
        rw [hm] at hke ⊢
        simp [keyN] at hke
        rw [hke]
      have hsb : Instr.sameBits 10000 (.int k n) (.int k n) = true := by simp [Instr.sameBits]
      have h4 := fun o => run_setObj (P := P) hr o
      simp only [he', Option.map_some, Option.getD_some, hkey, Instr.keyThatStays, hsb, if_true, Sem.run_pure, Sem.run_bind, Result.andThen_ok, h4, goInt]
  rw [key]
  exact ⟨upd h r _, ⟨rfl, rfl, rfl⟩, hw.set _ (hw.lt hr0), Fr.set _ hne, H _ ⟨hne, rfl⟩⟩

theorem semOk_entryStore {P : Program} {t r c i : Nat} {es : Array MapEntry} {st : Int} {v : Value} {h : Heap} {K : Unit → Heap → Prop} (hr0 : h r = some (.map es c)) (hf : es.findIdx? (fun e => (e.born : Int) == st) = some i)
    (H : ∀ h', Wr h r (.map (es.modify i fun e => { e with val := v }) c) h' → K () h') : SemOk P (Instr.entryStore t (.map (some r)) (.int .i64 st) v) h K := by
  intro w hw
  have hr := hw _ _ hr0
  have h3 := run_getMap (P := P) hr
  have h4 := fun o => run_setObj (P := P) hr o
  have hne : h r ≠ none := by rw [hr0]; simp
  have key : (Instr.entryStore t (.map (some r)) (.int .i64 st) v).run P w = .ok () { w with heap := w.heap.setIfInBounds r (.map (es.modify i fun e => { e with val := v }) c) } := by
    unfold Instr.entryStore
    simp only [Sem.run_bind, Sem.run_pure, Result.andThen_ok, h3, asInt, asIntOf, hf, h4]
  rw [key]
  exact ⟨upd h r _, ⟨rfl, rfl, rfl⟩, hw.set _ (hw.lt hr0), Fr.set _ hne, H _ ⟨hne, rfl⟩⟩

theorem modify_toList {es : Array MapEntry} {i : Nat} {e : MapEntry} (he : es[i]? = some e) (f : MapEntry → MapEntry) : (es.modify i f).toList = es.toList.set i (f e) := by
  apply List.ext_getElem?
  intro j
  rw [Array.toList_modify, List.getElem?_modify, List.getElem?_set]
  have hi : i < es.toList.length := by
    have := (Array.getElem?_eq_some_iff.1 he).1
    simpa using this
  by_cases hij : i = j
  · subst hij
    simp only [if_true, if_pos hi]
    rw [Array.getElem?_toList, he]
    rfl
  · simp only [if_neg hij]
    cases es.toList[j]? <;> rfl

/-- The entry and the store make the update. -/
theorem mid_store {k : IntKind} {es : Array MapEntry} {c : Nat} {n : Int} {zero v : Value} (H : MapOk k es c) :
    ∃ i, (midE k es c n zero).1.findIdx? (fun e => (e.born : Int) == ((midE k es c n zero).2.2.1 : Int)) = some i ∧
      Obj.map ((midE k es c n zero).1.modify i fun e => { e with val := v }) (midE k es c n zero).2.1 = mput k es c n v := by
  obtain ⟨h1, h2, h3, h4⟩ := H
  unfold midE mput
  cases hf : ifind n es.toList 0 with
  | none =>
    refine ⟨es.size, ?_, ?_⟩
    · simp only
      rw [Array.findIdx?_eq_some_iff_getElem]
      refine ⟨by simp, by simp, fun j hj => ?_⟩
      have hj' : j < es.size := hj
      rw [Array.getElem_push_lt hj']
      have := h3 es[j] (by simp)
      simp
      omega
    · simp only
      congr 1
      apply Array.ext'
      rw [modify_toList (e := { key := .int k n, val := zero, born := c }) (by simp)]
      simp
  | some iv =>
    obtain ⟨i, x⟩ := iv
    obtain ⟨e, _, he, hke, hve⟩ := ifind_some hf
    have he' : es[i]? = some e := by simpa using he
    have hlt : i < es.size := (Array.getElem?_eq_some_iff.1 he').1
    have hei : es[i] = e := by
      have := Array.getElem?_eq_getElem hlt
      rw [he'] at this
      exact (Option.some.inj this).symm
    refine ⟨i, ?_, ?_⟩
    · simp only [he', Option.map_some, Option.getD_some]
      rw [Array.findIdx?_eq_some_iff_getElem]
      refine ⟨by simpa using hlt, ?_, fun j hj => ?_⟩
      · simp [Array.getElem_modify, hei]
      · have hjs : j < es.size := by omega
        have hji : ¬ i = j := by omega
        simp only [Array.getElem_modify, if_neg hji]
        intro hb
        have hb' : es[j].born = e.born := by
          have hb2 : (es[j].born : Int) = (e.born : Int) := by simpa using hb
          omega
        have h5 : (es.toList.map (·.born))[j]? = some e.born := by simp [hjs, hb']
        have h6 : (es.toList.map (·.born))[i]? = some e.born := by simp [hlt, hei]
        have := nodup_idx h4 h5 h6
        omega
    · simp only
      congr 1
      apply Array.ext'
      have hm : (es.modify i fun e => { e with key := .int k n })[i]? = some { e with key := .int k n } := by
        simp [Array.getElem?_modify, he']
      rw [modify_toList hm, modify_toList he', modify_toList he', List.set_set]

end Go.Eng
