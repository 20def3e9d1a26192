/-
  THE ENGINE, PART H: maps keyed by integers.
-/
import Derived.Test.Qxb6500695aGreatFmtEngG
namespace Go.Eng
open Go
set_option linter.unusedSimpArgs false

def keyN : Value → Int
  | .int _ n => n
  | _ => 0

/-- Every key is an integer of kind k. -/
def KeysI (k : IntKind) (es : List MapEntry) : Prop := ∀ e ∈ es, ∃ n, e.key = .int k n

/-- Where the key n stands, and with what. -/
def ifind (n : Int) : List MapEntry → Nat → Option (Nat × Value)
  | [], _ => none
  | e :: es, i => if n == keyN e.key then some (i, e.val) else ifind n es (i + 1)

def iget (es : List MapEntry) (n : Int) : Option Value := (ifind n es 0).map (·.2)

theorem findNow_int {k k' : IntKind} {n : Int} : ∀ {es : List MapEntry} {i : Nat}, KeysI k es →
    Instr.findNow (.int k') (.int k n) es i = some (ifind n es i)
  | [], _, _ => rfl
  | e :: es, i, hk => by
    obtain ⟨m, hm⟩ := hk e List.mem_cons_self
    have ih := findNow_int (k' := k') (n := n) (es := es) (i := i + 1) (fun x hx => hk x (List.mem_cons_of_mem _ hx))
    simp only [Instr.findNow, ifind, hm, Instr.sameNow, keyN]
    by_cases h : n = m
    · subst h; simp
    · have h1 : (n == m) = false := by simpa using h
      simp [h1, ih]

theorem run_findKey {P : Program} {kt : TypeId} {k k' : IntKind} {n : Int} {es : List MapEntry} (hu : P.underlying kt = some (.int k')) (hk : KeysI k es) (w : World) :
    (Instr.findKey kt (.int k n) es).run P w = .ok (ifind n es 0) w := by
  simp [Instr.findKey, underlying, hu, findNow_int hk]

theorem run_checkKey {P : Program} {kt : TypeId} {k k' : IntKind} {n : Int} (hu : P.underlying kt = some (.int k')) (e : Bool) (d : Nat) (w : World) :
    (Instr.checkKey e (d + 1) kt (.int k n)).run P w = .ok () w := by
  simp [Instr.checkKey, underlying, hu]

theorem run_getMap {P : Program} {w : World} {r c : Nat} {es : Array MapEntry} (hr : w.heap[r]? = some (.map es c)) :
    (getObj r).run P w = .ok (.map es c) w := by
  simp [getObj, Sem.run, hr]

def lookV (es : Array MapEntry) (n : Int) (ok : Bool) (zero : Value) : Value :=
  match iget es.toList n, ok with
  | some v, true => .tuple #[v, .bool true]
  | none, true => .tuple #[zero, .bool false]
  | some v, false => v
  | none, false => zero

theorem lookIs_int {P : Program} {t kt et r c : Nat} {es : Array MapEntry} {k k' : IntKind} {n : Int} {ok : Bool} {inf : TypeInfo} {zero : Value}
    (ht : P.underlying t = some (.map kt et)) (hu : P.underlying kt = some (.int k')) (hi : P.info? et = some inf) (hz : inf.zero = some zero)
    (hk : KeysI k es.toList) : LookIs P t r es c (.int k n) ok (lookV es n ok zero) := by
  intro w hw
  have h1 := run_findKey (P := P) (n := n) hu hk w
  have h2 := run_checkKey (P := P) (n := n) (k := k) hu es.isEmpty 9999 w
  have h3 := run_getMap (P := P) hw
  unfold Instr.lookup
  simp only [Sem.run_bind, underlying, run_program, ht, Result.andThen_ok, Sem.run_pure, h3, h2, h1]
  unfold lookV iget
  cases hf : ifind n es.toList 0 with
  | none => cases ok <;> simp [zeroValue, typeInfo, hi, hz]
  | some iv => cases ok <;> simp

/-- The map with n ↦ v. -/
def mput (k : IntKind) (es : Array MapEntry) (c : Nat) (n : Int) (v : Value) : Obj :=
  match ifind n es.toList 0 with
  | some (i, _) => .map (es.modify i fun e => { e with key := .int k n, val := v }) c
  | none => .map (es.push { key := .int k n, val := v, born := c }) (c + 1)

theorem ifind_some {n : Int} : ∀ {es : List MapEntry} {i j : Nat} {v : Value}, ifind n es i = some (j, v) →
    ∃ e, i ≤ j ∧ es[j - i]? = some e ∧ keyN e.key = n ∧ e.val = v
  | [], _, _, _, h => by simp [ifind] at h
  | e :: es, i, j, v, h => by
    unfold ifind at h
    split at h
    · rename_i hn
      simp at h
      obtain ⟨rfl, rfl⟩ := h
      exact ⟨e, Nat.le_refl _, by simp, (by simpa using hn : n = keyN e.key).symm, rfl⟩
    · obtain ⟨x, h1, h2, h3, h4⟩ := ifind_some h
      refine ⟨x, by omega, ?_, h3, h4⟩
      rw [show j - i = (j - (i + 1)) + 1 by omega]
      simpa using h2

theorem run_setObj {P : Program} {w : World} {r c : Nat} {es : Array MapEntry} (hr : w.heap[r]? = some (.map es c)) (o : Obj) :
    (setObj r o).run P w = .ok () { w with heap := w.heap.setIfInBounds r o } := by
  simp [setObj, Sem.run, hr]

theorem semOk_mapUpdate {P : Program} {t kt et r c : Nat} {es : Array MapEntry} {k k' : IntKind} {n : Int} {v : Value} {h : Heap} {K : Unit → Heap → Prop}
    (ht : P.underlying t = some (.map kt et)) (hu : P.underlying kt = some (.int k')) (hr0 : h r = some (.map es c)) (hk : KeysI k es.toList)
    (H : ∀ h', Wr h r (mput k es c n v) h' → K () h') : SemOk P (Instr.mapUpdate t (.map (some r)) (.int k n) v) h K := by
  intro w hw
  have hr := hw _ _ hr0
  have hne : h r ≠ none := by simp [hr0]
  have h1 := run_findKey (P := P) (n := n) hu hk w
  have h2 := run_checkKey (P := P) (n := n) (k := k) hu false 9999 w
  have h3 := run_getMap (P := P) hr
  have h4 := fun o => run_setObj (P := P) hr o
  have hlt := hw.lt hr0
  have key : (Instr.mapUpdate t (.map (some r)) (.int k n) v).run P w = .ok () { w with heap := w.heap.setIfInBounds r (mput k es c n v) } := by
    unfold Instr.mapUpdate mput
    simp only [Sem.run_bind, underlying, run_program, ht, Result.andThen_ok, Sem.run_pure, h3, h2, h1]
    cases hf : ifind n es.toList 0 with
    | none => simp only [h4]
    | some iv =>
      obtain ⟨i, x⟩ := iv
      obtain ⟨e, _, he, hkn, hv⟩ := ifind_some hf
      have he' : es[i]? = some e := by simpa using he
      have hkey : e.key = .int k n := by
        obtain ⟨m, hm⟩ := hk e (List.mem_of_getElem? he)
        rw [hm] at hkn ⊢
        simp [keyN] at hkn
        rw [hkn]
      have hsb : Instr.sameBits 10000 (.int k n) (.int k n) = true := by simp [Instr.sameBits]
      simp only [he', Option.map_some, Option.getD_some, hkey, Instr.keyThatStays, hsb, if_true, Sem.run_pure, Sem.run_bind, Result.andThen_ok, h4]
  rw [key]
  exact ⟨_, ⟨rfl, rfl, rfl⟩, hw.set _ hlt, Fr.set _ hne, H _ ⟨hne, rfl⟩⟩

/-- The map without n. -/
def mdel (es : Array MapEntry) (c : Nat) (n : Int) : Obj :=
  match ifind n es.toList 0 with
  | some (i, _) => .map (es.eraseIdxIfInBounds i) c
  | none => .map es c

theorem semOk_delete {P : Program} {t kt et ty r c : Nat} {es : Array MapEntry} {k k' : IntKind} {n : Int} {h : Heap} {K : Value → Heap → Prop} {t2 : TypeId}
    (ht : P.underlying t = some (.map kt et)) (hu : P.underlying kt = some (.int k')) (hr0 : h r = some (.map es c)) (hk : KeysI k es.toList)
    (H : ∀ h', Wr h r (mdel es c n) h' → K (.tuple #[]) h') : SemOk P (Builtin.delete_ #[t, t2] ty #[.map (some r), .int k n]) h K := by
  intro w hw
  have hr := hw _ _ hr0
  have hne : h r ≠ none := by simp [hr0]
  have h1 := run_findKey (P := P) (n := n) hu hk w
  have h2 := run_checkKey (P := P) (n := n) (k := k) hu es.isEmpty 9999 w
  have h3 := run_getMap (P := P) hr
  have h4 := fun o => run_setObj (P := P) hr o
  have hlt := hw.lt hr0
  have key : (Builtin.delete_ #[t, t2] ty #[.map (some r), .int k n]).run P w = .ok (.tuple #[]) { w with heap := w.heap.setIfInBounds r (mdel es c n) } := by
    unfold Builtin.delete_ mdel
    simp only [Array.getElem?_eq_getElem, List.size_toArray, List.length_cons, List.length_nil, Nat.zero_lt_succ, Nat.lt_add_one, List.getElem_toArray, List.getElem_cons_zero, List.getElem_cons_succ, Nat.reduceAdd, Nat.one_lt_two,
      Sem.run_bind, underlying, run_program, ht, Result.andThen_ok, Sem.run_pure, h3, h2, h1]
    cases hf : ifind n es.toList 0 with
    | none => simp only [Sem.run_bind, h4, Result.andThen_ok, Sem.run_pure]
    | some iv => simp only [Sem.run_bind, h4, Result.andThen_ok, Sem.run_pure]
  rw [key]
  exact ⟨_, ⟨rfl, rfl, rfl⟩, hw.set _ hlt, Fr.set _ hne, H _ ⟨hne, rfl⟩⟩

/-- A map in good order: its keys, each once; its stamps, each once, all below the clock. -/
def MapOk (k : IntKind) (es : Array MapEntry) (c : Nat) : Prop :=
  KeysI k es.toList ∧ (es.toList.map fun e => keyN e.key).Nodup ∧ (∀ e ∈ es.toList, e.born < c) ∧ (es.toList.map (·.born)).Nodup

theorem MapOk.empty (k : IntKind) (c : Nat) : MapOk k #[] c := by
  simp [MapOk, KeysI]

theorem iget_none {n : Int} : ∀ {es : List MapEntry} {i : Nat}, ifind n es i = none ↔ ∀ e ∈ es, keyN e.key ≠ n
  | [], _ => by simp [ifind]
  | e :: es, i => by
    unfold ifind
    split
    · rename_i h
      have : n = keyN e.key := by simpa using h
      simp [this]
    · rename_i h
      have hne : ¬ n = keyN e.key := by simpa using h
      rw [iget_none (es := es)]
      simp [Ne.symm hne]

theorem ifind_shift {n : Int} : ∀ {es : List MapEntry} {i j : Nat}, (ifind n es i).map (·.2) = (ifind n es j).map (·.2)
  | [], _, _ => rfl
  | e :: es, i, j => by
    unfold ifind
    split
    · rfl
    · exact ifind_shift

theorem iget_cons (e : MapEntry) (es : List MapEntry) (n : Int) : iget (e :: es) n = if n = keyN e.key then some e.val else iget es n := by
  unfold iget
  rw [ifind]
  by_cases h : n = keyN e.key
  · simp [h]
  · have : (n == keyN e.key) = false := by simpa using h
    simp only [this, h, if_false]
    exact ifind_shift

theorem iget_append (es fs : List MapEntry) (n : Int) : iget (es ++ fs) n = (iget es n).or (iget fs n) := by
  induction es with
  | nil => simp [iget, ifind]
  | cons e es ih =>
    rw [List.cons_append, iget_cons, iget_cons]
    split <;> simp [ih]

theorem iget_eq_none {es : List MapEntry} {n : Int} : iget es n = none ↔ ∀ e ∈ es, keyN e.key ≠ n := by
  unfold iget
  rw [Option.map_eq_none_iff, iget_none]

theorem iget_mem {es : List MapEntry} {n : Int} {v : Value} (h : iget es n = some v) : ∃ e ∈ es, keyN e.key = n ∧ e.val = v := by
  unfold iget at h
  rw [Option.map_eq_some_iff] at h
  obtain ⟨⟨j, x⟩, h1, rfl⟩ := h
  obtain ⟨e, _, he, hk, hv⟩ := ifind_some h1
  exact ⟨e, List.mem_of_getElem? he, hk, hv⟩

theorem iget_of_mem : ∀ {es : List MapEntry} {e : MapEntry}, (es.map fun e => keyN e.key).Nodup → e ∈ es → iget es (keyN e.key) = some e.val
  | x :: es, e, hn, he => by
    rw [iget_cons]
    rw [List.map_cons, List.nodup_cons] at hn
    cases he with
    | head => simp
    | tail _ hm =>
      rw [if_neg, iget_of_mem hn.2 hm]
      intro hc
      exact hn.1 (hc ▸ List.mem_map.2 ⟨e, hm, rfl⟩)

/-- What the map holds behind 'm[n] = v'. -/
theorem mput_ok {k : IntKind} {es : Array MapEntry} {c : Nat} {n : Int} {v : Value} (H : MapOk k es c) :
    ∃ es' c', mput k es c n v = .map es' c' ∧ MapOk k es' c' ∧ (∀ m, iget es'.toList m = if m = n then some v else iget es.toList m) ∧
      (∀ e ∈ es'.toList, (keyN e.key = n ∧ e.val = v) ∨ e ∈ es.toList) ∧ es.size ≤ es'.size ∧ es'.size ≤ es.size + 1 := by
  obtain ⟨h1, h2, h3, h4⟩ := H
  unfold mput
  cases hf : ifind n es.toList 0 with
  | none =>
    have hno := iget_none.1 hf
    refine ⟨_, _, rfl, ⟨?_, ?_, ?_, ?_⟩, ?_, ?_, by simp, by simp⟩
    · intro e he
      simp at he
      rcases he with he | rfl
      · exact h1 e (by simpa using he)
      · exact ⟨n, rfl⟩
    · simp only [Array.toList_push, List.map_append, List.map_cons, List.map_nil]
      rw [List.nodup_append]
      refine ⟨h2, by simp, ?_⟩
      intro a ha b hb
      simp [keyN] at hb
      obtain ⟨e, he, rfl⟩ := List.mem_map.1 ha
      rw [hb]; exact hno e he
    · intro e he
      simp at he
      rcases he with he | rfl
      · have := h3 e (by simpa using he); omega
      · simp
    · simp only [Array.toList_push, List.map_append, List.map_cons, List.map_nil]
      rw [List.nodup_append]
      refine ⟨h4, by simp, ?_⟩
      intro a ha b hb
      simp at hb
      obtain ⟨e, he, rfl⟩ := List.mem_map.1 ha
      have := h3 e he
      omega
    · intro m
      rw [Array.toList_push, iget_append]
      by_cases hm : m = n
      · subst hm
        have : iget es.toList m = none := by unfold iget; rw [hf]; rfl
        simp [this, iget_cons, keyN]
      · have : iget [{ key := .int k n, val := v, born := c }] m = none := by simp [iget, ifind, keyN, hm]
        simp [hm, this]
    · intro e he
      simp at he
      rcases he with he | rfl
      · exact .inr (by simpa using he)
      · exact .inl ⟨rfl, rfl⟩
  | some iv =>
    obtain ⟨i, x⟩ := iv
    obtain ⟨e0, _, he0, hk0, hv0⟩ := ifind_some hf
    simp only [Nat.sub_zero] at he0
    have hi : i < es.size := by have := (List.getElem?_eq_some_iff.1 he0).1; simpa using this
    have hlist : (es.modify i fun e => { e with key := .int k n, val := v }).toList = es.toList.set i { e0 with key := .int k n, val := v } := by
      apply List.ext_getElem?
      intro j
      simp only [Array.toList_modify]
      rw [List.getElem?_modify, List.getElem?_set]
      by_cases hij : i = j
      · subst hij
        have := (List.getElem?_eq_some_iff.1 he0).2
        simp at this
        simp [hi, this]
      · simp [hij]
    have hkeys : (es.toList.set i { e0 with key := .int k n, val := v }).map (fun e => keyN e.key) = es.toList.map fun e => keyN e.key := by
      rw [List.map_set]
      apply List.ext_getElem?
      intro j
      rw [List.getElem?_set]
      split
      · rename_i hij; subst hij
        have := (List.getElem?_eq_some_iff.1 he0).2
        simp at this
        simp [hi, this]
        exact hk0.symm
      · rfl
    have hborn : (es.toList.set i { e0 with key := .int k n, val := v }).map (·.born) = es.toList.map (·.born) := by
      rw [List.map_set]
      apply List.ext_getElem?
      intro j
      rw [List.getElem?_set]
      split
      · rename_i hij; subst hij
        have := (List.getElem?_eq_some_iff.1 he0).2
        simp at this
        simp [hi, this]
      · rfl
    have hmem : ∀ e ∈ es.toList.set i { e0 with key := .int k n, val := v }, e = { e0 with key := .int k n, val := v } ∨ e ∈ es.toList := by
      intro e he
      rcases List.mem_or_eq_of_mem_set he with h | h
      · exact .inr h
      · exact .inl h
    have he0m : e0 ∈ es.toList := List.mem_of_getElem? he0
    refine ⟨_, _, rfl, ⟨?_, ?_, ?_, ?_⟩, ?_, ?_, by simp, by simp⟩
    · rw [hlist]
      intro e he
      rcases hmem e he with rfl | h
      · exact ⟨n, rfl⟩
      · exact h1 e h
    · rw [hlist, hkeys]; exact h2
    · rw [hlist]
      intro e he
      rcases hmem e he with rfl | h
      · exact h3 e0 he0m
      · exact h3 e h
    · rw [hlist, hborn]; exact h4
    · intro m
      rw [hlist]
      have hnd : ((es.toList.set i { e0 with key := .int k n, val := v }).map fun e => keyN e.key).Nodup := by rw [hkeys]; exact h2
      by_cases hm : m = n
      · subst hm
        have hin : ({ e0 with key := .int k m, val := v } : MapEntry) ∈ es.toList.set i { e0 with key := .int k m, val := v } := by
          rw [List.mem_iff_getElem?]
          refine ⟨i, ?_⟩
          rw [List.getElem?_set]
          simp [hi]
        have := iget_of_mem hnd hin
        simpa [keyN] using this
      · rw [if_neg hm]
        cases hg : iget es.toList m with
        | none =>
          rw [iget_eq_none] at hg ⊢
          intro e he
          rcases hmem e he with rfl | h
          · simpa [keyN] using Ne.symm hm
          · exact hg e h
        | some y =>
          obtain ⟨e, he, hke, hve⟩ := iget_mem hg
          have hne : e ≠ e0 := by
            intro hc; subst hc
            exact hm (hke.symm.trans hk0)
          have hin : e ∈ es.toList.set i { e0 with key := .int k n, val := v } := by
            obtain ⟨j, hj⟩ := List.mem_iff_getElem?.1 he
            rw [List.mem_iff_getElem?]
            refine ⟨j, ?_⟩
            rw [List.getElem?_set]
            by_cases hij : i = j
            · subst hij
              rw [he0] at hj
              exact absurd (Option.some.inj hj).symm hne
            · simp [hij]; simpa using hj
          have := iget_of_mem hnd hin
          rw [hke, hve] at this
          exact this
    · rw [hlist]
      intro e he
      rcases hmem e he with rfl | h
      · exact .inl ⟨rfl, rfl⟩
      · exact .inr h

theorem nodup_idx {α : Type} {l : List α} (h : l.Nodup) {i j : Nat} {a : α} (hi : l[i]? = some a) (hj : l[j]? = some a) : i = j := by
  obtain ⟨h1, h2⟩ := List.getElem?_eq_some_iff.1 hi
  obtain ⟨h3, h4⟩ := List.getElem?_eq_some_iff.1 hj
  have hp := List.pairwise_iff_getElem.1 h
  rcases Nat.lt_trichotomy i j with hlt | he | hgt
  · exact absurd (h2.trans h4.symm) (hp i j h1 h3 hlt)
  · exact he
  · exact absurd (h4.trans h2.symm) (hp j i h3 h1 hgt)

theorem mdel_ok {k : IntKind} {es : Array MapEntry} {c : Nat} {n : Int} (H : MapOk k es c) :
    ∃ es', mdel es c n = .map es' c ∧ MapOk k es' c ∧ (∀ m, iget es'.toList m = if m = n then none else iget es.toList m) ∧
      (∀ e ∈ es'.toList, e ∈ es.toList) ∧ es'.size ≤ es.size := by
  obtain ⟨h1, h2, h3, h4⟩ := H
  unfold mdel
  cases hf : ifind n es.toList 0 with
  | none =>
    refine ⟨es, rfl, ⟨h1, h2, h3, h4⟩, fun m => ?_, fun e he => he, Nat.le_refl _⟩
    split
    · rename_i h; subst h; unfold iget; rw [hf]; rfl
    · rfl
  | some iv =>
    obtain ⟨i, x⟩ := iv
    obtain ⟨e0, _, he0, hk0, hv0⟩ := ifind_some hf
    simp only [Nat.sub_zero] at he0
    have hlist : (es.eraseIdxIfInBounds i).toList = es.toList.eraseIdx i := by simp
    have hsub : (es.toList.eraseIdx i).Sublist es.toList := List.eraseIdx_sublist _ _
    have hmem : ∀ e ∈ es.toList.eraseIdx i, e ∈ es.toList := fun e he => hsub.subset he
    refine ⟨_, rfl, ⟨?_, ?_, ?_, ?_⟩, ?_, ?_, ?_⟩
    · rw [hlist]; intro e he; exact h1 e (hmem e he)
    · rw [hlist]; exact (hsub.map _).nodup h2
    · rw [hlist]; intro e he; exact h3 e (hmem e he)
    · rw [hlist]; exact (hsub.map _).nodup h4
    · intro m
      rw [hlist]
      have hnd : ((es.toList.eraseIdx i).map fun e => keyN e.key).Nodup := (hsub.map _).nodup h2
      have hidx : ∀ j, (es.toList.map fun e => keyN e.key)[j]? = some n → j = i := by
        intro j hj
        have hi' : (es.toList.map fun e => keyN e.key)[i]? = some n := by simp [List.getElem?_map, he0, hk0]
        exact nodup_idx h2 hj hi'
      split
      · rename_i hm; subst hm
        rw [iget_eq_none]
        intro e he hke
        obtain ⟨j, hj⟩ := List.mem_iff_getElem?.1 he
        rw [List.getElem?_eraseIdx] at hj
        split at hj
        · rename_i hlt
          have := hidx j (by simp [List.getElem?_map, hj, hke])
          omega
        · rename_i hge
          have := hidx (j + 1) (by simp [List.getElem?_map, hj, hke])
          omega
      · rename_i hm
        cases hg : iget es.toList m with
        | none =>
          rw [iget_eq_none] at hg ⊢
          intro e he
          exact hg e (hmem e he)
        | some y =>
          obtain ⟨e, he, hke, hve⟩ := iget_mem hg
          have hin : e ∈ es.toList.eraseIdx i := by
            obtain ⟨j, hj⟩ := List.mem_iff_getElem?.1 he
            have hji : j ≠ i := by
              intro hc; subst hc
              rw [he0] at hj
              rw [← Option.some.inj hj] at hke
              exact hm (hke.symm.trans hk0)
            rw [List.mem_iff_getElem?]
            rcases Nat.lt_or_gt_of_ne hji with h | h
            · exact ⟨j, by rw [List.getElem?_eraseIdx, if_pos h]; exact hj⟩
            · refine ⟨j - 1, ?_⟩
              rw [List.getElem?_eraseIdx, if_neg (by omega)]
              rw [show j - 1 + 1 = j by omega]; exact hj
          have := iget_of_mem hnd hin
          rw [hke, hve] at this
          exact this
    · intro e he
      rw [hlist] at he
      exact hmem e he
    · have := hsub.length_le
      have h5 : (es.eraseIdxIfInBounds i).size = (es.toList.eraseIdx i).length := by rw [← Array.length_toList, hlist]
      rw [h5]
      simpa using this

end Go.Eng
