/-
  THE ENGINE, PART Q: maps keyed by strings.
-/
import Derived.Test.Qxb6500695aGreatFmtEngP
namespace Go.Eng
open Go
set_option linter.unusedSimpArgs false
set_option linter.unusedVariables false

theorem lawfulBytes : LawfulBEq ByteArray :=
  { eq_of_beq := fun {a b} h => by
      cases a with
      | mk x =>
        cases b with
        | mk y =>
          have h' : (x == y) = true := h
          rw [beq_iff_eq.1 h']
    rfl := fun {a} => by
      cases a with
      | mk x => exact (beq_self_eq_true x : (x == x) = true) }

def keyS : Value → ByteArray
  | .string n => n
  | _ => ByteArray.empty

/-- Every key is a string. -/
def KeysS (es : List MapEntry) : Prop := ∀ e ∈ es, ∃ n, e.key = .string n

/-- Where the key n stands, and with what. -/
def sfind (n : ByteArray) : List MapEntry → Nat → Option (Nat × Value)
  | [], _ => none
  | e :: es, i => if n == keyS e.key then some (i, e.val) else sfind n es (i + 1)

def sget (es : List MapEntry) (n : ByteArray) : Option Value := (sfind n es 0).map (·.2)

theorem findNow_str {n : ByteArray} : ∀ {es : List MapEntry} {i : Nat}, KeysS es →
    Instr.findNow .string (.string n) es i = some (sfind n es i)
  | [], _, _ => rfl
  | e :: es, i, hk => by
    have lb := lawfulBytes
    obtain ⟨m, hm⟩ := hk e List.mem_cons_self
    have ih := findNow_str (n := n) (es := es) (i := i + 1) (fun x hx => hk x (List.mem_cons_of_mem _ hx))
    simp only [Instr.findNow, sfind, hm, Instr.sameNow, keyS]
    by_cases h : n = m
    · subst h; simp
    · have h1 : (n == m) = false := by simpa using h
      simp [h1, ih]

theorem run_findKeyS {P : Program} {kt : TypeId} {n : ByteArray} {es : List MapEntry} (hu : P.underlying kt = some .string) (hk : KeysS es) (w : World) :
    (Instr.findKey kt (.string n) es).run P w = .ok (sfind n es 0) w := by
  simp [Instr.findKey, underlying, hu, findNow_str hk]

theorem run_checkKeyS {P : Program} {kt : TypeId} {n : ByteArray} (hu : P.underlying kt = some .string) (e : Bool) (d : Nat) (w : World) :
    (Instr.checkKey e (d + 1) kt (.string n)).run P w = .ok () w := by
  simp [Instr.checkKey, underlying, hu]

def lookS (es : Array MapEntry) (n : ByteArray) (ok : Bool) (zero : Value) : Value :=
  match sget es.toList n, ok with
  | some v, true => .tuple #[v, .bool true]
  | none, true => .tuple #[zero, .bool false]
  | some v, false => v
  | none, false => zero

theorem lookIs_str {P : Program} {t kt et r c : Nat} {es : Array MapEntry} {n : ByteArray} {ok : Bool} {inf : TypeInfo} {zero : Value}
    (ht : P.underlying t = some (.map kt et)) (hu : P.underlying kt = some .string) (hi : P.info? et = some inf) (hz : inf.zero = some zero)
    (hk : KeysS es.toList) : LookIs P t r es c (.string n) ok (lookS es n ok zero) := by
  intro w hw
  have h1 := run_findKeyS (P := P) (n := n) hu hk w
  have h2 := run_checkKeyS (P := P) (n := n) hu es.isEmpty 9999 w
  have h3 := run_getMap (P := P) hw
  unfold Instr.lookup
  simp only [Sem.run_bind, underlying, run_program, ht, Result.andThen_ok, Sem.run_pure, h3, h2, h1]
  unfold lookS sget
  cases hf : sfind n es.toList 0 with
  | none => cases ok <;> simp [zeroValue, typeInfo, hi, hz]
  | some iv => cases ok <;> simp

/-- The map with n ↦ v. -/
def mputS (es : Array MapEntry) (c : Nat) (n : ByteArray) (v : Value) : Obj :=
  match sfind n es.toList 0 with
  | some (i, _) => .map (es.modify i fun e => { e with key := .string n, val := v }) c
  | none => .map (es.push { key := .string n, val := v, born := c }) (c + 1)

theorem sfind_some {n : ByteArray} : ∀ {es : List MapEntry} {i j : Nat} {v : Value}, sfind n es i = some (j, v) →
    ∃ e, i ≤ j ∧ es[j - i]? = some e ∧ keyS e.key = n ∧ e.val = v
  | [], _, _, _, h => by simp [sfind] at h
  | e :: es, i, j, v, h => by
    have lb := lawfulBytes
    unfold sfind at h
    split at h
    · rename_i hn
      simp at h
      obtain ⟨rfl, rfl⟩ := h
      exact ⟨e, Nat.le_refl _, by simp, (by simpa using hn : n = keyS e.key).symm, rfl⟩
    · obtain ⟨x, h1, h2, h3, h4⟩ := sfind_some h
      refine ⟨x, by omega, ?_, h3, h4⟩
      rw [show j - i = (j - (i + 1)) + 1 by omega]
      simpa using h2

theorem semOk_mapUpdateS {P : Program} {t kt et r c : Nat} {es : Array MapEntry} {n : ByteArray} {v : Value} {h : Heap} {K : Unit → Heap → Prop}
    (ht : P.underlying t = some (.map kt et)) (hu : P.underlying kt = some .string) (hr0 : h r = some (.map es c)) (hk : KeysS es.toList)
    (H : ∀ h', Wr h r (mputS es c n v) h' → K () h') : SemOk P (Instr.mapUpdate t (.map (some r)) (.string n) v) h K := by
  have lb := lawfulBytes
  intro w hw
  have hr := hw _ _ hr0
  have hne : h r ≠ none := by simp [hr0]
  have h1 := run_findKeyS (P := P) (n := n) hu hk w
  have h2 := run_checkKeyS (P := P) (n := n) hu false 9999 w
  have h3 := run_getMap (P := P) hr
  have h4 := fun o => run_setObj (P := P) hr o
  have hlt := hw.lt hr0
  have key : (Instr.mapUpdate t (.map (some r)) (.string n) v).run P w = .ok () { w with heap := w.heap.setIfInBounds r (mputS es c n v) } := by
    unfold Instr.mapUpdate mputS
    simp only [Sem.run_bind, underlying, run_program, ht, Result.andThen_ok, Sem.run_pure, h3, h2, h1]
    cases hf : sfind n es.toList 0 with
    | none => simp only [h4]
    | some iv =>
      obtain ⟨i, x⟩ := iv
      obtain ⟨e, _, he, hkn, hv⟩ := sfind_some hf
      have he' : es[i]? = some e := by simpa using he
      have hkey : e.key = .string n := by
        obtain ⟨m, hm⟩ := hk e (List.mem_of_getElem? he)
        rw [hm] at hkn ⊢
        simp [keyS] at hkn
        rw [hkn]
      have hsb : Instr.sameBits 10000 (.string n) (.string n) = true := by simp [Instr.sameBits]
      simp only [he', Option.map_some, Option.getD_some, hkey, Instr.keyThatStays, hsb, if_true, Sem.run_pure, Sem.run_bind, Result.andThen_ok, h4]
  rw [key]
  exact ⟨_, ⟨rfl, rfl, rfl⟩, hw.set _ hlt, Fr.set _ hne, H _ ⟨hne, rfl⟩⟩

/-- The map without n. -/
def mdelS (es : Array MapEntry) (c : Nat) (n : ByteArray) : Obj :=
  match sfind n es.toList 0 with
  | some (i, _) => .map (es.eraseIdxIfInBounds i) c
  | none => .map es c

theorem semOk_deleteS {P : Program} {t kt et ty r c : Nat} {es : Array MapEntry} {n : ByteArray} {h : Heap} {K : Value → Heap → Prop} {t2 : TypeId}
    (ht : P.underlying t = some (.map kt et)) (hu : P.underlying kt = some .string) (hr0 : h r = some (.map es c)) (hk : KeysS es.toList)
    (H : ∀ h', Wr h r (mdelS es c n) h' → K (.tuple #[]) h') : SemOk P (Builtin.delete_ #[t, t2] ty #[.map (some r), .string n]) h K := by
  have lb := lawfulBytes
  intro w hw
  have hr := hw _ _ hr0
  have hne : h r ≠ none := by simp [hr0]
  have h1 := run_findKeyS (P := P) (n := n) hu hk w
  have h2 := run_checkKeyS (P := P) (n := n) hu es.isEmpty 9999 w
  have h3 := run_getMap (P := P) hr
  have h4 := fun o => run_setObj (P := P) hr o
  have hlt := hw.lt hr0
  have key : (Builtin.delete_ #[t, t2] ty #[.map (some r), .string n]).run P w = .ok (.tuple #[]) { w with heap := w.heap.setIfInBounds r (mdelS es c n) } := by
    unfold Builtin.delete_ mdelS
    simp only [Array.getElem?_eq_getElem, List.size_toArray, List.length_cons, List.length_nil, Nat.zero_lt_succ, Nat.lt_add_one, List.getElem_toArray, List.getElem_cons_zero, List.getElem_cons_succ, Nat.reduceAdd, Nat.one_lt_two,
      Sem.run_bind, underlying, run_program, ht, Result.andThen_ok, Sem.run_pure, h3, h2, h1]
    cases hf : sfind n es.toList 0 with
    | none => simp only [Sem.run_bind, h4, Result.andThen_ok, Sem.run_pure]
    | some iv => simp only [Sem.run_bind, h4, Result.andThen_ok, Sem.run_pure]
  rw [key]
  exact ⟨_, ⟨rfl, rfl, rfl⟩, hw.set _ hlt, Fr.set _ hne, H _ ⟨hne, rfl⟩⟩

/-- A map in good order: its keys, each once; its stamps, each once, all below the clock. -/
def MapOkS (es : Array MapEntry) (c : Nat) : Prop :=
  KeysS es.toList ∧ (es.toList.map fun e => keyS e.key).Nodup ∧ (∀ e ∈ es.toList, e.born < c) ∧ (es.toList.map (·.born)).Nodup

theorem MapOkS.empty (c : Nat) : MapOkS #[] c := by
  simp [MapOkS, KeysS]

theorem sget_none {n : ByteArray} : ∀ {es : List MapEntry} {i : Nat}, sfind n es i = none ↔ ∀ e ∈ es, keyS e.key ≠ n
  | [], _ => by simp [sfind]
  | e :: es, i => by
    have lb := lawfulBytes
    unfold sfind
    split
    · rename_i h
      have : n = keyS e.key := by simpa using h
      simp [this]
    · rename_i h
      have hne : ¬ n = keyS e.key := by simpa using h
      rw [sget_none (es := es)]
      simp [Ne.symm hne]

theorem sfind_shift {n : ByteArray} : ∀ {es : List MapEntry} {i j : Nat}, (sfind n es i).map (·.2) = (sfind n es j).map (·.2)
  | [], _, _ => rfl
  | e :: es, i, j => by
    unfold sfind
    split
    · rfl
    · exact sfind_shift

theorem sget_cons (e : MapEntry) (es : List MapEntry) (n : ByteArray) : sget (e :: es) n = if n = keyS e.key then some e.val else sget es n := by
  have lb := lawfulBytes
  unfold sget
  rw [sfind]
  by_cases h : n = keyS e.key
  · simp [h]
  · have : (n == keyS e.key) = false := by simpa using h
    simp only [this, h, if_false]
    exact sfind_shift

theorem sget_append (es fs : List MapEntry) (n : ByteArray) : sget (es ++ fs) n = (sget es n).or (sget fs n) := by
  have lb := lawfulBytes
  induction es with
  | nil => simp [sget, sfind]
  | cons e es ih =>
    rw [List.cons_append, sget_cons, sget_cons]
    split <;> simp [ih]

theorem sget_eq_none {es : List MapEntry} {n : ByteArray} : sget es n = none ↔ ∀ e ∈ es, keyS e.key ≠ n := by
  unfold sget
  rw [Option.map_eq_none_iff, sget_none]

theorem sget_mem {es : List MapEntry} {n : ByteArray} {v : Value} (h : sget es n = some v) : ∃ e ∈ es, keyS e.key = n ∧ e.val = v := by
  unfold sget at h
  rw [Option.map_eq_some_iff] at h
  obtain ⟨⟨j, x⟩, h1, rfl⟩ := h
  obtain ⟨e, _, he, hk, hv⟩ := sfind_some h1
  exact ⟨e, List.mem_of_getElem? he, hk, hv⟩

theorem sget_of_mem : ∀ {es : List MapEntry} {e : MapEntry}, (es.map fun e => keyS e.key).Nodup → e ∈ es → sget es (keyS e.key) = some e.val
  | x :: es, e, hn, he => by
    rw [sget_cons]
    rw [List.map_cons, List.nodup_cons] at hn
    cases he with
    | head => simp
    | tail _ hm =>
      rw [if_neg, sget_of_mem hn.2 hm]
      intro hc
      exact hn.1 (hc ▸ List.mem_map.2 ⟨e, hm, rfl⟩)

/-- What the map holds behind 'm[n] = v'. -/
theorem mputS_ok {es : Array MapEntry} {c : Nat} {n : ByteArray} {v : Value} (H : MapOkS es c) :
    ∃ es' c', mputS es c n v = .map es' c' ∧ MapOkS es' c' ∧ (∀ m, sget es'.toList m = if m = n then some v else sget es.toList m) ∧
      (∀ e ∈ es'.toList, (keyS e.key = n ∧ e.val = v) ∨ e ∈ es.toList) ∧ es.size ≤ es'.size ∧ es'.size ≤ es.size + 1 := by
  have lb := lawfulBytes
  obtain ⟨h1, h2, h3, h4⟩ := H
  unfold mputS
  cases hf : sfind n es.toList 0 with
  | none =>
    have hno := sget_none.1 hf
    refine ⟨_, _, rfl, ⟨?_, ?_, ?_, ?_⟩, ?_, ?_, by simp, by simp⟩
    · intro e he
      simp at he
      rcases he with he | rfl
      · exact h1 e (by simpa using he)
      · exact ⟨n, rfl⟩
    · simp only [Array.toList_push, List.map_append, List.map_cons, List.map_nil]
      rw [List.nodup_append]
      refine ⟨h2, by simp, ?_⟩
      intro a ha b hb
      simp [keyS] at hb
      obtain ⟨e, he, rfl⟩ := List.mem_map.1 ha
      rw [hb]; exact hno e he
    · intro e he
      simp at he
      rcases he with he | rfl
      · have := h3 e (by simpa using he); omega
      · simp
    · simp only [Array.toList_push, List.map_append, List.map_cons, List.map_nil]
      rw [List.nodup_append]
      refine ⟨h4, by simp, ?_⟩
      intro a ha b hb
      simp at hb
      obtain ⟨e, he, rfl⟩ := List.mem_map.1 ha
      have := h3 e he
      omega
    · intro m
      rw [Array.toList_push, sget_append]
      by_cases hm : m = n
      · subst hm
        have : sget es.toList m = none := by unfold sget; rw [hf]; rfl
        simp [this, sget_cons, keyS]
      · have : sget [{ key := .string n, val := v, born := c }] m = none := by simp [sget, sfind, keyS, hm]
        simp [hm, this]
    · intro e he
      simp at he
      rcases he with he | rfl
      · exact .inr (by simpa using he)
      · exact .inl ⟨rfl, rfl⟩
  | some iv =>
    obtain ⟨i, x⟩ := iv
    obtain ⟨e0, _, he0, hk0, hv0⟩ := sfind_some hf
    simp only [Nat.sub_zero] at he0
    have hi : i < es.size := by have := (List.getElem?_eq_some_iff.1 he0).1; simpa using this
    have hlist : (es.modify i fun e => { e with key := .string n, val := v }).toList = es.toList.set i { e0 with key := .string n, val := v } := by
      apply List.ext_getElem?
      intro j
      simp only [Array.toList_modify]
      rw [List.getElem?_modify, List.getElem?_set]
      by_cases hij : i = j
      · subst hij
        have := (List.getElem?_eq_some_iff.1 he0).2
        simp at this
        simp [hi, this]
      · simp [hij]
    have hkeys : (es.toList.set i { e0 with key := .string n, val := v }).map (fun e => keyS e.key) = es.toList.map fun e => keyS e.key := by
      rw [List.map_set]
      apply List.ext_getElem?
      intro j
      rw [List.getElem?_set]
      split
      · rename_i hij; subst hij
        have := (List.getElem?_eq_some_iff.1 he0).2
        simp at this
        simp [hi, this]
        exact hk0.symm
      · rfl
    have hborn : (es.toList.set i { e0 with key := .string n, val := v }).map (·.born) = es.toList.map (·.born) := by
      rw [List.map_set]
      apply List.ext_getElem?
      intro j
      rw [List.getElem?_set]
      split
      · rename_i hij; subst hij
        have := (List.getElem?_eq_some_iff.1 he0).2
        simp at this
        simp [hi, this]
      · rfl
    have hmem : ∀ e ∈ es.toList.set i { e0 with key := .string n, val := v }, e = { e0 with key := .string n, val := v } ∨ e ∈ es.toList := by
      intro e he
      rcases List.mem_or_eq_of_mem_set he with h | h
      · exact .inr h
      · exact .inl h
    have he0m : e0 ∈ es.toList := List.mem_of_getElem? he0
    refine ⟨_, _, rfl, ⟨?_, ?_, ?_, ?_⟩, ?_, ?_, by simp, by simp⟩
    · rw [hlist]
      intro e he
      rcases hmem e he with rfl | h
      · exact ⟨n, rfl⟩
      · exact h1 e h
    · rw [hlist, hkeys]; exact h2
    · rw [hlist]
      intro e he
      rcases hmem e he with rfl | h
      · exact h3 e0 he0m
      · exact h3 e h
    · rw [hlist, hborn]; exact h4
    · intro m
      rw [hlist]
      have hnd : ((es.toList.set i { e0 with key := .string n, val := v }).map fun e => keyS e.key).Nodup := by rw [hkeys]; exact h2
      by_cases hm : m = n
      · subst hm
        have hin : ({ e0 with key := .string m, val := v } : MapEntry) ∈ es.toList.set i { e0 with key := .string m, val := v } := by
          rw [List.mem_iff_getElem?]
          refine ⟨i, ?_⟩
          rw [List.getElem?_set]
          simp [hi]
        have := sget_of_mem hnd hin
        simpa [keyS] using this
      · rw [if_neg hm]
        cases hg : sget es.toList m with
        | none =>
          rw [sget_eq_none] at hg ⊢
          intro e he
          rcases hmem e he with rfl | h
          · simpa [keyS] using Ne.symm hm
          · exact hg e h
        | some y =>
          obtain ⟨e, he, hke, hve⟩ := sget_mem hg
          have hne : e ≠ e0 := by
            intro hc; subst hc
            exact hm (hke.symm.trans hk0)
          have hin : e ∈ es.toList.set i { e0 with key := .string n, val := v } := by
            obtain ⟨j, hj⟩ := List.mem_iff_getElem?.1 he
            rw [List.mem_iff_getElem?]
            refine ⟨j, ?_⟩
            rw [List.getElem?_set]
            by_cases hij : i = j
            · subst hij
              rw [he0] at hj
              exact absurd (Option.some.inj hj).symm hne
            · simp [hij]; simpa using hj
          have := sget_of_mem hnd hin
          rw [hke, hve] at this
          exact this
    · rw [hlist]
      intro e he
      rcases hmem e he with rfl | h
      · exact .inl ⟨rfl, rfl⟩
      · exact .inr h

theorem mdelS_ok {es : Array MapEntry} {c : Nat} {n : ByteArray} (H : MapOkS es c) :
    ∃ es', mdelS es c n = .map es' c ∧ MapOkS es' c ∧ (∀ m, sget es'.toList m = if m = n then none else sget es.toList m) ∧
      (∀ e ∈ es'.toList, e ∈ es.toList) ∧ es'.size ≤ es.size := by
  have lb := lawfulBytes
  obtain ⟨h1, h2, h3, h4⟩ := H
  unfold mdelS
  cases hf : sfind n es.toList 0 with
  | none =>
    refine ⟨es, rfl, ⟨h1, h2, h3, h4⟩, fun m => ?_, fun e he => he, Nat.le_refl _⟩
    split
    · rename_i h; subst h; unfold sget; rw [hf]; rfl
    · rfl
  | some iv =>
    obtain ⟨i, x⟩ := iv
    obtain ⟨e0, _, he0, hk0, hv0⟩ := sfind_some hf
    simp only [Nat.sub_zero] at he0
    have hlist : (es.eraseIdxIfInBounds i).toList = es.toList.eraseIdx i := by simp
    have hsub : (es.toList.eraseIdx i).Sublist es.toList := List.eraseIdx_sublist _ _
    have hmem : ∀ e ∈ es.toList.eraseIdx i, e ∈ es.toList := fun e he => hsub.subset he
    refine ⟨_, rfl, ⟨?_, ?_, ?_, ?_⟩, ?_, ?_, ?_⟩
    · rw [hlist]; intro e he; exact h1 e (hmem e he)
    · rw [hlist]; exact (hsub.map _).nodup h2
    · rw [hlist]; intro e he; exact h3 e (hmem e he)
    · rw [hlist]; exact (hsub.map _).nodup h4
    · intro m
      rw [hlist]
      have hnd : ((es.toList.eraseIdx i).map fun e => keyS e.key).Nodup := (hsub.map _).nodup h2
      have hidx : ∀ j, (es.toList.map fun e => keyS e.key)[j]? = some n → j = i := by
        intro j hj
        have hi' : (es.toList.map fun e => keyS e.key)[i]? = some n := by simp [List.getElem?_map, he0, hk0]
        exact nodup_idx h2 hj hi'
      split
      · rename_i hm; subst hm
        rw [sget_eq_none]
        intro e he hke
        obtain ⟨j, hj⟩ := List.mem_iff_getElem?.1 he
        rw [List.getElem?_eraseIdx] at hj
        split at hj
        · rename_i hlt
          have := hidx j (by simp [List.getElem?_map, hj, hke])
          omega
        · rename_i hge
          have := hidx (j + 1) (by simp [List.getElem?_map, hj, hke])
          omega
      · rename_i hm
        cases hg : sget es.toList m with
        | none =>
          rw [sget_eq_none] at hg ⊢
          intro e he
          exact hg e (hmem e he)
        | some y =>
          obtain ⟨e, he, hke, hve⟩ := sget_mem hg
          have hin : e ∈ es.toList.eraseIdx i := by
            obtain ⟨j, hj⟩ := List.mem_iff_getElem?.1 he
            have hji : j ≠ i := by
              intro hc; subst hc
              rw [he0] at hj
              rw [← Option.some.inj hj] at hke
              exact hm (hke.symm.trans hk0)
            rw [List.mem_iff_getElem?]
            rcases Nat.lt_or_gt_of_ne hji with h | h
            · exact ⟨j, by rw [List.getElem?_eraseIdx, if_pos h]; exact hj⟩
            · refine ⟨j - 1, ?_⟩
              rw [List.getElem?_eraseIdx, if_neg (by omega)]
              rw [show j - 1 + 1 = j by omega]; exact hj
          have := sget_of_mem hnd hin
          rw [hke, hve] at this
          exact this
    · intro e he
      rw [hlist] at he
      exact hmem e he
    · have := hsub.length_le
      have h5 : (es.eraseIdxIfInBounds i).size = (es.toList.eraseIdx i).length := by rw [← Array.length_toList, hlist]
      rw [h5]
      simpa using this

/-- The next entry of a map that has not turned since the range began. -/
theorem semOk_nextS {P : Program} {b r c ty : Nat} {es : Array MapEntry} {seen : Array Nat} {h : Heap} {K : Value → Heap → Prop}
    (hb0 : h b = some (.mapIter (some r) c seen c)) (hr0 : h r = some (.map es c)) (hok : MapOkS es c)
    (H0 : (∀ e ∈ es.toList, e.born ∈ seen) → K (.tuple #[.bool false]) h)
    (H1 : ∀ e ∈ es.toList, e.born ∉ seen → ∀ h', Wr h b (.mapIter (some r) c (seen.push e.born) c) h' → K (.tuple #[.bool true, e.key, e.val]) h') :
    SemOk P (Instr.next (.pointer (some ⟨b, 0, none⟩)) false ty) h K := by
  intro w hw
  have hr := hw _ _ hr0
  have hb := hw _ _ hb0
  have g1 : (getObj b).run P w = .ok (.mapIter (some r) c seen c) w := by simp [getObj, Sem.run, hb]
  have g2 := run_getMap (P := P) hr
  have hs : ∀ o, (setObj b o).run P w = .ok () { w with heap := w.heap.setIfInBounds b o } := by
    intro o; simp [setObj, Sem.run, hb]
  have hnoall : (!seen.isEmpty && !es.isEmpty && es.all fun e => decide (e.born ≥ c)) = false := by
    cases hes : es.isEmpty with
    | true => simp
    | false =>
      have hne : es.toList ≠ [] := by
        intro hc
        have : es = #[] := by simpa using hc
        simp [this] at hes
      obtain ⟨e, he⟩ := List.exists_mem_of_ne_nil _ hne
      have hlt := hok.2.2.1 e he
      have : (es.all fun e => decide (e.born ≥ c)) = false := by
        rw [Bool.eq_false_iff]
        intro hc
        rw [Array.all_eq_true_iff_forall_mem] at hc
        have := hc e (by simpa using he)
        simp at this
        omega
      simp [this]
  generalize hleft : (es.filter fun e => !seen.contains e.born) = left
  have hlm : ∀ e ∈ left, e ∈ es.toList ∧ e.born ∉ seen := by
    intro e he
    rw [← hleft] at he
    simp at he
    exact ⟨by simpa using he.1, he.2⟩
  have hold : (left.filter fun e => decide (e.born < c)) = left := by
    apply filter_true
    intro e he
    have := hok.2.2.1 e (hlm e he).1
    simpa using this
  have hnew : (left.filter fun e => decide (e.born ≥ c)) = #[] := by
    rw [Array.filter_eq_empty_iff]
    intro e he
    have := hok.2.2.1 e (hlm e he).1
    simp
    omega
  by_cases hempty : left = #[]
  · have hall : ∀ e ∈ es.toList, e.born ∈ seen := by
      intro e he
      rcases Classical.em (e.born ∈ seen) with h | h
      · exact h
      · have : e ∈ left := by rw [← hleft]; simp; exact ⟨by simpa using he, h⟩
        rw [hempty] at this
        simp at this
    have key : (Instr.next (.pointer (some ⟨b, 0, none⟩)) false ty).run P w = .ok (.tuple #[.bool false]) w := by
      unfold Instr.next
      simp only [Sem.run_bind, g1, g2, Result.andThen_ok, hnoall, hleft, hold, hnew, hempty]
      simp [choose, Sem.run, Question.forced]
    rw [key]
    exact ⟨h, Str.refl w, hw, Fr.refl _ _, H0 hall⟩
  · have hsz : 0 < left.size := Array.size_pos_iff.2 hempty
    have hisE : left.isEmpty = false := by simpa using hempty
    have hmain : ∃ e w', e ∈ left ∧ (Instr.next (.pointer (some ⟨b, 0, none⟩)) false ty).run P w = .ok (.tuple #[.bool true, e.key, e.val]) w' ∧ Str w w' ∧
        w'.heap = w.heap.setIfInBounds b (.mapIter (some r) c (seen.push e.born) c) := by
      unfold Instr.next
      simp only [Sem.run_bind, g1, g2, Result.andThen_ok, hnoall, hleft, hold, hnew, hisE]
      simp only [Bool.false_eq_true, if_false, Array.append_empty, Array.empty_append, Sem.run_pure, Result.andThen_ok, Array.size_map, Sem.run_bind, run_choose]
      by_cases h1 : left.size ≤ 1
      · have hf : (Question.mapNext left.size).forced = true := by simp [Question.forced, h1]
        simp only [hf, if_true, Result.andThen_ok]
        have h0 : (left.map some)[0]? = some (some left[0]) := by simp [hsz]
        simp only [h0, hs, Result.andThen_ok, Sem.run_bind, Sem.run_pure]
        exact ⟨left[0], _, Array.getElem_mem hsz, rfl, ⟨rfl, rfl, rfl⟩, rfl⟩
      · have hf : (Question.mapNext left.size).forced = false := by simp [Question.forced]; omega
        simp only [hf, Bool.false_eq_true, if_false, Result.andThen_ok, Question.cut]
        generalize hj : w.tape w.drawn (.mapNext left.size) % left.size = j
        have hjl : j < left.size := by rw [← hj]; exact Nat.mod_lt _ hsz
        have h0 : (left.map some)[j]? = some (some left[j]) := by simp [hjl]
        have hs' : ∀ o, (setObj b o).run P { w with drawn := w.drawn + 1 } = .ok () { w with drawn := w.drawn + 1, heap := w.heap.setIfInBounds b o } := by
          intro o; simp [setObj, Sem.run, hb]
        simp only [h0, hs', Result.andThen_ok, Sem.run_bind, Sem.run_pure]
        exact ⟨left[j], _, Array.getElem_mem hjl, rfl, ⟨rfl, rfl, rfl⟩, rfl⟩
    obtain ⟨e, w', he, hrun, hstr, hheap⟩ := hmain
    rw [hrun]
    obtain ⟨a1, a2⟩ := hlm e he
    have hne : h b ≠ none := by simp [hb0]
    refine ⟨upd h b (.mapIter (some r) c (seen.push e.born) c), hstr, ?_, ?_, H1 e a1 a2 _ ⟨hne, rfl⟩⟩
    · rw [hheap]; exact hw.set _ (hw.lt hb0)
    · rw [hheap]; exact Fr.set _ hne

theorem semOk_entryS {P : Program} {b r c s : Nat} {es : Array MapEntry} {seen : Array Nat} {h : Heap} {K : Value → Heap → Prop} {e : MapEntry}
    (hb0 : h b = some (.mapIter (some r) s (seen.push e.born) c)) (hr0 : h r = some (.map es c)) (hok : MapOkS es c) (he : e ∈ es.toList)
    (H : K (.tuple #[e.key, e.val]) h) : SemOk P (Instr.entry (.pointer (some ⟨b, 0, none⟩))) h K := by
  intro w hw
  have hr := hw _ _ hr0
  have hb := hw _ _ hb0
  have g1 : (getObj b).run P w = .ok (.mapIter (some r) s (seen.push e.born) c) w := by simp [getObj, Sem.run, hb]
  have g2 := run_getMap (P := P) hr
  have hfind : es.find? (fun x => x.born == e.born) = some e := by
    rw [Array.find?_eq_some_iff_getElem]
    obtain ⟨i, hi⟩ := List.mem_iff_getElem?.1 he
    have hlt : i < es.size := by have := (List.getElem?_eq_some_iff.1 hi).1; simpa using this
    have hei : es[i] = e := by have := (List.getElem?_eq_some_iff.1 hi).2; simpa using this
    refine ⟨by simp, i, hlt, hei, fun j hj => ?_⟩
    have hjl : j < es.size := by omega
    cases hc : es[j].born == e.born with
    | false => rfl
    | true =>
      have hbe : es[j].born = e.born := by simpa using hc
      have := nodup_idx hok.2.2.2 (i := j) (j := i) (a := e.born) (by simp [hjl, hbe]) (by simp [hlt, hei])
      omega
  have key : (Instr.entry (.pointer (some ⟨b, 0, none⟩))).run P w = .ok (.tuple #[e.key, e.val]) w := by
    unfold Instr.entry
    simp only [Sem.run_bind, g1, g2, Result.andThen_ok, Array.back?_push, bne_self_eq_false, Bool.false_eq_true, if_false, hfind, Sem.run_pure]
  rw [key]
  exact ⟨h, Str.refl w, hw, Fr.refl _ _, H⟩


end Go.Eng
