/-
  MAPS KEYED BY PLACES.
-/
import Derived.Test.Qxb6500695aGreatFmtVa
import Derived.Test.Qxb6500695aGreatFmtEngQ
import Derived.Laws.StructEq
namespace Go.Proofs.Qxb6500695aGreatFmt
open Go Go.Eng Go.Proofs
set_option maxRecDepth 100000
set_option linter.unusedVariables false
set_option linter.unusedSimpArgs false
set_option linter.unusedSectionVars false

abbrev Plc := Int × Int × Int

def plV (p : Plc) : Value := .agg #[.int .u8 p.1, .int .u64 p.2.1, .int .i64 p.2.2]

theorem part70 (a b c : Int) (w : World) : (part 70 #[.int .u8 a, .int .u64 b, .int .i64 c] 0).run Tryz.prog w = .ok (.int .u8 a) w := by kernel_rfl
theorem part50 (a b c : Int) (w : World) : (part 50 #[.int .u8 a, .int .u64 b, .int .i64 c] 1).run Tryz.prog w = .ok (.int .u64 b) w := by kernel_rfl
theorem part2 (a b c : Int) (w : World) : (part 2 #[.int .u8 a, .int .u64 b, .int .i64 c] 2).run Tryz.prog w = .ok (.int .i64 c) w := by kernel_rfl

theorem eq72 (p q : Plc) (w : World) : (Op.equal 72 (plV p) (plV q)).run Tryz.prog w = .ok (p == q) w := by
  obtain ⟨a, b, c⟩ := p
  obtain ⟨a', b', c'⟩ := q
  have hS : Tryz.prog.underlying 72 = some (.struct (Tryz.prog.fieldsOf 72)) := by kernel_rfl
  have hp : Tryz.prog.stoodInHeld 72 = false := by kernel_rfl
  show (Op.equalIn (9999 + 1) 72 (.agg #[.int .u8 a, .int .u64 b, .int .i64 c]) (.agg #[.int .u8 a', .int .u64 b', .int .i64 c'])).run Tryz.prog w = _
  rw [run_equalIn_struct w 9999 72 _ _ hS hp]
  simp only [Program.fieldsOf, Tryz.underlying72]
  simp only [Op.eqFields, Sem.run_bind, part70, part50, part2, Result.andThen_ok, run_equalIn_int w 9998 70 .u8 .u8 a a' Tryz.underlying70, run_equalIn_int w 9998 50 .u64 .u64 b b' Tryz.underlying50, run_equalIn_int w 9998 2 .i64 .i64 c c' Tryz.underlying2, Sem.run_ite, Sem.run_pure]
  by_cases h1 : a = a' <;> by_cases h2 : b = b' <;> by_cases h3 : c = c' <;> simp [h1, h2, h3]

theorem ck72 (e : Bool) (p : Plc) (w : World) : (Instr.checkKey e 10000 72 (plV p)).run Tryz.prog w = .ok () w := by kernel_rfl

def keyP : Value → Plc
  | .agg ⟨[.int _ a, .int _ b, .int _ c]⟩ => (a, b, c)
  | _ => (0, 0, 0)

theorem keyP_plV (p : Plc) : keyP (plV p) = p := rfl

def KeysP (es : List MapEntry) : Prop := ∀ e ∈ es, ∃ p, e.key = plV p

def pfind (n : Plc) : List MapEntry → Nat → Option (Nat × Value)
  | [], _ => none
  | e :: es, i => if n = keyP e.key then some (i, e.val) else pfind n es (i + 1)

def pget : List MapEntry → Plc → Option Value
  | [], _ => none
  | e :: es, n => if n = keyP e.key then some e.val else pget es n

theorem pget_find {n : Plc} : ∀ {es : List MapEntry} {i : Nat}, (pfind n es i).map (·.2) = pget es n
  | [], _ => rfl
  | e :: es, i => by
    unfold pfind pget
    split
    · rfl
    · exact pget_find

theorem run_askingP {n : Plc} : ∀ {es : List MapEntry} {i : Nat} (w : World), KeysP es → (Instr.findAsking 72 (plV n) es i).run Tryz.prog w = .ok (pfind n es i) w
  | [], _, w, _ => by simp [Instr.findAsking, pfind]
  | e :: es, i, w, hk => by
    obtain ⟨m, hm⟩ := hk e List.mem_cons_self
    have ih := run_askingP (n := n) (es := es) (i := i + 1) w (fun x hx => hk x (List.mem_cons_of_mem _ hx))
    simp only [Instr.findAsking, pfind, hm, keyP_plV, Sem.run_bind, eq72, Result.andThen_ok, Sem.run_ite]
    by_cases h : n = m
    · subst h; simp
    · have h1 : (n == m) = false := by simpa using h
      simp [h1, h, ih]

theorem run_findKeyP {n : Plc} {es : List MapEntry} (hk : KeysP es) (w : World) : (Instr.findKey 72 (plV n) es).run Tryz.prog w = .ok (pfind n es 0) w := by
  have hu : Tryz.prog.underlying 72 = some (.struct (Tryz.prog.fieldsOf 72)) := by kernel_rfl
  cases es with
  | nil => simp [Instr.findKey, underlying, hu, Instr.findNow, pfind]
  | cons e es =>
    have h1 : Instr.findNow (.struct (Tryz.prog.fieldsOf 72)) (plV n) (e :: es) 0 = none := by
      simp [Instr.findNow, plV, Instr.sameNow]
    simp only [Instr.findKey, Sem.run_bind, underlying, run_program, hu, Result.andThen_ok, Sem.run_pure, h1]
    exact run_askingP w hk

def lookP (es : Array MapEntry) (n : Plc) (ok : Bool) (zero : Value) : Value :=
  match pget es.toList n, ok with
  | some v, true => .tuple #[v, .bool true]
  | none, true => .tuple #[zero, .bool false]
  | some v, false => v
  | none, false => zero

theorem lookIs_plc {t et r c : Nat} {es : Array MapEntry} {n : Plc} {ok : Bool} {inf : TypeInfo} {zero : Value}
    (ht : Tryz.prog.underlying t = some (.map 72 et)) (hi : Tryz.prog.info? et = some inf) (hz : inf.zero = some zero)
    (hk : KeysP es.toList) : LookIs Tryz.prog t r es c (plV n) ok (lookP es n ok zero) := by
  intro w hw
  have h1 := run_findKeyP (n := n) hk w
  have h2 := ck72 es.isEmpty n w
  have h3 := run_getMap (P := Tryz.prog) hw
  unfold Instr.lookup
  simp only [Sem.run_bind, underlying, run_program, ht, Result.andThen_ok, Sem.run_pure, h3, h2, h1]
  unfold lookP
  rw [← pget_find (i := 0)]
  cases hf : pfind n es.toList 0 with
  | none => cases ok <;> simp [zeroValue, typeInfo, hi, hz]
  | some iv => cases ok <;> simp

/-- The map with n ↦ v. -/
def mputP (es : Array MapEntry) (c : Nat) (n : Plc) (v : Value) : Obj :=
  match pfind n es.toList 0 with
  | some (i, _) => .map (es.modify i fun e => { e with key := plV n, val := v }) c
  | none => .map (es.push { key := plV n, val := v, born := c }) (c + 1)

theorem pfind_some {n : Plc} : ∀ {es : List MapEntry} {i j : Nat} {v : Value}, pfind n es i = some (j, v) →
    ∃ e, i ≤ j ∧ es[j - i]? = some e ∧ keyP e.key = n ∧ e.val = v
  | [], _, _, _, h => by simp [pfind] at h
  | e :: es, i, j, v, h => by
    unfold pfind at h
    split at h
    · rename_i hn
      simp at h
      obtain ⟨rfl, rfl⟩ := h
      exact ⟨e, Nat.le_refl _, by simp, hn.symm, rfl⟩
    · obtain ⟨x, h1, h2, h3, h4⟩ := pfind_some h
      refine ⟨x, by omega, ?_, h3, h4⟩
      rw [show j - i = (j - (i + 1)) + 1 by omega]
      simpa using h2

theorem semOk_mapUpdateP {t et r c : Nat} {es : Array MapEntry} {n : Plc} {v : Value} {h : Heap} {K : Unit → Heap → Prop}
    (ht : Tryz.prog.underlying t = some (.map 72 et)) (hr0 : h r = some (.map es c)) (hk : KeysP es.toList)
    (H : ∀ h', Wr h r (mputP es c n v) h' → K () h') : SemOk Tryz.prog (Instr.mapUpdate t (.map (some r)) (plV n) v) h K := by
  intro w hw
  have hr := hw _ _ hr0
  have hne : h r ≠ none := by simp [hr0]
  have h1 := run_findKeyP (n := n) hk w
  have h2 := ck72 false n w
  have h3 := run_getMap (P := Tryz.prog) hr
  have h4 := fun o => run_setObj (P := Tryz.prog) hr o
  have hlt := hw.lt hr0
  have key : (Instr.mapUpdate t (.map (some r)) (plV n) v).run Tryz.prog w = .ok () { w with heap := w.heap.setIfInBounds r (mputP es c n v) } := by
    unfold Instr.mapUpdate mputP
    simp only [Sem.run_bind, underlying, run_program, ht, Result.andThen_ok, Sem.run_pure, h3, h2, h1]
    cases hf : pfind n es.toList 0 with
    | none => simp only [h4]
    | some iv =>
      obtain ⟨i, x⟩ := iv
      obtain ⟨e, _, he, hkn, hv⟩ := pfind_some hf
      have he' : es[i]? = some e := by simpa using he
      have hkey : e.key = plV n := by
        obtain ⟨m, hm⟩ := hk e (List.mem_of_getElem? he)
        rw [hm, keyP_plV] at hkn
        rw [hm, hkn]
      have hsb : Instr.sameBits 10000 (plV n) (plV n) = true := by simp [plV, Instr.sameBits]
      simp only [he', Option.map_some, Option.getD_some, hkey, Instr.keyThatStays, hsb, if_true, Sem.run_pure, Sem.run_bind, Result.andThen_ok, h4]
  rw [key]
  exact ⟨_, ⟨rfl, rfl, rfl⟩, hw.set _ hlt, Fr.set _ hne, H _ ⟨hne, rfl⟩⟩

theorem pget_append (es fs : List MapEntry) (n : Plc) : pget (es ++ fs) n = (pget es n).or (pget fs n) := by
  induction es with
  | nil => simp [pget]
  | cons e es ih =>
    rw [List.cons_append, pget, pget]
    split <;> simp [ih]

theorem pget_modify {n : Plc} {v : Value} : ∀ {es : List MapEntry} {i j : Nat} {x : Value}, pfind n es i = some (j, x) → i ≤ j ∧ KeysP es →
    KeysP (es.modify (j - i) fun e => { e with key := plV n, val := v }) ∧ ∀ m, pget (es.modify (j - i) fun e => { e with key := plV n, val := v }) m = if m = n then some v else pget es m
  | [], _, _, _, h, _ => by simp [pfind] at h
  | e :: es, i, j, x, h, ⟨hij, hk⟩ => by
    have hk' : KeysP es := fun y hy => hk y (List.mem_cons_of_mem _ hy)
    unfold pfind at h
    split at h
    · rename_i hn
      simp at h
      obtain ⟨rfl, rfl⟩ := h
      rw [Nat.sub_self, List.modify_zero_cons]
      refine ⟨fun y hy => ?_, fun m => ?_⟩
      · rcases List.mem_cons.1 hy with rfl | hy
        · exact ⟨n, rfl⟩
        · exact hk' y hy
      · rw [pget, pget, keyP_plV]
        by_cases hm : m = n
        · simp [hm]
        · rw [if_neg hm, if_neg hm, if_neg (by rw [← hn]; exact hm)]
    · rename_i hn
      obtain ⟨_, hle, _⟩ := pfind_some h
      have ih := pget_modify (v := v) h ⟨hle, hk'⟩
      rw [show j - i = (j - (i + 1)) + 1 by omega, List.modify_succ_cons]
      refine ⟨fun y hy => ?_, fun m => ?_⟩
      · rcases List.mem_cons.1 hy with rfl | hy
        · exact hk _ List.mem_cons_self
        · exact ih.1 y hy
      · rw [pget, pget, ih.2]
        by_cases hm : m = keyP e.key
        · rw [if_pos hm, if_pos hm, if_neg (fun hc => hn (by rw [← hc, hm]))]
        · rw [if_neg hm, if_neg hm]

theorem mputP_ok {es : Array MapEntry} {c : Nat} {n : Plc} {v : Value} (hk : KeysP es.toList) :
    ∃ es' c', mputP es c n v = .map es' c' ∧ KeysP es'.toList ∧ ∀ m, pget es'.toList m = if m = n then some v else pget es.toList m := by
  unfold mputP
  cases hf : pfind n es.toList 0 with
  | none =>
    refine ⟨_, _, rfl, fun e he => ?_, fun m => ?_⟩
    · simp at he
      rcases he with he | rfl
      · exact hk e (by simpa using he)
      · exact ⟨n, rfl⟩
    · rw [Array.toList_push, pget_append]
      have h1 : pget es.toList n = none := by rw [← pget_find (i := 0), hf]; rfl
      by_cases hm : m = n
      · subst hm
        simp [h1, pget, keyP_plV]
      · simp [hm, pget, keyP_plV]
  | some iv =>
    obtain ⟨i, x⟩ := iv
    have h := pget_modify (v := v) hf ⟨Nat.zero_le _, hk⟩
    rw [Nat.sub_zero] at h
    refine ⟨_, _, rfl, ?_, ?_⟩
    · rw [Array.toList_modify]; exact h.1
    · rw [Array.toList_modify]; exact h.2

end Go.Proofs.Qxb6500695aGreatFmt
