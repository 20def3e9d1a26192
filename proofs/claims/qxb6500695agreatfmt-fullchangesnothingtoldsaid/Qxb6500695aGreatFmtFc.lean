/-
  MAPS KEYED BY OBJECTS.
-/
import Derived.Test.Qxb6500695aGreatFmtVa
import Derived.Test.Qxb6500695aGreatFmtEngQ
import Derived.LaidEql
namespace Go.Proofs.Qxb6500695aGreatFmt
open Go Go.Eng Go.Proofs
set_option maxRecDepth 100000
set_option linter.unusedVariables false
set_option linter.unusedSimpArgs false
set_option linter.unusedSectionVars false

def obV (b : Nat) : Value := .pointer (some ⟨b, 0, none⟩)

/-- A block of plain cells. -/
def IsC (h : Heap) (b : Nat) : Prop := ∃ c T, h b = some (.cells c T (0, 0))

theorem run_equal_ptrs {P : Program} {tp te : TypeId} {j : TypeInfo} {h : Heap} {a b : Nat} (hp : P.underlying tp = some (.pointer te)) (hte : P.info? te = some j) (hsz : j.size ≠ 0) (ha : IsC h a) (hb : IsC h b) {w : World} (hw : Sat h w.heap) : (Op.equal tp (.pointer (some ⟨a, 0, none⟩)) (.pointer (some ⟨b, 0, none⟩))).run P w = .ok (a == b) w := by
  obtain ⟨ca, ta, ha⟩ := ha
  obtain ⟨cb, tb, hb⟩ := hb
  have key : ∀ d : Nat, (Op.equalIn (d + 1) tp (.pointer (some ⟨a, 0, none⟩)) (.pointer (some ⟨b, 0, none⟩))).run P w = .ok (a == b) w := fun d => by
    by_cases hab : a = b
    · subst hab
      simp [Op.equalIn, run_underlying hp, sizeOf, typeInfo, hte, run_sameAddr_same]
    · have hne : (⟨a, 0, none⟩ : Addr) ≠ ⟨b, 0, none⟩ := fun hc => hab (by simpa using hc)
      have h1 : (a == b) = false := by simpa using hab
      simp [Op.equalIn, run_underlying hp, sizeOf, typeInfo, hte, hsz, run_sameAddr_other w hne (hw _ _ ha) (hw _ _ hb), h1]
  exact key 9999

theorem eqO {h : Heap} {a b : Nat} (ha : IsC h a) (hb : IsC h b) {w : World} (hw : Sat h w.heap) : (Op.equal 152 (obV a) (obV b)).run Tryz.prog w = .ok (a == b) w := by
  have hte : Tryz.prog.info? 166 = some Tryz.t166 := by kernel_rfl
  have hsz : Tryz.t166.size ≠ 0 := by decide
  exact run_equal_ptrs Tryz.underlying152 hte hsz ha hb hw

theorem ckO (e : Bool) (b : Nat) (w : World) : (Instr.checkKey e 10000 152 (obV b)).run Tryz.prog w = .ok () w := by kernel_rfl

def keyO : Value → Nat
  | .pointer (some a) => a.block
  | _ => 0

def KeysO (h : Heap) (es : List MapEntry) : Prop := ∀ e ∈ es, ∃ b, e.key = obV b ∧ IsC h b

def ofind (n : Nat) : List MapEntry → Nat → Option (Nat × Value)
  | [], _ => none
  | e :: es, i => if n = keyO e.key then some (i, e.val) else ofind n es (i + 1)

def oget : List MapEntry → Nat → Option Value
  | [], _ => none
  | e :: es, n => if n = keyO e.key then some e.val else oget es n

theorem oget_find {n : Nat} : ∀ {es : List MapEntry} {i : Nat}, (ofind n es i).map (·.2) = oget es n
  | [], _ => rfl
  | e :: es, i => by
    unfold ofind oget
    split
    · rfl
    · exact oget_find

theorem run_askingO {h : Heap} {n : Nat} (hn : IsC h n) {w : World} (hw : Sat h w.heap) : ∀ {es : List MapEntry} {i : Nat}, KeysO h es → (Instr.findAsking 152 (obV n) es i).run Tryz.prog w = .ok (ofind n es i) w
  | [], _, _ => by simp [Instr.findAsking, ofind]
  | e :: es, i, hk => by
    obtain ⟨m, hm, hmc⟩ := hk e List.mem_cons_self
    have ih := run_askingO hn hw (es := es) (i := i + 1) (fun x hx => hk x (List.mem_cons_of_mem _ hx))
    have hkey : keyO (obV m) = m := rfl
    simp only [Instr.findAsking, ofind, hm, hkey, Sem.run_bind, eqO hn hmc hw, Result.andThen_ok, Sem.run_ite]
    by_cases h : n = m
    · subst h; simp
    · have h1 : (n == m) = false := by simpa using h
      simp [h1, h, ih]

theorem run_findKeyO {h : Heap} {n : Nat} {es : List MapEntry} (hn : IsC h n) (hk : KeysO h es) {w : World} (hw : Sat h w.heap) : (Instr.findKey 152 (obV n) es).run Tryz.prog w = .ok (ofind n es 0) w := by
  have hu := Tryz.underlying152
  cases es with
  | nil => simp [Instr.findKey, underlying, hu, Instr.findNow, ofind]
  | cons e es =>
    have h1 : Instr.findNow (.pointer 166) (obV n) (e :: es) 0 = none := by
      simp [Instr.findNow, obV, Instr.sameNow]
    simp only [Instr.findKey, Sem.run_bind, underlying, run_program, hu, Result.andThen_ok, Sem.run_pure, h1]
    exact run_askingO hn hw hk

theorem semOk_lookO {r c : Nat} {es : Array MapEntry} {n : Nat} {h : Heap} {K : Value → Heap → Prop} (hr0 : h r = some (.map es c)) (hn : IsC h n) (hk : KeysO h es.toList)
    (H : K (match oget es.toList n with | some v => .tuple #[v, .bool true] | none => .tuple #[.pointer none, .bool false]) h) : SemOk Tryz.prog (Instr.lookup 229 (.map (some r)) (obV n) true) h K := by
  intro w hw
  have hr := hw _ _ hr0
  have h1 := run_findKeyO hn hk hw
  have h2 := ckO es.isEmpty n w
  have h3 := run_getMap (P := Tryz.prog) hr
  have i152 : Tryz.prog.info? 152 = some Tryz.t152 := by kernel_rfl
  have key : (Instr.lookup 229 (.map (some r)) (obV n) true).run Tryz.prog w = .ok (match oget es.toList n with | some v => .tuple #[v, .bool true] | none => .tuple #[.pointer none, .bool false]) w := by
    unfold Instr.lookup
    simp only [Sem.run_bind, underlying, run_program, Tryz.underlying229, Result.andThen_ok, Sem.run_pure, h3, h2, h1]
    rw [← oget_find (i := 0)]
    have hz : Tryz.t152.zero = some (.pointer none) := rfl
    cases hf : ofind n es.toList 0 with
    | none => simp [zeroValue, typeInfo, i152, hz]
    | some iv => simp
  rw [key]
  exact ⟨h, Str.refl w, hw, Fr.refl _ _, H⟩

/-- The map with n ↦ v, n being new. -/
theorem semOk_putO {r c : Nat} {es : Array MapEntry} {n : Nat} {v : Value} {h : Heap} {K : Unit → Heap → Prop} (hr0 : h r = some (.map es c)) (hn : IsC h n) (hk : KeysO h es.toList) (hno : oget es.toList n = none)
    (H : ∀ h', Wr h r (.map (es.push { key := obV n, val := v, born := c }) (c + 1)) h' → K () h') : SemOk Tryz.prog (Instr.mapUpdate 229 (.map (some r)) (obV n) v) h K := by
  intro w hw
  have hr := hw _ _ hr0
  have hne : h r ≠ none := by simp [hr0]
  have h1 := run_findKeyO hn hk hw
  have h2 := ckO false n w
  have h3 := run_getMap (P := Tryz.prog) hr
  have h4 := fun o => run_setObj (P := Tryz.prog) hr o
  have hlt := hw.lt hr0
  have hf : ofind n es.toList 0 = none := by
    rw [← oget_find (i := 0)] at hno
    cases hx : ofind n es.toList 0 with
    | none => rfl
    | some y => rw [hx] at hno; cases hno
  have key : (Instr.mapUpdate 229 (.map (some r)) (obV n) v).run Tryz.prog w = .ok () { w with heap := w.heap.setIfInBounds r (.map (es.push { key := obV n, val := v, born := c }) (c + 1)) } := by
    unfold Instr.mapUpdate
    simp only [Sem.run_bind, underlying, run_program, Tryz.underlying229, Result.andThen_ok, Sem.run_pure, h3, h2, h1, hf, h4]
  rw [key]
  exact ⟨_, ⟨rfl, rfl, rfl⟩, hw.set _ hlt, Fr.set _ hne, H _ ⟨hne, rfl⟩⟩

theorem oget_append (es fs : List MapEntry) (n : Nat) : oget (es ++ fs) n = (oget es n).or (oget fs n) := by
  induction es with
  | nil => simp [oget]
  | cons e es ih =>
    rw [List.cons_append, oget, oget]
    split <;> simp [ih]

theorem oget_push (es : Array MapEntry) (m : Nat) (v : Value) (c n : Nat) (hno : oget es.toList m = none) : oget (es.push { key := obV m, val := v, born := c }).toList n = if n = m then some v else oget es.toList n := by
  rw [Array.toList_push, oget_append]
  have hkey : keyO (obV m) = m := rfl
  by_cases h : n = m
  · subst h
    simp [hno, oget, hkey]
  · simp [h, oget, hkey]

end Go.Proofs.Qxb6500695aGreatFmt
