/-
  THE ENGINE, PART G: laws on heaps; what comparisons, slices, maps and append come to.
-/
import Derived.Test.Qxb6500695aGreatFmtEngF
namespace Go.Eng
open Go
set_option linter.unusedSimpArgs false

section heap
variable {H H' : Heap} {b off : Nat} {o : Obj}

theorem Wr.same (hw : Wr H b o H') : H' b = some o := by
  obtain ⟨_, rfl⟩ := hw
  exact upd_same

theorem Wr.other (hw : Wr H b o H') {b' : Nat} (hne : b' ≠ b) : H' b' = H b' := by
  obtain ⟨_, rfl⟩ := hw
  exact upd_ne hne

theorem Al.same (ha : Al H o b H') : H' b = some o := by
  obtain ⟨_, rfl⟩ := ha
  exact upd_same

theorem Al.fresh (ha : Al H o b H') : H b = none := ha.1

theorem Al.ne (ha : Al H o b H') {b' : Nat} {x : Obj} (hx : H b' = some x) : b' ≠ b := by
  intro he; subst he; rw [ha.1] at hx; cases hx

theorem Al.keep (ha : Al H o b H') {b' : Nat} {x : Obj} (hx : H b' = some x) : H' b' = some x := by
  have := ha.ne hx
  obtain ⟨_, rfl⟩ := ha
  rw [upd_ne this]; exact hx

theorem Wr.keep (hw : Wr H b o H') {b' : Nat} {x : Obj} (hx : H b' = some x) (hne : b' ≠ b) : H' b' = some x := by
  rw [hw.other hne]; exact hx

/-- Cells out of a block that is known. -/
theorem Cells.of {c : Array Value} {T : TypeId} {fr : Nat × Nat} (hb : H b = some (.cells c T fr)) {vs : List Value}
    (hv : (c.toList.drop off).take vs.length = vs) : Cells H b off vs := by
  refine ⟨c, T, fr, hb, fun i hi => ?_⟩
  have : ((c.toList.drop off).take vs.length)[i]? = vs[i]? := by rw [hv]
  rw [List.getElem?_take, if_pos hi, List.getElem?_drop] at this
  simpa using this

theorem Cells.keep {vs : List Value} (hc : Cells H b off vs) (he : H' b = H b) : Cells H' b off vs := by
  obtain ⟨c, T, fr, hb, hv⟩ := hc
  exact ⟨c, T, fr, by rw [he]; exact hb, hv⟩

theorem Cells.wr {vs : List Value} (hc : Cells H b off vs) {b' : Nat} (hw : Wr H b' o H') (hne : b ≠ b') : Cells H' b off vs :=
  hc.keep (hw.other hne)

/-- A part of the cells. -/
theorem Cells.part {vs : List Value} (hc : Cells H b off vs) (i : Nat) {us : List Value} (hu : (vs.drop i).take us.length = us) (hl : i + us.length ≤ vs.length) : Cells H b (off + i) us := by
  obtain ⟨c, T, fr, hb, hv⟩ := hc
  refine ⟨c, T, fr, hb, fun j hj => ?_⟩
  have h1 := hv (i + j) (by omega)
  rw [show off + i + j = off + (i + j) by omega, h1]
  have : ((vs.drop i).take us.length)[j]? = us[j]? := by rw [hu]
  rw [List.getElem?_take, if_pos hj, List.getElem?_drop] at this
  exact this

end heap

/-- H' knows all that H knows. -/
def Sub (H H' : Heap) : Prop := ∀ b o, H b = some o → H' b = some o

theorem Sub.refl (H : Heap) : Sub H H := fun _ _ h => h
theorem Sub.trans {a b c : Heap} (h : Sub a b) (k : Sub b c) : Sub a c := fun x o hx => k x o (h x o hx)
theorem Sub.cells {H H' : Heap} (s : Sub H H') {b off : Nat} {vs : List Value} (hc : Cells H b off vs) : Cells H' b off vs := by
  obtain ⟨c, T, fr, hb, hv⟩ := hc
  exact ⟨c, T, fr, s _ _ hb, hv⟩
theorem Al.sub {H H' : Heap} {o : Obj} {b : Nat} (ha : Al H o b H') : Sub H H' := fun _ _ hx => ha.keep hx
theorem Sub.al {H H' H'' : Heap} (s : Sub H H') {o : Obj} {b : Nat} (ha : Al H' o b H'') : Sub H H'' := s.trans ha.sub
theorem Sub.wr {H H' H'' : Heap} (s : Sub H H') {o : Obj} {b : Nat} (hw : Wr H' b o H'') (hn : H b = none) : Sub H H'' := by
  intro x y hx
  refine hw.keep (s x y hx) ?_
  intro he; subst he; rw [hn] at hx; cases hx

/-- Less may be known behind the call. -/
theorem HT.drop {P : Program} {f : FuncId} {args : List Value} {H : Heap} {R : Value → Heap → Prop}
    (h : HT P f args H fun v H' => ∃ H'', Sub H'' H' ∧ (∀ b, H b ≠ none → H'' b = none → H' b = none) ∧ R v H'') : HT P f args H R := by
  refine ⟨h.1, fun w hw => (h.2 w hw).mono fun e w' hx => ?_⟩
  obtain ⟨v, H', e1, s, sa, f', H'', hs, _, r⟩ := hx
  refine ⟨v, H'', e1, s, fun b o hb => sa b o (hs b o hb), ⟨f'.1, f'.2.1, fun b hn hsn => f'.2.2 b hn ?_⟩, r⟩
  cases hc : H'' b with
  | none => exact absurd hc hsn
  | some o => rw [hs b o hc]; simp

section bin
variable {P : Program} {x y : Operand} {t : TypeId}

def isNil : Value → Bool
  | .nilIface => true
  | _ => false

def IsI (v : Value) : Prop := v = .nilIface ∨ ∃ t x, v = .iface t x

theorem IsI.nil : IsI .nilIface := .inl rfl
theorem IsI.some (t : TypeId) (x : Value) : IsI (.iface t x) := .inr ⟨t, x, rfl⟩

theorem equal_ptr {p : Option Addr} {e : TypeId} (hu : P.underlying t = some (.pointer e)) (d : Nat) (w : World) :
    (Op.equalIn (d + 1) t (.pointer p) (.pointer none)).run P w = .ok p.isNone w := by
  cases p <;> simp [Op.equalIn, underlying, hu]

theorem equal_slice {p : Option Addr} {n c : Nat} {e : TypeId} (hu : P.underlying t = some (.slice e)) (d : Nat) (w : World) :
    (Op.equalIn (d + 1) t (.slice p n c) (.slice none 0 0)).run P w = .ok p.isNone w := by
  cases p <;> simp [Op.equalIn, underlying, hu]

theorem equal_if {v : Value} {ms : Array (String × TypeId)} (hv : IsI v) (hu : P.underlying t = some (.interface ms)) (d : Nat) (w : World) :
    (Op.equalIn (d + 1) t v .nilIface).run P w = .ok (isNil v) w := by
  rcases hv with rfl | ⟨a, b, rfl⟩ <;> simp [Op.equalIn, underlying, hu, isNil]

theorem binIs_ptr_eql {p : Option Addr} {e : TypeId} (hu : P.underlying t = some (.pointer e)) :
    BinIs P .eql t x y (.pointer p) (.pointer none) (.bool p.isNone) := by
  intro w
  have := equal_ptr (p := p) hu 9999 w
  simp only [eqGuard, binOp, Op.equal, Op.maxDepth, Sem.run_bind]
  simp [this]

theorem binIs_ptr_neq {p : Option Addr} {e : TypeId} (hu : P.underlying t = some (.pointer e)) :
    BinIs P .neq t x y (.pointer p) (.pointer none) (.bool !p.isNone) := by
  intro w
  have := equal_ptr (p := p) hu 9999 w
  simp only [eqGuard, binOp, Op.equal, Op.maxDepth, Sem.run_bind]
  simp [this]

theorem binIs_slice_eql {p : Option Addr} {n c : Nat} {e : TypeId} (hu : P.underlying t = some (.slice e)) :
    BinIs P .eql t x y (.slice p n c) (.slice none 0 0) (.bool p.isNone) := by
  intro w
  have := equal_slice (p := p) (n := n) (c := c) hu 9999 w
  simp only [eqGuard, binOp, Op.equal, Op.maxDepth, Sem.run_bind]
  simp [this]

theorem binIs_slice_neq {p : Option Addr} {n c : Nat} {e : TypeId} (hu : P.underlying t = some (.slice e)) :
    BinIs P .neq t x y (.slice p n c) (.slice none 0 0) (.bool !p.isNone) := by
  intro w
  have := equal_slice (p := p) (n := n) (c := c) hu 9999 w
  simp only [eqGuard, binOp, Op.equal, Op.maxDepth, Sem.run_bind]
  simp [this]

theorem binIs_if_eql {v : Value} {ms : Array (String × TypeId)} (hv : IsI v) (hu : P.underlying t = some (.interface ms)) :
    BinIs P .eql t x (.const .nilIface) v .nilIface (.bool (isNil v)) := by
  intro w
  have := equal_if hv hu 9999 w
  rcases hv with rfl | ⟨a, b, rfl⟩
  · simp only [eqGuard, binOp, Op.equal, Op.maxDepth, Sem.run_bind]
    simp [this]
  · simp only [eqGuard, binOp, Op.equal, Op.maxDepth, Sem.run_bind]
    simp [this]

theorem binIs_if_neq {v : Value} {ms : Array (String × TypeId)} (hv : IsI v) (hu : P.underlying t = some (.interface ms)) :
    BinIs P .neq t x (.const .nilIface) v .nilIface (.bool !(isNil v)) := by
  intro w
  have := equal_if hv hu 9999 w
  rcases hv with rfl | ⟨a, b, rfl⟩
  · simp only [eqGuard, binOp, Op.equal, Op.maxDepth, Sem.run_bind]
    simp [this]
  · simp only [eqGuard, binOp, Op.equal, Op.maxDepth, Sem.run_bind]
    simp [this]

end bin
end Go.Eng
