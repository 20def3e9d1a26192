/-
  FULL CHANGES NOTHING, PART I: errors compared.
-/
import Derived.Test.Qxb6500695aGreatFmtSm
import Derived.LaidEql
namespace Go.Proofs.Qxb6500695aGreatFmt
open Go Go.Eng Go.Proofs
set_option maxRecDepth 100000
set_option linter.unusedVariables false
set_option linter.unusedSimpArgs false
set_option linter.unusedSectionVars false

/-- The listed errors are pointers to blocks of their own. -/
def ErA (H : Heap) (g : Gh) (E : Nat → Value) : Prop :=
  ∃ adr : Nat → Addr, (∀ b, b < 9 → b ≠ 5 → E b = .iface 295 (.pointer (some (adr b))) ∧ g (adr b).block = some (0, 0) ∧ ∃ c t, H (adr b).block = some (.cells c t (0, 0))) ∧ ∀ a b, a < 9 → b < 9 → a ≠ 5 → b ≠ 5 → adr a = adr b → a = b

section
variable {S : Nat × Int → Prop} {H H' : Heap} {g g' : Gh} {E : Nat → Value} {e : Value}

theorem ErA.ev (h : ErA H g E) (ev : Ev S H g H' g') (h0 : ¬ S (0, 0)) : ErA H' g' E := by
  obtain ⟨adr, h1, h2⟩ := h
  exact ⟨adr, fun b hb h5 => let ⟨a1, a2, c, t, a3⟩ := h1 b hb h5; ⟨a1, ev.tag _ _ a2, c, t, ev.get a2 h0 a3⟩, h2⟩

theorem ErA.inj (h : ErA H g E) {a b : Nat} (ha : a < 9) (hb : b < 9) (h5 : a ≠ 5) (h6 : b ≠ 5) (he : E a = E b) : a = b := by
  obtain ⟨adr, h1, h2⟩ := h
  rw [(h1 a ha h5).1, (h1 b hb h6).1] at he
  simp at he
  exact h2 a b ha hb h5 h6 he

theorem err_run (hA : ErA H g E) (he : errV E e) {c : Nat} (hc : c < 9) (h5 : c ≠ 5) {t : TypeId} {v : Value} (hE : E c = .iface t v) {w : World} (hw : Sat H w.heap) :
    ∃ r : Bool, (binOp .eql 48 e (.iface t v)).run Tryz.prog w = .ok (.bool r) w ∧ (r = true ↔ e = E c) := by
  have hA' := hA
  obtain ⟨adr, h1, h2⟩ := hA
  obtain ⟨c1, c2, cc, ct, c3⟩ := h1 c hc h5
  rw [hE] at c1
  obtain ⟨rfl, rfl⟩ := Value.iface.inj c1
  have hinfo : Tryz.prog.info? 295 = some Tryz.t295 := by kernel_rfl
  have hte : Tryz.prog.info? 297 = some Tryz.t297 := by kernel_rfl
  have hsz : Tryz.t297.size ≠ 0 := by decide
  rcases he with rfl | ⟨b, hb, hb5, rfl⟩
  · refine ⟨false, run_eql_iface_nil_left w 295 _ Tryz.underlying48, ?_⟩
    rw [hE]
    simp
  · obtain ⟨b1, b2, bc, bt, b3⟩ := h1 b hb hb5
    by_cases hbc : b = c
    · subst hbc
      refine ⟨true, ?_, by simp⟩
      rw [b1]
      exact run_eql_iface_ptr_same w _ Tryz.underlying48 Tryz.underlying295 hinfo rfl hte
    · refine ⟨false, ?_, ?_⟩
      · rw [b1]
        exact run_eql_iface_ptr_other w Tryz.underlying48 Tryz.underlying295 hinfo rfl hte hsz (fun h => hbc (h2 b c hb hc hb5 h5 h)) (hw _ _ b3) (hw _ _ c3)
      · constructor
        · intro h; cases h
        · intro h; exact absurd (hA'.inj hb hc hb5 h5 h) hbc

theorem err_run_neq {a b : Value} {w : World} {r : Bool} (h : (binOp .eql 48 a b).run Tryz.prog w = .ok (.bool r) w) (ha : a = .nilIface ∨ ∃ t v, a = .iface t v) (hb : ∃ t v, b = .iface t v) : (binOp .neq 48 a b).run Tryz.prog w = .ok (.bool (!r)) w := by
  obtain ⟨t, v, rfl⟩ := hb
  rcases ha with rfl | ⟨t', v', rfl⟩
  · simp only [binOp] at h ⊢
    cases hx : (Op.equal 48 .nilIface (.iface t v)).run Tryz.prog w with
    | ok x w' => simp [hx] at h ⊢; exact ⟨by rw [h.1], h.2⟩
    | halt x w' => simp [hx] at h
  · simp only [binOp] at h ⊢
    cases hx : (Op.equal 48 (.iface t' v') (.iface t v)).run Tryz.prog w with
    | ok x w' => simp [hx] at h ⊢; exact ⟨by rw [h.1], h.2⟩
    | halt x w' => simp [hx] at h

theorem semOk_errEql {K : Value → Heap → Prop} (hA : ErA H g E) (he : errV E e) {c : Nat} (hc : c < 9) (h5 : c ≠ 5) {t : TypeId} {v : Value} (hE : E c = .iface t v) {x y : Operand} (hK : ∀ r : Bool, (r = true ↔ e = E c) → K (.bool r) H) :
    SemOk Tryz.prog (do eqGuard .eql 48 x y e (.iface t v); binOp .eql 48 e (.iface t v)) H K := by
  intro w hw
  obtain ⟨r, h1, h2⟩ := err_run hA he hc h5 hE hw
  have key : (do eqGuard .eql 48 x y e (.iface t v); binOp .eql 48 e (.iface t v) : Sem Value).run Tryz.prog w = .ok (.bool r) w := by
    have hg : (eqGuard .eql 48 x y e (.iface t v)).run Tryz.prog w = .ok () w := by
      rcases he with rfl | ⟨b, hb, hb5, rfl⟩
      · simp [eqGuard]
      · obtain ⟨adr, q1, _⟩ := hA
        rw [(q1 b hb hb5).1]
        simp [eqGuard]
    simp [hg, h1]
  rw [key]
  exact ⟨H, Str.refl _, hw, Fr.refl _ _, hK r h2⟩

theorem semOk_errNeq {K : Value → Heap → Prop} (hA : ErA H g E) (he : errV E e) {c : Nat} (hc : c < 9) (h5 : c ≠ 5) {t : TypeId} {v : Value} (hE : E c = .iface t v) {x y : Operand} (hK : ∀ r : Bool, (r = true ↔ e ≠ E c) → K (.bool r) H) :
    SemOk Tryz.prog (do eqGuard .neq 48 x y e (.iface t v); binOp .neq 48 e (.iface t v)) H K := by
  intro w hw
  obtain ⟨r, h1, h2⟩ := err_run hA he hc h5 hE hw
  have hI : e = .nilIface ∨ ∃ t v, e = .iface t v := by
    rcases he with rfl | ⟨b, hb, hb5, rfl⟩
    · exact .inl rfl
    · obtain ⟨adr, q1, _⟩ := hA
      exact .inr ⟨_, _, (q1 b hb hb5).1⟩
  have h3 := err_run_neq h1 hI ⟨t, v, rfl⟩
  have key : (do eqGuard .neq 48 x y e (.iface t v); binOp .neq 48 e (.iface t v) : Sem Value).run Tryz.prog w = .ok (.bool (!r)) w := by
    have hg : (eqGuard .neq 48 x y e (.iface t v)).run Tryz.prog w = .ok () w := by
      rcases hI with rfl | ⟨t', v', rfl⟩
      · simp [eqGuard]
      · simp [eqGuard]
    simp [hg, h3]
  rw [key]
  refine ⟨H, Str.refl _, hw, Fr.refl _ _, hK _ ?_⟩
  rw [Ne, ← h2]
  cases r <;> simp

end

end Go.Proofs.Qxb6500695aGreatFmt
