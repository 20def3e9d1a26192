/-
  FULL CHANGES NOTHING, PART O: the listed errors are different pointers.
-/
import Derived.Test.Qxb6500695aGreatFmtRb
import Derived.Test.Qxb6500695aGreatFmtLi
import Derived.Stop.LaidErr
namespace Go.Proofs.Qxb6500695aGreatFmt
open Go Go.Eng Go.Proofs Go.ChangeShapes Go.WideShapes Go.ChangeAt Go.RowKit
set_option maxRecDepth 100000
set_option linter.unusedVariables false
set_option linter.unusedSimpArgs false
set_option linter.unusedSectionVars false

/-- The name of the errors' type, as the rows bear it. -/
def errNm : String :=
  match (Rows.laid_e2e_api_ErrFull : DataW Unit) with
  | .iface nm _ => nm
  | _ => ""

theorem row295 (u : TypeId) (h : Tryz.prog.typeName? 3 u = some errNm) : u = 295 :=
  typeName_ptr_named (nm := "errors.errorString") (by kernel_rfl) (by kernel_rfl) (by decide) u (h.trans (congrArg some (by kernel_rfl)))

/-- What stands behind a listed error. -/
def SentP (W : World) (b : Nat) (text : List UInt8) : Prop :=
  ∃ (a : Addr) (s : ByteArray) (c : Array Value) (t : TypeId), errOf W b = .iface 295 (.pointer (some a)) ∧ W.cell? a = some (.string s) ∧ s.data.toList = text ∧ W.heap[a.block]? = some (.cells c t (0, 0))

theorem sent_head {W : World} {n : String} {text : List UInt8} {r : List (String × DataW Unit)} {g : Nat} (h : laidMet Tryz.prog ((n, .iface errNm (.ptr (.agg [.lit (.string text)]))) :: r) W)
    (hg : Tryz.prog.globalNamed n = some g) (ht : (Tryz.prog.globals[g]?).map (·.type) = some 48) : SentP W g text := by
  obtain ⟨ps, ⟨g0, t0, cs0, f0, p0, q0, hg0, ht0, hv0, hd0, _, e0⟩, _, hrows⟩ := h
  obtain rfl := Option.some.inj (hg.symm.trans hg0)
  obtain rfl := Option.some.inj (ht.symm.trans ht0)
  subst e0
  obtain ⟨l0⟩ := cs0
  have hc297 : Tryz.prog.cellsOf 297 = 1 := by kernel_rfl
  have hc9 : Tryz.prog.cellsOf 9 = 1 := by kernel_rfl
  have ok0 : ∀ u v, l0 = [.iface u v] → Value.okWide Tryz.prog W .any 0 u v := fun u v e => by
    subst e
    exact (hrows g 0 (by simp [MemPlace.row])).2 u v (by simpa using World.var?_cell hg0 hv0 0)
  obtain ⟨a, s, rfl, hc0, hs0, hz0, rfl⟩ := errorString_of_trod Tryz.underlying48 row295 Tryz.underlying295 Tryz.underlying297 rfl rfl Tryz.underlying9 hc297 hc9 hd0 ok0
  obtain ⟨c, t, hb⟩ := (hrows a.block a.off (by simp [MemPlace.row])).1
  refine ⟨a, s, c, t, errOf_of (u := 295) (v := .pointer (some a)) (cells_of_cell (by simp) fun j hj => ?_), hc0, hs0, hb⟩
  have hj0 : j = 0 := by simpa using hj
  subst hj0
  have h1 := World.var?_cell hg0 hv0 0
  rw [h1]
  rfl

/-- The errors' texts. -/
def txt : Nat → List UInt8
  | 0 => [115, 105, 109, 100, 105, 115, 107, 58, 32, 112, 111, 119, 101, 114, 32, 105, 115, 32, 111, 102, 102]
  | 1 => [115, 105, 109, 100, 105, 115, 107, 58, 32, 102, 117, 108, 108]
  | 2 => [115, 105, 109, 100, 105, 115, 107, 58, 32, 98, 97, 100, 32, 97, 114, 103, 117, 109, 101, 110, 116]
  | 3 => [115, 105, 109, 100, 105, 115, 107, 58, 32, 111, 102, 102, 115, 101, 116, 32, 111, 114, 32, 108, 101, 110, 103, 116, 104, 32, 111, 117, 116, 32, 111, 102, 32, 114, 97, 110, 103, 101]
  | 4 => [115, 105, 109, 100, 105, 115, 107, 58, 32, 98, 97, 100, 32, 111, 98, 106, 101, 99, 116, 32, 110, 97, 109, 101]
  | 5 => []
  | 6 => [69, 79, 70]
  | 7 => [115, 105, 109, 100, 105, 115, 107, 58, 32, 111, 98, 106, 101, 99, 116, 32, 101, 120, 105, 115, 116, 115]
  | 8 => [115, 105, 109, 100, 105, 115, 107, 58, 32, 110, 111, 32, 115, 117, 99, 104, 32, 111, 98, 106, 101, 99, 116]
  | _ => []

theorem txt_fin : ∀ a b : Fin 9, a.val ≠ 5 → b.val ≠ 5 → txt a.val = txt b.val → a = b := by decide

theorem txt_inj (a : Nat) (ha : a < 9) (b : Nat) (hb : b < 9) (h5 : a ≠ 5) (h6 : b ≠ 5) (h : txt a = txt b) : a = b :=
  congrArg Fin.val (txt_fin ⟨a, ha⟩ ⟨b, hb⟩ h5 h6 h)

theorem sents_of {W : World} (h : laidMetH Tryz.prog laidL W) : ∀ b, b < 9 → b ≠ 5 → SentP W b (txt b) := by
  rw [MakeChecks.laidMetH_plain _ _ _ (by kernel_rfl)] at h
  have h0 := h
  have h1 := laidMet.tail h0
  have h2 := laidMet.tail h1
  have h3 := laidMet.tail h2
  have h4 := laidMet.tail h3
  have h5 := laidMet.tail h4
  have h6 := laidMet.tail h5
  have h7 := laidMet.tail h6
  have r1 : SentP W 1 (txt 1) := sent_head h0 (by kernel_rfl) (by kernel_rfl)
  have r8 : SentP W 8 (txt 8) := sent_head h1 (by kernel_rfl) (by kernel_rfl)
  have r7 : SentP W 7 (txt 7) := sent_head h2 (by kernel_rfl) (by kernel_rfl)
  have r4 : SentP W 4 (txt 4) := sent_head h3 (by kernel_rfl) (by kernel_rfl)
  have r3 : SentP W 3 (txt 3) := sent_head h4 (by kernel_rfl) (by kernel_rfl)
  have r2 : SentP W 2 (txt 2) := sent_head h5 (by kernel_rfl) (by kernel_rfl)
  have r0 : SentP W 0 (txt 0) := sent_head h6 (by kernel_rfl) (by kernel_rfl)
  have r6 : SentP W 6 (txt 6) := sent_head h7 (by kernel_rfl) (by kernel_rfl)
  intro b hb h5
  have hb' : b = 0 ∨ b = 1 ∨ b = 2 ∨ b = 3 ∨ b = 4 ∨ b = 6 ∨ b = 7 ∨ b = 8 := by omega
  rcases hb' with rfl | rfl | rfl | rfl | rfl | rfl | rfl | rfl
  · exact r0
  · exact r1
  · exact r2
  · exact r3
  · exact r4
  · exact r6
  · exact r7
  · exact r8

/-- Where an error points. -/
def adrOf (W : World) (b : Nat) : Addr :=
  match errOf W b with
  | .iface _ (.pointer (some a)) => a
  | _ => ⟨0, 0, none⟩

theorem era_of {W : World} (h : laidMetH Tryz.prog laidL W) : ErA (hp W) (gRo W) (errOf W) := by
  have hs := sents_of h
  have had : ∀ {b : Nat} {a : Addr}, errOf W b = .iface 295 (.pointer (some a)) → adrOf W b = a := fun {b a} he => by
    unfold adrOf
    rw [he]
  refine ⟨adrOf W, fun b hb h5 => ?_, fun x y hx hy h5 h6 he => ?_⟩
  · obtain ⟨a, s, c, t, e1, e2, e3, e4⟩ := hs b hb h5
    have e5 : hp W a.block = some (.cells c t (0, 0)) := e4
    rw [had e1]
    refine ⟨e1, ?_, c, t, e5⟩
    unfold gRo
    rw [e5]
    rfl
  · obtain ⟨a, s, c, t, e1, e2, e3, e4⟩ := hs x hx h5
    obtain ⟨a', s', c', t', f1, f2, f3, f4⟩ := hs y hy h6
    rw [had e1, had f1] at he
    subst he
    rw [e2] at f2
    cases f2
    exact txt_inj x hx y hy h5 h6 (by rw [← e3, ← f3])

end Go.Proofs.Qxb6500695aGreatFmt
