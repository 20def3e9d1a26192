/-
  WHAT THE LISTED VARIABLES GIVE; A WORLD THAT MEETS THE CONDITION; FROM THE CONTRACT TO THE ROW.
-/
import Derived.Test.Qxb6500695aGreatFmtRa
import Derived.Test.Qxb6500695aGreatFmtRows
import Derived.ProofKit
import Derived.OpenShut
import Derived.LaidLaws
import Derived.LaidHandle
import Derived.LaidByText
import Derived.Carry
import Derived.MakeChecks
import Derived.Stop.Joined
namespace Go.Proofs.Qxb6500695aGreatFmt
open Go Go.Eng Go.Proofs Go.ChangeShapes Go.WideShapes Go.ChangeAt Go.RowKit
set_option maxRecDepth 100000
set_option linter.unusedVariables false
set_option linter.unusedSimpArgs false
set_option linter.unusedSectionVars false

theorem own_ : ownKnob Tryz.prog.godebug = none := by kernel_rfl
theorem laidOut_ : laidOutB Tryz.prog = true := by kernel_rfl

/-- What the rows list. -/
def laidL : List (String × DataW Unit) := Rows.neverOverCapacityRow.laid

theorem met_door (os : Os) (args : Array Value) : laidMetH Tryz.prog laidL (({ World.holding Tryz.prog os ⟨#[], #[], []⟩ with heap := (varsWorld Tryz.prog 166 (varsId Tryz.prog) os (fun _ _ => 0)).heap } : World).forCall (fun _ _ => 0) ⟨#[], args, []⟩).memory :=
  laidMetH_of_parts3 (fuel := 8) (laidMet_of_run' 8 (by kernel_rfl) (by kernel_rfl)) (by kernel_rfl) (by kernel_rfl)

/-- One listed variable: its cell holds an interface value. -/
theorem glob_of {W : World} {nm : String} {d : DataW Unit} {g0 : Nat} (hg0 : Tryz.prog.globalNamed nm = some g0) (ht0 : (Tryz.prog.globals[g0]?).map (·.type) = some 48) {nm' : String} {d' : DataW Unit} (hd : d = .iface nm' d')
    {g t : Nat} {cs : Array Value} {fuel : Nat} {p : List MemPlace} (hg : Tryz.prog.globalNamed nm = some g) (ht : (Tryz.prog.globals[g]?).map (·.type) = some t) (hv : W.var? Tryz.prog nm = some cs)
    (h : DataW.trod (fun _ => ()) Tryz.prog W 0 (fun _ => true) false fuel t cs.toList = some (d, p)) : ∃ u v, Cells (hp W) g0 0 [.iface u v] := by
  obtain rfl := Option.some.inj (hg0.symm.trans hg)
  obtain rfl := Option.some.inj (ht0.symm.trans ht)
  subst hd
  obtain ⟨u, v, hcs⟩ := laid_iface Tryz.underlying48 h
  refine ⟨u, v, cells_of_cell (by simp) fun j hj => ?_⟩
  have hj0 : j = 0 := by simpa using hj
  subst hj0
  have h1 := World.var?_cell hg0 hv 0
  have h2 : cs[0]? = cs.toList[0]? := by simp
  rw [h1, h2, hcs]

/-- The names of the nodes. -/
theorem names_of {W : World} {nm : String} {d : DataW Unit} {g0 : Nat} (hg0 : Tryz.prog.globalNamed nm = some g0) (ht0 : (Tryz.prog.globals[g0]?).map (·.type) = some 207)
    {g t : Nat} {cs : Array Value} {fuel : Nat} {p : List MemPlace} (hg : Tryz.prog.globalNamed nm = some g) (ht : (Tryz.prog.globals[g]?).map (·.type) = some t) (hv : W.var? Tryz.prog nm = some cs)
    (h : DataW.trod (fun _ => ()) Tryz.prog W 0 (fun _ => true) false fuel t cs.toList = some (d, p)) : ∃ a b c : ByteArray, Cells (hp W) g0 0 [.string a, .string b, .string c] := by
  obtain rfl := Option.some.inj (hg0.symm.trans hg)
  obtain rfl := Option.some.inj (ht0.symm.trans ht)
  have c207 : Tryz.prog.cellsOf 207 = 3 := by kernel_rfl
  have c9 : Tryz.prog.cellsOf 9 = 1 := by kernel_rfl
  obtain ⟨xs, m, _, _, hl, hx, hel⟩ := DataW.trod_array Tryz.underlying207 h
  have each : ∀ i, i < 3 → ∃ s : ByteArray, cs.toList[i]? = some (.string s) := by
    intro i hi
    have h1 := hel i hi
    rw [List.getElem?_eq_getElem (by omega), c9, Nat.mul_one] at h1
    obtain ⟨s, hs, _⟩ := DataW.trod_string Tryz.underlying9 h1
    refine ⟨s, ?_⟩
    have h2 : ((cs.toList.drop i).take 1)[0]? = some (.string s) := by rw [hs]; rfl
    rw [List.getElem?_take_of_lt (by decide), List.getElem?_drop] at h2
    exact h2
  obtain ⟨a, ha⟩ := each 0 (by decide)
  obtain ⟨b, hb⟩ := each 1 (by decide)
  obtain ⟨c, hc⟩ := each 2 (by decide)
  refine ⟨a, b, c, cells_of_cell (by simp) fun j hj => ?_⟩
  have h1 := World.var?_cell hg0 hv j
  have h2 : cs[j]? = cs.toList[j]? := by simp
  rw [Nat.zero_add, h1, h2]
  have hj' : j = 0 ∨ j = 1 ∨ j = 2 := by
    have : j < 3 := hj
    omega
  rcases hj' with rfl | rfl | rfl
  · exact ha
  · exact hb
  · exact hc

/-- What block b holds, where it holds an interface value. -/
def errOf (W : World) (b : Nat) : Value :=
  match hp W b with
  | some (.cells c _ _) => (c[0]?).getD .nilIface
  | _ => .nilIface

theorem errOf_of {W : World} {b : Nat} {u : TypeId} {v : Value} (h : Cells (hp W) b 0 [.iface u v]) : errOf W b = .iface u v := by
  obtain ⟨c, T, fr, hb, hc⟩ := h
  have := hc 0 (by simp)
  unfold errOf
  rw [hb]
  simp only [Nat.zero_add] at this
  simp [this]

theorem globs_of {W : World} (h : laidMetH Tryz.prog laidL W) : Gl (hp W) (gRo W) (errOf W) ∧ NmOk (hp W) (gRo W) := by
  rw [MakeChecks.laidMetH_plain _ _ _ (by kernel_rfl)] at h
  obtain ⟨ps, ⟨g0, t0, cs0, f0, p0, q0, a0, b0, c0, d0, ⟨g1, t1, cs1, f1, p1, q1, a1, b1, c1, d1, ⟨g2, t2, cs2, f2, p2, q2, a2, b2, c2, d2, ⟨g3, t3, cs3, f3, p3, q3, a3, b3, c3, d3, ⟨g4, t4, cs4, f4, p4, q4, a4, b4, c4, d4, ⟨g5, t5, cs5, f5, p5, q5, a5, b5, c5, d5, ⟨g6, t6, cs6, f6, p6, q6, a6, b6, c6, d6, ⟨g7, t7, cs7, f7, p7, q7, a7, b7, c7, d7, ⟨g8, t8, cs8, f8, p8, q8, a8, b8, c8, d8, _⟩, _⟩, _⟩, _⟩, _⟩, _⟩, _⟩, _⟩, _⟩, _, _⟩ := h
  have r0 := glob_of (g0 := 1) (by kernel_rfl) (by kernel_rfl) rfl a0 b0 c0 d0
  have r1 := glob_of (g0 := 8) (by kernel_rfl) (by kernel_rfl) rfl a1 b1 c1 d1
  have r2 := glob_of (g0 := 7) (by kernel_rfl) (by kernel_rfl) rfl a2 b2 c2 d2
  have r3 := glob_of (g0 := 4) (by kernel_rfl) (by kernel_rfl) rfl a3 b3 c3 d3
  have r4 := glob_of (g0 := 3) (by kernel_rfl) (by kernel_rfl) rfl a4 b4 c4 d4
  have r5 := glob_of (g0 := 2) (by kernel_rfl) (by kernel_rfl) rfl a5 b5 c5 d5
  have r6 := glob_of (g0 := 0) (by kernel_rfl) (by kernel_rfl) rfl a6 b6 c6 d6
  have r7 := glob_of (g0 := 6) (by kernel_rfl) (by kernel_rfl) rfl a7 b7 c7 d7
  obtain ⟨x, y, z, r8⟩ := names_of (g0 := 5) (by kernel_rfl) (by kernel_rfl) a8 b8 c8 d8
  refine ⟨fun b hb h5 => ?_, gRo_cells r8, x, y, z, r8⟩
  have one : (∃ u v, Cells (hp W) b 0 [.iface u v]) → gRo W b = some (0, 0) ∧ ∃ t x, errOf W b = .iface t x ∧ Cells (hp W) b 0 [.iface t x] := fun ⟨u, v, hc⟩ => ⟨gRo_cells hc, u, v, errOf_of hc, hc⟩
  have hb' : b = 0 ∨ b = 1 ∨ b = 2 ∨ b = 3 ∨ b = 4 ∨ b = 6 ∨ b = 7 ∨ b = 8 := by omega
  rcases hb' with rfl | rfl | rfl | rfl | rfl | rfl | rfl | rfl
  · exact one r6
  · exact one r0
  · exact one r5
  · exact one r4
  · exact one r3
  · exact one r7
  · exact one r2
  · exact one r1

/-- The script's value is a slice. -/
theorem slice_of_ok {W : World} {base : Nat} {v : Value} {q : Option Addr} {n c : Nat} (ho : Value.okWide Tryz.prog W .any base 22 v) (hcs : v.cells.toList = [.slice q n c]) : v = .slice q n c := by
  cases v with
  | agg cs => simp [Value.okWide, Tryz.underlying22, Cell.okWide, Cell.ok] at ho
  | slice a b c => simpa [Value.cells] using hcs
  | _ => simp [Value.cells] at hcs

/-- From the contract to the world behind the call: below the heap's old size nothing has turned. -/
theorem below_of {f : FuncId} {v : Value} {W : World} (h : HT Tryz.prog f [v] (hp W) fun r H' => r = .bool true ∧ ∃ g', Ev (fun tg => tg ≠ (0, 0)) (hp W) (gRo W) H' g') :
    Calls Tryz.prog f #[v] W fun e W' => e = .returned (.bool true) ∧ Below W.heap.size W W' := by
  refine (h.2 W (hp_sat W)).mono fun e W' ⟨r, H', he, hstr, hsat, hfr, hr, g', ev⟩ => ?_
  subst hr
  refine ⟨he, hstr.1, hstr.2.1, hstr.2.2, hfr.1, fun k hk => ?_⟩
  have h1 : hp W k = some W.heap[k] := by
    unfold hp; exact Array.getElem?_eq_getElem hk
  have h2 : gRo W k = some (0, 0) := by
    unfold gRo; rw [h1]; rfl
  rw [hsat _ _ (ev.get h2 (fun hc => hc rfl) h1), Array.getElem?_eq_getElem hk]

end Go.Proofs.Qxb6500695aGreatFmt
