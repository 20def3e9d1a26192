/-
  WHAT THE LISTED VARIABLES GIVE; A WORLD THAT MEETS THE CONDITION; FROM THE CONTRACT TO THE ROW.
-/
import Derived.Test.Qxb6500694aGreatDoorRa
import Derived.Test.Qxb6500694aGreatDoorRows
import Derived.ProofKit
import Derived.LaidLaws
import Derived.LaidHandle
import Derived.LaidByText
import Derived.Carry
import Derived.MakeChecks
import Derived.Stop.Joined
namespace Go.Proofs.Qxb6500694aGreatDoor
open Go Go.Eng Go.Proofs Go.ChangeShapes Go.WideShapes Go.ChangeAt Go.RowKit
set_option maxRecDepth 100000
set_option linter.unusedVariables false
set_option linter.unusedSimpArgs false
set_option linter.unusedSectionVars false

theorem own_ : ownKnob Tryz.prog.godebug = none := by kernel_rfl
theorem laidOut_ : laidOutB Tryz.prog = true := by kernel_rfl

theorem met_door (os : Os) (args : Array Value) : laidMetH Tryz.prog Rows.chainIsSoundRow.laid (({ World.holding Tryz.prog os ⟨#[], #[], []⟩ with heap := (varsWorld Tryz.prog 237 (varsId Tryz.prog) os (fun _ _ => 0)).heap } : World).forCall (fun _ _ => 0) ⟨#[], args, []⟩).memory :=
  laidMetH_of_parts3 (fuel := 8) (laidMet_of_run' 8 (by kernel_rfl) (by kernel_rfl)) (by kernel_rfl) (by kernel_rfl)

/-- One listed variable: its cell holds an interface value. -/
theorem glob_of {W : World} {nm : String} {d : DataW Unit} {g0 : Nat} (hg0 : Tryz.prog.globalNamed nm = some g0) (ht0 : (Tryz.prog.globals[g0]?).map (·.type) = some 37) {nm' : String} {d' : DataW Unit} (hd : d = .iface nm' d')
    {g t : Nat} {cs : Array Value} {fuel : Nat} {p : List MemPlace} (hg : Tryz.prog.globalNamed nm = some g) (ht : (Tryz.prog.globals[g]?).map (·.type) = some t) (hv : W.var? Tryz.prog nm = some cs)
    (h : DataW.trod (fun _ => ()) Tryz.prog W 0 (fun _ => true) false fuel t cs.toList = some (d, p)) : ∃ u v, Cells (hp W) g0 0 [.iface u v] := by
  obtain rfl := Option.some.inj (hg0.symm.trans hg)
  obtain rfl := Option.some.inj (ht0.symm.trans ht)
  subst hd
  obtain ⟨u, v, hcs⟩ := laid_iface Tryz.underlying37 h
  refine ⟨u, v, cells_of_cell (by simp) fun j hj => ?_⟩
  have hj0 : j = 0 := by simpa using hj
  subst hj0
  have h1 := World.var?_cell hg0 hv 0
  have h2 : cs[0]? = cs.toList[0]? := by simp
  rw [h1, h2, hcs]

theorem globs_of {W : World} (h : laidMetH Tryz.prog Rows.chainIsSoundRow.laid W) : Globs (hp W) := by
  rw [MakeChecks.laidMetH_plain _ _ _ (by kernel_rfl)] at h
  obtain ⟨ps, ⟨g0, t0, cs0, f0, p0, q0, a0, b0, c0, d0, ⟨g1, t1, cs1, f1, p1, q1, a1, b1, c1, d1, ⟨g2, t2, cs2, f2, p2, q2, a2, b2, c2, d2, ⟨g3, t3, cs3, f3, p3, q3, a3, b3, c3, d3, ⟨g4, t4, cs4, f4, p4, q4, a4, b4, c4, d4, ⟨g5, t5, cs5, f5, p5, q5, a5, b5, c5, d5, _⟩, _⟩, _⟩, _⟩, _⟩, _⟩, _, _⟩ := h
  have r0 := glob_of (g0 := 5) (by kernel_rfl) (by kernel_rfl) rfl a0 b0 c0 d0
  have r1 := glob_of (g0 := 4) (by kernel_rfl) (by kernel_rfl) rfl a1 b1 c1 d1
  have r2 := glob_of (g0 := 0) (by kernel_rfl) (by kernel_rfl) rfl a2 b2 c2 d2
  have r3 := glob_of (g0 := 1) (by kernel_rfl) (by kernel_rfl) rfl a3 b3 c3 d3
  have r4 := glob_of (g0 := 2) (by kernel_rfl) (by kernel_rfl) rfl a4 b4 c4 d4
  have r5 := glob_of (g0 := 10) (by kernel_rfl) (by kernel_rfl) rfl a5 b5 c5 d5
  intro g hg
  simp only [List.mem_cons, List.not_mem_nil, or_false] at hg
  rcases hg with rfl | rfl | rfl | rfl | rfl | rfl
  · exact r2
  · exact r3
  · exact r4
  · exact r1
  · exact r0
  · exact r5

/-- The script's value is a slice. -/
theorem slice_of_ok {W : World} {base : Nat} {v : Value} {q : Option Addr} {n c : Nat} (ho : Value.okWide Tryz.prog W .any base 22 v) (hcs : v.cells.toList = [.slice q n c]) : v = .slice q n c := by
  cases v with
  | agg cs => simp [Value.okWide, Tryz.underlying22, Cell.okWide, Cell.ok] at ho
  | slice a b c => simpa [Value.cells] using hcs
  | _ => simp [Value.cells] at hcs

/-- From the contract to the world behind the call: below the heap's old size nothing has turned. -/
theorem below_of {f : FuncId} {v : Value} {W : World} (h : HT Tryz.prog f [v] (hp W) fun r H' => r = .bool true ∧ Sub (hp W) H') :
    Calls Tryz.prog f #[v] W fun e W' => e = .returned (.bool true) ∧ Below W.heap.size W W' := by
  refine (h.2 W (hp_sat W)).mono fun e W' ⟨r, H', he, hstr, hsat, hfr, hr, hsub⟩ => ?_
  subst hr
  refine ⟨he, hstr.1, hstr.2.1, hstr.2.2, hfr.1, fun k hk => ?_⟩
  have h1 : hp W k = some W.heap[k] := by
    unfold hp; exact Array.getElem?_eq_getElem hk
  rw [hsat _ _ (hsub _ _ h1), Array.getElem?_eq_getElem hk]

end Go.Proofs.Qxb6500694aGreatDoor
