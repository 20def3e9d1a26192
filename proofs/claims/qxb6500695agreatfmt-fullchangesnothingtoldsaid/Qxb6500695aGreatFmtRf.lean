/-
  FullChangesNothing: THE ROW AND THE CARD.
-/
import Derived.Test.Qxb6500695aGreatFmtRc
import Derived.Test.Qxb6500695aGreatFmtLn
import Derived.Test.Qxb6500695aGreatFmtLo
import Derived.Test.Qxb6500695aGreatFmtTie
import Derived.Test.Qxb6500695aGreatFmtCards
import Derived.Stop.JoinedTold
import Derived.SevenTiedAt
import Derived.SevenToldRow
import Derived.Deep.DeepWitnessRef
namespace Go.Proofs.Qxb6500695aGreatFmt
open Go Go.Eng Go.Proofs Go.ChangeShapes Go.WideShapes Go.ChangeAt Go.RowKit
open Go.Extern.Stop Go.Stop Go.Extern
set_option maxRecDepth 100000
set_option linter.unusedVariables false
set_option linter.unusedSimpArgs false
set_option linter.unusedSectionVars false

theorem fcn_lifted (os : Os) (started : os.Started) (H : Type) (enc : TypeId × Value → H) :
    ReturnsInTold none {} Tryz.checked os 6 .any Input.okWide ((OpenSpec.ofChange Rows.fullChangesNothingSpec).preRow enc Tryz.prog Tryz.f6 [] false laidL) (fun F => ((OpenSpec.ofChange Rows.fullChangesNothingSpec).at F).post enc Tryz.prog Tryz.f6 false true false false) (aloneAtReturn Tryz.prog) nothingAlways := by
  refine returnsInTold_of_row (C := Tryz.checked) (s := OpenSpec.ofChange Rows.fullChangesNothingSpec) (by kernel_rfl) own_ started (by kernel_rfl) Tryz.func6
    (OpenSpec.witness_stopped_atRef (enc := enc) (C := Tryz.checked) (os := os) false ({ World.holding Tryz.prog os ⟨#[], #[], []⟩ with heap := (varsWorld Tryz.prog 166 (varsId Tryz.prog) os (fun _ _ => 0)).heap }) #[.slice none 0 0] rfl (by kernel_rfl) (by kernel_rfl) (by kernel_rfl)
      (OpenSpec.preRow_of_B rfl 8 (by kernel_rfl) (by kernel_rfl) (met_door os _))) ?_
  intro F W base args ds gs before _ _ hval0 hW _ _ hwt hL _
  have hW' := hW
  obtain ⟨p, q, hA0, hV0, rfl, hfz, hnd⟩ := hW
  have hA : DataW.TrodAll enc Tryz.prog W 0 (fun _ => true) true Tryz.f6.params.toList args.toList ds p := hA0
  rw [Tryz.params6] at hA
  obtain ⟨v0, d0, hargs, rfl, h0⟩ := trodAll_one hA
  obtain ⟨rfl, rfl⟩ := trodVars_none hV0
  have hlt : ∀ x ∈ p, x.block < W.heap.size := fun x hx => hW'.lt x (List.mem_append_left _ hx)
  have h0k := h0
  obtain ⟨fuel, h0⟩ := h0
  have hwt' : (d0.weights Tryz.prog 22).all (· ≤ reachBytes) = true := by
    have h1 : (DataW.weightsEach Tryz.prog [22] [d0]).all (· ≤ reachBytes) = true := hwt
    simpa [DataW.weightsEach] using h1
  obtain ⟨q, n, c, ops, hcs, hs⟩ := open_ops h0 hwt'
  have hv0 : v0 = .slice q n c := by
    have ho : Value.okWide Tryz.prog W .any base 22 v0 := hval0 0 22 v0 (by rw [show Tryz.f6.params = #[22] from Tryz.params6]; rfl) (by rw [hargs]; rfl)
    exact slice_of_ok ho hcs
  subst hv0
  subst hargs
  have hgl := globs_of hL
  refine (below_of (f6_ht (c := c) (gRo_ok W) hgl.1 (era_of hL) hgl.2 hs)).mono fun e W' ⟨he, hb⟩ => ⟨_, he, ?_⟩
  refine ⟨_, _, _, [], p, [], hW', ?_, ?_, rfl, hb.frame _, fun h => by cases h⟩
  · exact trodAll_mk1 (shut_bool Tryz.underlying4 _)
  · exact trodAll_mk1 (Below.trod laidOut_ (by kernel_rfl) (of_decide_eq_true (by kernel_rfl)) h0k hb hlt)

theorem fcn_in : Rows.fullChangesNothingRow.inPlace = Tryz.pinned.checked.prog.inPlace 6 := by kernel_rfl
theorem fcn_op : Rows.fullChangesNothingRow.unfollowed = Tryz.pinned.checked.prog.unfollowed 6 := by kernel_rfl
theorem fcn_rc : Rows.fullChangesNothingRow.recurses = Tryz.pinned.checked.prog.recurses 6 := by kernel_rfl
theorem fcn_vs : Rows.fullChangesNothingRow.named = Tryz.pinned.checked.prog.varsNamed 6 := by kernel_rfl
theorem fcn_goes : false = Rows.fullChangesNothingRow.goesBy Tryz.pinned.checked.prog := by kernel_rfl
theorem fcn_wf : Rows.fullChangesNothingRow.wfByText (OpenSpec.ofChange Rows.fullChangesNothingSpec) = true := by kernel_rfl
theorem fcn_rowed : mapsRowed Tryz.pinned.checked.prog = true := by kernel_rfl
theorem fcn_word : Tryz.pinned.checked.prog.envWorded = true := by kernel_rfl
theorem fcn_heard : Tryz.pinned.checked.prog.stopsHeard = true := by kernel_rfl
theorem fcn_enter : Tryz.pinned.checked.prog.mayEnter = true := by kernel_rfl
theorem fcn_keys : Rows.fullChangesNothingRow.plainKeys = Tryz.pinned.checked.prog.plainKeys := by kernel_rfl
theorem fcn_lift : Rows.fullChangesNothingRow.lifted = Tryz.pinned.checked.prog.liftsFinal := by kernel_rfl
theorem fcn_tie : namedTie Tryz.pinned.checked.prog Rows.fullChangesNothingRow.namedList (OpenSpec.ofChange Rows.fullChangesNothingSpec).vars = true := by kernel_rfl
theorem fcn_fn : Tryz.pinned.checked.prog.funcNamed Rows.fullChangesNothingRow.func = some 6 := by kernel_rfl
theorem fcn_main : Tryz.pinned.checked.prog.mainIs = some (true, "30c3a6a10f40a0d7bff2b93a6a5ef78703025c8df68b3cde09243db0a3596da9".toList) := by kernel_rfl
theorem fcn_looks : true = Tryz.pinned.checked.prog.looks [] := by kernel_rfl

theorem fullChangesNothing_card : Rows.FullChangesNothingToldSaid :=
  Claim7.holds_of_told_tied_any_at .later 6 Tryz.f6 "fmt.errorf" [] [] (true, "30c3a6a10f40a0d7bff2b93a6a5ef78703025c8df68b3cde09243db0a3596da9") true false [.sentinel, .sentinel, .sentinel, .sentinel, .sentinel, .sentinel, .sentinel, .sentinel, .data] true
    fcn_wf rfl rfl rfl laidOut_ fcn_rowed rfl ⟨rfl, rfl, rfl, rfl, rfl, rfl, rfl⟩ rfl rfl fcn_tie fcn_fn Tryz.func6 (by kernel_rfl)
    (of_decide_eq_true (by kernel_rfl)) (by unfold Func.isWrapper; rw [if_neg (of_decide_eq_false (by kernel_rfl))]; exact ⟨rfl, rfl⟩) stops_.symm rfl stopKnobs_.symm fcn_word
    fcn_in fcn_op fcn_rc fcn_vs (by kernel_rfl) (by kernel_rfl) (by kernel_rfl) (by kernel_rfl) (by kernel_rfl) rfl (by kernel_rfl) rfl rfl
    rfl rfl
    rfl fcn_main fcn_looks (by kernel_rfl) (by decide) fcn_goes fullChangesNothing_row_tie
    (OpenClaim.moreEntering_of fcn_enter (by kernel_rfl) fcn_heard (by kernel_rfl) (by kernel_rfl) (by kernel_rfl) (by kernel_rfl) fcn_keys fcn_lift (by kernel_rfl))
    ⟨_, WideRow.started_initial, quiet_ _⟩
    (fun os started _ H enc _ => fcn_lifted os started H enc)

end Go.Proofs.Qxb6500695aGreatFmt
