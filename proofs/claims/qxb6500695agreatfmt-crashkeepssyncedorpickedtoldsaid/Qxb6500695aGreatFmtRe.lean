/-
  CrashKeepsSyncedOrPicked: THE ROW AND THE CARD.
-/
import Derived.Test.Qxb6500695aGreatFmtRc
import Derived.Test.Qxb6500695aGreatFmtKw
import Derived.Test.Qxb6500695aGreatFmtTie
import Derived.Test.Qxb6500695aGreatFmtCards
import Derived.Stop.JoinedTold
import Derived.SevenTiedAt
import Derived.SevenToldRow
import Derived.Deep.DeepWitnessRef
namespace Go.Proofs.Qxb6500695aGreatFmt
open Go Go.Eng Go.Proofs Go.ChangeShapes Go.WideShapes Go.ChangeAt Go.RowKit
open Go.Extern.Stop Go.Stop Go.Extern
set_option maxRecDepth 100000
set_option linter.unusedVariables false
set_option linter.unusedSimpArgs false
set_option linter.unusedSectionVars false

theorem crk_lifted (os : Os) (started : os.Started) (H : Type) (enc : TypeId × Value → H) :
    ReturnsInTold none {} Tryz.checked os 3 .any Input.okWide ((OpenSpec.ofChange Rows.crashKeepsSyncedOrPickedSpec).preRow enc Tryz.prog Tryz.f3 [] false laidL) (fun F => ((OpenSpec.ofChange Rows.crashKeepsSyncedOrPickedSpec).at F).post enc Tryz.prog Tryz.f3 false true false false) (aloneAtReturn Tryz.prog) nothingAlways := by
  refine returnsInTold_of_row (C := Tryz.checked) (s := OpenSpec.ofChange Rows.crashKeepsSyncedOrPickedSpec) (by kernel_rfl) own_ started (by kernel_rfl) Tryz.func3
    (OpenSpec.witness_stopped_atRef (enc := enc) (C := Tryz.checked) (os := os) false ({ World.holding Tryz.prog os ⟨#[], #[], []⟩ with heap := (varsWorld Tryz.prog 166 (varsId Tryz.prog) os (fun _ _ => 0)).heap }) #[.slice none 0 0] rfl (by kernel_rfl) (by kernel_rfl) (by kernel_rfl)
      (OpenSpec.preRow_of_B rfl 8 (by kernel_rfl) (by kernel_rfl) (met_door os _))) ?_
  intro F W base args ds gs before _ _ hval0 hW _ _ hwt hL _
  have hW' := hW
  obtain ⟨p, q, hA0, hV0, rfl, hfz, hnd⟩ := hW
  have hA : DataW.TrodAll enc Tryz.prog W 0 (fun _ => true) true Tryz.f3.params.toList args.toList ds p := hA0
  rw [Tryz.params3] at hA
  obtain ⟨v0, d0, hargs, rfl, h0⟩ := trodAll_one hA
  obtain ⟨rfl, rfl⟩ := trodVars_none hV0
  have hlt : ∀ x ∈ p, x.block < W.heap.size := fun x hx => hW'.lt x (List.mem_append_left _ hx)
  have h0k := h0
  obtain ⟨fuel, h0⟩ := h0
  have hwt' : (d0.weights Tryz.prog 22).all (· ≤ reachBytes) = true := by
    have h1 : (DataW.weightsEach Tryz.prog [22] [d0]).all (· ≤ reachBytes) = true := hwt
    simpa [DataW.weightsEach] using h1
  obtain ⟨q, n, c, ops, hcs, hs⟩ := open_ops h0 hwt'
  have hv0 : v0 = .slice q n c := by
    have ho : Value.okWide Tryz.prog W .any base 22 v0 := hval0 0 22 v0 (by rw [show Tryz.f3.params = #[22] from Tryz.params3]; rfl) (by rw [hargs]; rfl)
    exact slice_of_ok ho hcs
  subst hv0
  subst hargs
  have hgl := globs_of hL
  refine (below_of (f3_ht (sc := c) (gRo_ok W) hgl.1 hgl.2 hs)).mono fun e W' ⟨he, hb⟩ => ⟨_, he, ?_⟩
  refine ⟨_, _, _, [], p, [], hW', ?_, ?_, rfl, hb.frame _, fun h => by cases h⟩
  · exact trodAll_mk1 (shut_bool Tryz.underlying4 _)
  · exact trodAll_mk1 (Below.trod laidOut_ (by kernel_rfl) (of_decide_eq_true (by kernel_rfl)) h0k hb hlt)

theorem crk_in : Rows.crashKeepsSyncedOrPickedRow.inPlace = Tryz.pinned.checked.prog.inPlace 3 := by kernel_rfl
theorem crk_op : Rows.crashKeepsSyncedOrPickedRow.unfollowed = Tryz.pinned.checked.prog.unfollowed 3 := by kernel_rfl
theorem crk_rc : Rows.crashKeepsSyncedOrPickedRow.recurses = Tryz.pinned.checked.prog.recurses 3 := by kernel_rfl
theorem crk_vs : Rows.crashKeepsSyncedOrPickedRow.named = Tryz.pinned.checked.prog.varsNamed 3 := by kernel_rfl
theorem crk_goes : false = Rows.crashKeepsSyncedOrPickedRow.goesBy Tryz.pinned.checked.prog := by kernel_rfl
theorem crk_wf : Rows.crashKeepsSyncedOrPickedRow.wfByText (OpenSpec.ofChange Rows.crashKeepsSyncedOrPickedSpec) = true := by kernel_rfl
theorem crk_rowed : mapsRowed Tryz.pinned.checked.prog = true := by kernel_rfl
theorem crk_word : Tryz.pinned.checked.prog.envWorded = true := by kernel_rfl
theorem crk_heard : Tryz.pinned.checked.prog.stopsHeard = true := by kernel_rfl
theorem crk_enter : Tryz.pinned.checked.prog.mayEnter = true := by kernel_rfl
theorem crk_keys : Rows.crashKeepsSyncedOrPickedRow.plainKeys = Tryz.pinned.checked.prog.plainKeys := by kernel_rfl
theorem crk_lift : Rows.crashKeepsSyncedOrPickedRow.lifted = Tryz.pinned.checked.prog.liftsFinal := by kernel_rfl
theorem crk_tie : namedTie Tryz.pinned.checked.prog Rows.crashKeepsSyncedOrPickedRow.namedList (OpenSpec.ofChange Rows.crashKeepsSyncedOrPickedSpec).vars = true := by kernel_rfl
theorem crk_fn : Tryz.pinned.checked.prog.funcNamed Rows.crashKeepsSyncedOrPickedRow.func = some 3 := by kernel_rfl
theorem crk_main : Tryz.pinned.checked.prog.mainIs = some (true, "30c3a6a10f40a0d7bff2b93a6a5ef78703025c8df68b3cde09243db0a3596da9".toList) := by kernel_rfl
theorem crk_looks : true = Tryz.pinned.checked.prog.looks [] := by kernel_rfl

theorem crashKeepsSyncedOrPicked_card : Rows.CrashKeepsSyncedOrPickedToldSaid :=
  Claim7.holds_of_told_tied_any_at .later 3 Tryz.f3 "fmt.errorf" [] [] (true, "30c3a6a10f40a0d7bff2b93a6a5ef78703025c8df68b3cde09243db0a3596da9") true false [.sentinel, .sentinel, .sentinel, .sentinel, .sentinel, .sentinel, .sentinel, .sentinel, .data] true
    crk_wf rfl rfl rfl laidOut_ crk_rowed rfl ⟨rfl, rfl, rfl, rfl, rfl, rfl, rfl⟩ rfl rfl crk_tie crk_fn Tryz.func3 (by kernel_rfl)
    (of_decide_eq_true (by kernel_rfl)) (by unfold Func.isWrapper; rw [if_neg (of_decide_eq_false (by kernel_rfl))]; exact ⟨rfl, rfl⟩) stops_.symm rfl stopKnobs_.symm crk_word
    crk_in crk_op crk_rc crk_vs (by kernel_rfl) (by kernel_rfl) (by kernel_rfl) (by kernel_rfl) (by kernel_rfl) rfl (by kernel_rfl) rfl rfl
    rfl rfl
    rfl crk_main crk_looks (by kernel_rfl) (by decide) crk_goes crashKeepsSyncedOrPicked_row_tie
    (OpenClaim.moreEntering_of crk_enter (by kernel_rfl) crk_heard (by kernel_rfl) (by kernel_rfl) (by kernel_rfl) (by kernel_rfl) crk_keys crk_lift (by kernel_rfl))
    ⟨_, WideRow.started_initial, quiet_ _⟩
    (fun os started _ H enc _ => crk_lifted os started H enc)

end Go.Proofs.Qxb6500695aGreatFmt
