/-
  NeverOverCapacity: THE ROW AND THE CARD.
-/
import Derived.Test.Qxb6500695aGreatFmtRb
import Derived.Test.Qxb6500695aGreatFmtTie
import Derived.Test.Qxb6500695aGreatFmtCards
import Derived.Stop.JoinedTold
import Derived.SevenTiedAt
import Derived.SevenToldRow
import Derived.Deep.DeepWitnessRef
namespace Go.Proofs.Qxb6500695aGreatFmt
open Go Go.Eng Go.Proofs Go.ChangeShapes Go.WideShapes Go.ChangeAt Go.RowKit
open Go.Extern.Stop Go.Stop Go.Extern
set_option maxRecDepth 100000
set_option linter.unusedVariables false
set_option linter.unusedSimpArgs false
set_option linter.unusedSectionVars false

theorem stops_ : Tryz.prog.stops = ["fmt.errorf"] := by kernel_rfl
theorem stopKnobs_ : Tryz.prog.stopKnobs = [] := by kernel_rfl
theorem quiet_ (os : Os) : Stop.quiet Tryz.pinned.checked.prog os := by
  intro k hk
  have h : k ∈ Tryz.prog.stopKnobs := hk
  rw [stopKnobs_] at h
  cases h

theorem cap_lifted (os : Os) (started : os.Started) (H : Type) (enc : TypeId × Value → H) :
    ReturnsInTold none {} Tryz.checked os 7 .any Input.okWide ((OpenSpec.ofChange Rows.neverOverCapacitySpec).preRow enc Tryz.prog Tryz.f7 [] false laidL) (fun F => ((OpenSpec.ofChange Rows.neverOverCapacitySpec).at F).post enc Tryz.prog Tryz.f7 false true false false) (aloneAtReturn Tryz.prog) nothingAlways := by
  refine returnsInTold_of_row (C := Tryz.checked) (s := OpenSpec.ofChange Rows.neverOverCapacitySpec) (by kernel_rfl) own_ started (by kernel_rfl) Tryz.func7
    (OpenSpec.witness_stopped_atRef (enc := enc) (C := Tryz.checked) (os := os) false ({ World.holding Tryz.prog os ⟨#[], #[], []⟩ with heap := (varsWorld Tryz.prog 166 (varsId Tryz.prog) os (fun _ _ => 0)).heap }) #[.slice none 0 0] rfl (by kernel_rfl) (by kernel_rfl) (by kernel_rfl)
      (OpenSpec.preRow_of_B rfl 8 (by kernel_rfl) (by kernel_rfl) (met_door os _))) ?_
  intro F W base args ds gs before _ _ hval0 hW _ _ hwt hL _
  have hW' := hW
  obtain ⟨p, q, hA0, hV0, rfl, hfz, hnd⟩ := hW
  have hA : DataW.TrodAll enc Tryz.prog W 0 (fun _ => true) true Tryz.f7.params.toList args.toList ds p := hA0
  rw [Tryz.params7] at hA
  obtain ⟨v0, d0, hargs, rfl, h0⟩ := trodAll_one hA
  obtain ⟨rfl, rfl⟩ := trodVars_none hV0
  have hlt : ∀ x ∈ p, x.block < W.heap.size := fun x hx => hW'.lt x (List.mem_append_left _ hx)
  have h0k := h0
  obtain ⟨fuel, h0⟩ := h0
  have hwt' : (d0.weights Tryz.prog 22).all (· ≤ reachBytes) = true := by
    have h1 : (DataW.weightsEach Tryz.prog [22] [d0]).all (· ≤ reachBytes) = true := hwt
    simpa [DataW.weightsEach] using h1
  obtain ⟨q, n, c, ops, hcs, hs⟩ := open_ops h0 hwt'
  have hv0 : v0 = .slice q n c := by
    have ho : Value.okWide Tryz.prog W .any base 22 v0 := hval0 0 22 v0 (by rw [show Tryz.f7.params = #[22] from Tryz.params7]; rfl) (by rw [hargs]; rfl)
    exact slice_of_ok ho hcs
  subst hv0
  subst hargs
  have hgl := globs_of hL
  refine (below_of (f7_ht (c := c) (gRo_ok W) hgl.1 hgl.2 hs)).mono fun e W' ⟨he, hb⟩ => ⟨_, he, ?_⟩
  refine ⟨_, _, _, [], p, [], hW', ?_, ?_, rfl, hb.frame _, fun h => by cases h⟩
  · exact trodAll_mk1 (shut_bool Tryz.underlying4 _)
  · exact trodAll_mk1 (Below.trod laidOut_ (by kernel_rfl) (of_decide_eq_true (by kernel_rfl)) h0k hb hlt)

theorem neverOverCapacity_card : Rows.NeverOverCapacityToldSaid :=
  Claim7.holds_of_told_tied_any_at .later 7 Tryz.f7 "fmt.errorf" [] [] (true, "30c3a6a10f40a0d7bff2b93a6a5ef78703025c8df68b3cde09243db0a3596da9") true false [.sentinel, .sentinel, .sentinel, .sentinel, .sentinel, .sentinel, .sentinel, .sentinel, .data] true
    (by kernel_rfl) rfl rfl rfl laidOut_ (by kernel_rfl) rfl ⟨rfl, rfl, rfl, rfl, rfl, rfl, rfl⟩ rfl rfl (by kernel_rfl) (by kernel_rfl) Tryz.func7 (by kernel_rfl)
    (of_decide_eq_true (by kernel_rfl)) (by unfold Func.isWrapper; rw [if_neg (of_decide_eq_false (by kernel_rfl))]; exact ⟨rfl, rfl⟩) stops_.symm rfl stopKnobs_.symm (by kernel_rfl)
    (by kernel_rfl) (by kernel_rfl) (by kernel_rfl) (by kernel_rfl) (by kernel_rfl) (by kernel_rfl) (by kernel_rfl) (by kernel_rfl) (by kernel_rfl) rfl (by kernel_rfl) rfl rfl
    rfl rfl
    rfl (by kernel_rfl) (by kernel_rfl) (by kernel_rfl) (by decide) (by kernel_rfl) neverOverCapacity_row_tie
    (OpenClaim.moreEntering_of (by kernel_rfl) (by kernel_rfl) (by kernel_rfl) (by kernel_rfl) (by kernel_rfl) (by kernel_rfl) (by kernel_rfl) (by kernel_rfl) (by kernel_rfl) (by kernel_rfl))
    ⟨_, WideRow.started_initial, quiet_ _⟩
    (fun os started _ H enc _ => cap_lifted os started H enc)

end Go.Proofs.Qxb6500695aGreatFmt
