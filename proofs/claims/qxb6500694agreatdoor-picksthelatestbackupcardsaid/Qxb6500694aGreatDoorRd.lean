/-
  PicksTheLatestBackup: THE ROW AND THE CARD.
-/
import Derived.Test.Qxb6500694aGreatDoorRb
import Derived.Test.Qxb6500694aGreatDoorPd
import Derived.Test.Qxb6500694aGreatDoorTie
import Derived.Test.Qxb6500694aGreatDoorCards
import Derived.SevenTiedAt
namespace Go.Proofs.Qxb6500694aGreatDoor
open Go Go.Eng Go.Proofs Go.ChangeShapes Go.WideShapes Go.ChangeAt Go.RowKit
set_option maxRecDepth 100000
set_option linter.unusedVariables false
set_option linter.unusedSimpArgs false
set_option linter.unusedSectionVars false

theorem picks_lifted (os : Os) (started : os.Started) (H : Type) (enc : TypeId × Value → H) :
    ReturnsInHanded {} Tryz.checked os 8 .any (fun w args => (Rows.picksTheLatestBackupSpec.pre enc Tryz.prog Tryz.f8 [] false w args ∧ laidMetH Tryz.prog Rows.picksTheLatestBackupRow.laid w) ∧ sizedMet enc Tryz.prog Tryz.f8 (OpenSpec.ofChange Rows.picksTheLatestBackupSpec) false w args)
      (Rows.picksTheLatestBackupSpec.post enc Tryz.prog Tryz.f8 false true false false) := by
  refine returnsInHanded_of_change_and (C := Tryz.checked) (X := fun w _ => laidMetH Tryz.prog Rows.picksTheLatestBackupRow.laid w) (fun _ _ _ hh h => h.of_heap hh) own_ started (by kernel_rfl) Tryz.func8
    (ChangeSpec.witness_shaped (enc := enc) (C := Tryz.checked) (os := os) (X := fun w _ => laidMetH Tryz.prog Rows.picksTheLatestBackupRow.laid w) false ({ World.holding Tryz.prog os ⟨#[], #[], []⟩ with heap := (varsWorld Tryz.prog 237 (varsId Tryz.prog) os (fun _ _ => 0)).heap }) #[.slice none 0 0] 8 rfl (World.shaped_of_RefB (by kernel_rfl) (by kernel_rfl)) (by kernel_rfl) (by kernel_rfl) (by kernel_rfl) (met_door os _)) ?_
  intro W base args ds gs before hval0 hW _ hwt hL _
  have hW' := hW
  obtain ⟨p, q, hA0, hV0, rfl, hfz, hnd⟩ := hW
  have hA : DataW.TrodAll enc Tryz.prog W 0 (fun _ => true) true Tryz.f8.params.toList args.toList ds p := hA0
  rw [Tryz.params8] at hA
  obtain ⟨v0, d0, hargs, rfl, h0⟩ := trodAll_one hA
  obtain ⟨rfl, rfl⟩ := trodVars_none hV0
  have hlt : ∀ x ∈ p, x.block < W.heap.size := fun x hx => hW'.lt x (List.mem_append_left _ hx)
  have h0k := h0
  obtain ⟨fuel, h0⟩ := h0
  have hwt' : (d0.weights Tryz.prog 22).all (· ≤ reachBytes) = true := by
    have h1 : (DataW.weightsEach Tryz.prog [22] [d0]).all (· ≤ reachBytes) = true := hwt
    simpa [DataW.weightsEach] using h1
  obtain ⟨q, n, c, ops, hcs, hr, hops⟩ := open_ops h0 hwt'
  have hv0 : v0 = .slice q n c := by
    have ho : Value.okWide Tryz.prog W .any base 22 v0 := hval0 0 22 v0 (by rw [show Tryz.f8.params = #[22] from Tryz.params8]; rfl) (by rw [hargs]; rfl)
    exact slice_of_ok ho hcs
  subst hv0
  subst hargs
  refine (below_of (f8_ht (qc := c) (globs_of hL) hr hops)).mono fun e W' ⟨he, hb⟩ => ⟨_, he, ?_⟩
  refine ⟨_, _, _, [], p, [], hW', ?_, ?_, rfl, hb.frame _, fun h => by cases h⟩
  · exact trodAll_mk1 (shut_bool Tryz.underlying4 _)
  · exact trodAll_mk1 (Below.trod laidOut_ (by kernel_rfl) (of_decide_eq_true (by kernel_rfl)) h0k hb hlt)

theorem picks_holds : Rows.PicksTheLatestBackupSaid :=
  OpenClaim.holds_of_wide 8 Tryz.f8 rfl rfl rfl rfl rfl rfl rfl ⟨rfl, rfl, rfl, rfl, rfl⟩ rfl rfl rfl rfl rfl (by kernel_rfl) Tryz.func8 (by kernel_rfl)
    (of_decide_eq_true (by kernel_rfl)) (by unfold Func.isWrapper; rw [if_neg (of_decide_eq_false (by kernel_rfl))]; exact ⟨rfl, rfl⟩)
    (fun os started H enc _ => picks_lifted os started H enc)

theorem picksTheLatestBackup_card : Rows.PicksTheLatestBackupCardSaid :=
  Claim7.holds_tied_plain_at .later [] [.sentinel, .sentinel, .sentinel, .sentinel, .sentinel, .sentinel] true (true, "12ca7caf09987377faa7f1c01252dbb18b9a5dbff192c984398ee3f7ebebcb04") true
    picks_holds (fun _ h => by cases h) (by kernel_rfl) (fun _ h => by cases h) picksTheLatestBackup_row_tie rfl ⟨rfl, rfl⟩ (by kernel_rfl) rfl
    (fun f fn hf hfn => by
      obtain rfl : f = 8 := Option.some.inj ((show Tryz.prog.funcNamed Rows.picksTheLatestBackupRow.func = some 8 by kernel_rfl).symm.trans hf) |>.symm
      obtain rfl : fn = Tryz.f8 := (Option.some.inj (Tryz.func8.symm.trans hfn)).symm
      exact ⟨by kernel_rfl, fun j t ht => by
        rw [Tryz.params8] at ht
        have h3 : t = 22 := by
          rcases j with _ | j
          · simpa using ht.symm
          · simp at ht
        subst h3
        exact (show Tryz.prog.wantsStandIn 22 = false by kernel_rfl)⟩)
    (by kernel_rfl)

end Go.Proofs.Qxb6500694aGreatDoor
