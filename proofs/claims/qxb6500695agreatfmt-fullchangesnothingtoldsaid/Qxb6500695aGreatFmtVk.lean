import Derived.Test.Qxb6500695aGreatFmtVa
import Derived.Test.Qxb6500695aGreatFmtEngJ
namespace Go.Proofs.Qxb6500695aGreatFmt
open Go Go.Eng Go.Proofs
set_option maxRecDepth 100000
set_option linter.unusedVariables false

abbrev f180s_pre (s0 : ByteArray) (prefix1 : ByteArray) (h : Heap) (R : Value → Heap → Prop) : Prop :=
  (decide ((s0.size : Int) ≥ (prefix1.size : Int)) = true → ∃ (x14 : ByteArray), SliceIs Tryz.prog 9 (.string s0) none (some (.int .i64 ((prefix1.size : Int)))) none (.string x14) ∧ (∃ (x16 : Bool), BinIs Tryz.prog .eql 9 (.tmp 14) (.tmp 15) (.string x14) (.string prefix1) (.bool x16) ∧ (R (.bool x16) h))) ∧ (decide ((s0.size : Int) ≥ (prefix1.size : Int)) = false → R (.bool false) h)

theorem f180s_of (s0 : ByteArray) (prefix1 : ByteArray) {h : Heap} {R : Value → Heap → Prop} (H : f180s_pre s0 prefix1 h R) : HT Tryz.prog 180 [.string s0, .string prefix1] h R :=
  call_of_plan Tryz.func180 mixed (by decide) 38 [(1, []), (1, []), (14, [0]), (1, []), (1, []), (1, []), (14, [0]), (14, [0]), (14, [0]), (14, [0]), (14, [0]), (14, [0]), (6, [10, 10]), (14, [0]), (14, [0]), (14, [0]), (14, [8, 9]), (14, [0]), (14, [6, 8]), (14, [0]), (14, [0]), (1, []), (3, []), (5, []), (5, []), (5, []), (5, []), (5, []), (5, []), (14, [0]), (14, [0]), (1, []), (3, [])] [none, none, none, none, none, none, none, none, none, none, none, none, none, none, none, none, none, none] (X := f180s_pre s0 prefix1 h R) (c := Tryz.f180.body.getD .skip) (by kernel_rfl) (by kernel_rfl) (by kernel_rfl) (by kernel_rfl) (by kernel_rfl) H

end Go.Proofs.Qxb6500695aGreatFmt
