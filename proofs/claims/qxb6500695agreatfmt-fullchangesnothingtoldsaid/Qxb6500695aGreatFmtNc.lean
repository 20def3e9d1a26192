/-
  ANSWERS.
-/
import Derived.Test.Qxb6500695aGreatFmtNb
import Derived.Test.Qxb6500695aGreatFmtVf
namespace Go.Proofs.Qxb6500695aGreatFmt
open Go Go.Eng Go.Proofs
set_option maxRecDepth 100000
set_option linter.unusedVariables false
set_option linter.unusedSimpArgs false
set_option linter.unusedSectionVars false

abbrev ansV (e : Value) (n : Int) (dp : Option Addr) (dn dc : Nat) (np : Option Addr) (nn nc : Nat) (i1 i2 i3 i4 : Int) : Value :=
  .agg #[e, .int .i64 n, .slice dp dn dc, .slice np nn nc, .int .u64 i1, .int .i64 i2, .int .i64 i3, .int .i64 i4]

theorem build1 {x : Value} (hx : IsI x) : BuildIs Tryz.prog 54 #[(0, x)] (ansV x 0 none 0 0 none 0 0 0 0 0 0) := by
  rcases hx with rfl | ⟨t, y, rfl⟩
  · intro w; kernel_rfl
  · intro w; kernel_rfl

theorem build2 {x : Value} {n : Int} (hx : IsI x) : BuildIs Tryz.prog 54 #[(0, x), (1, .int .i64 n)] (ansV x n none 0 0 none 0 0 0 0 0 0) := by
  rcases hx with rfl | ⟨t, y, rfl⟩
  · intro w; kernel_rfl
  · intro w; kernel_rfl

theorem build3 {x : Value} {n : Int} {p : Option Addr} {pn pc : Nat} (hx : IsI x) : BuildIs Tryz.prog 54 #[(0, x), (1, .int .i64 n), (2, .slice p pn pc)] (ansV x n p pn pc none 0 0 0 0 0 0) := by
  rcases hx with rfl | ⟨t, y, rfl⟩
  · intro w; kernel_rfl
  · intro w; kernel_rfl

theorem build4 {x : Value} {a b c d : Int} (hx : IsI x) : BuildIs Tryz.prog 54 #[(0, x), (4, .agg #[.int .u64 a, .int .i64 b, .int .i64 c, .int .i64 d])] (ansV x 0 none 0 0 none 0 0 a b c d) := by
  rcases hx with rfl | ⟨t, y, rfl⟩
  · intro w; kernel_rfl
  · intro w; kernel_rfl

theorem build5 {x : Value} {p : Option Addr} {pn pc : Nat} (hx : IsI x) : BuildIs Tryz.prog 54 #[(0, x), (3, .slice p pn pc)] (ansV x 0 none 0 0 p pn pc 0 0 0 0) := by
  rcases hx with rfl | ⟨t, y, rfl⟩
  · intro w; kernel_rfl
  · intro w; kernel_rfl

theorem isI_one {x : Value} (hx : IsI x) : x.oneCell' = true := by
  rcases hx with rfl | ⟨t, y, rfl⟩ <;> rfl

theorem errV.isI {H : Heap} {g : Gh} {E : Nat → Value} {v : Value} (hG : Gl H g E) (h : errV E v) : IsI v := by
  rcases h with rfl | ⟨b, hb, h5, rfl⟩
  · exact .inl rfl
  · exact (isI_E hG b hb h5).1

end Go.Proofs.Qxb6500695aGreatFmt
