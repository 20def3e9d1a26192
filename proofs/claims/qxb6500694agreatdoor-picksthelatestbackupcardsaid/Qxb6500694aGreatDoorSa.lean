/-
  THE CLOSURES OF THE SORTS, walked by the kit's tactics (nothing turns but the draws).
-/
import Derived.Test.Qxb6500694aGreatDoorProg
import Derived.WalkKit
import Derived.Deep.QuietTactic
import Derived.Sort.Grow
namespace Go.Proofs.Qxb6500694aGreatDoor
open Go Go.Proofs Go.RowKit
set_option maxRecDepth 100000
set_option linter.unusedVariables false

set_option maxHeartbeats 2000000 in
theorem less62 (blk off c Bs size : Nat) (W : World) (G : Nat → Int) (hs : W.cell? ⟨Bs, 0, none⟩ = some (.slice (some ⟨blk, off, none⟩) size c))
    (hc : ∀ t, t < size → W.cell? ⟨blk, off + t * 6, none⟩ = some (.int .u64 (G t))) (i j : Nat) (hi : i < size) (hj : j < size) (_hsz : size < 4611686018427387904) :
    Calls Tryz.prog 62 #[.int .i64 i, .int .i64 j, .pointer (some ⟨Bs, 0, none⟩)] W fun e w' => e = .returned (.bool (decide (G i < G j))) ∧ ∃ q, w' = W.drewN q := by
  have ci := hc i hi
  have cj := hc j hj
  go_enter Tryz.func62, Tryz.ntmps62
  go_wp2
  go_quiet (fail)
  go_wp2
  go_ret
  exact ⟨rfl, nq, rfl⟩

set_option maxHeartbeats 2000000 in
theorem less72 (blk off c Bs size : Nat) (W : World) (G : Nat → Int) (hs : W.cell? ⟨Bs, 0, none⟩ = some (.slice (some ⟨blk, off, none⟩) size c))
    (hc : ∀ t, t < size → W.cell? ⟨blk, off + t, none⟩ = some (.int .u32 (G t))) (i j : Nat) (hi : i < size) (hj : j < size) (_hsz : size < 4611686018427387904) :
    Calls Tryz.prog 72 #[.int .i64 i, .int .i64 j, .pointer (some ⟨Bs, 0, none⟩)] W fun e w' => e = .returned (.bool (decide (G i < G j))) ∧ ∃ q, w' = W.drewN q := by
  have ci := hc i hi
  have cj := hc j hj
  go_enter Tryz.func72, Tryz.ntmps72
  go_wp2
  go_quiet (fail)
  go_wp2
  go_ret
  exact ⟨rfl, nq, rfl⟩

set_option maxHeartbeats 1000000 in
theorem nan106 (x : Int) (W : World) : Calls Tryz.prog 106 #[.int .u64 x] W fun e w' => e = .returned (.bool false) ∧ w' = W := by
  go_enter Tryz.func106, Tryz.ntmps106
  go_wp2
  go_ret
  exact ⟨by simp, rfl⟩

set_option maxHeartbeats 1000000 in
theorem nan107 (x : Int) (W : World) : Calls Tryz.prog 107 #[.int .u64 x] W fun e w' => e = .returned (.bool false) ∧ w' = W := by
  go_enter Tryz.func107, Tryz.ntmps107
  go_wp2
  go_ret
  exact ⟨by simp, rfl⟩

/-- cmp.Compare. -/
def cmpI (x y : Int) : Int := if x < y then -1 else if x > y then 1 else 0

set_option maxHeartbeats 1000000 in
theorem cmp89 (x y : Int) (W : World) : Calls Tryz.prog 89 #[.int .u64 x, .int .u64 y] W fun e w' => e = .returned (.int .i64 (cmpI x y)) ∧ w' = W := by
  go_enter Tryz.func89, Tryz.ntmps89
  go_wp2_with (go_at_call 106; refine (nan106 _ _).mono ?_; rintro e w' ⟨rfl, rfl⟩)
  all_goals go_ret
  all_goals (refine ⟨?_, rfl⟩; simp only [cmpI]; (try simp only [Int.not_lt] at *); repeat (first | rfl | (exfalso; omega) | split))

set_option maxHeartbeats 1000000 in
theorem cmp90 (x y : Int) (W : World) : Calls Tryz.prog 90 #[.int .u64 x, .int .u64 y] W fun e w' => e = .returned (.int .i64 (cmpI x y)) ∧ w' = W := by
  go_enter Tryz.func90, Tryz.ntmps90
  go_wp2_with (go_at_call 107; refine (nan107 _ _).mono ?_; rintro e w' ⟨rfl, rfl⟩)
  all_goals go_ret
  all_goals (refine ⟨?_, rfl⟩; simp only [cmpI]; (try simp only [Int.not_lt] at *); repeat (first | rfl | (exfalso; omega) | split))

/-- The order of MakePlan's candidates. -/
def cmpStop (s1 i1 s2 i2 : Int) : Int := if cmpI s2 s1 ≠ 0 then cmpI s2 s1 else cmpI i2 i1

set_option maxHeartbeats 4000000 in
theorem cmp88 (i1 p1 t1 a1 s1 : Int) (q1 : Option Addr) (n1 c1 : Nat) (i2 p2 t2 a2 s2 : Int) (q2 : Option Addr) (n2 c2 : Nat) (W : World) :
    Calls Tryz.prog 88 #[.agg #[.int .u64 i1, .int .u64 p1, .int .u32 t1, .int .u64 a1, .int .u64 s1, .slice q1 n1 c1], .agg #[.int .u64 i2, .int .u64 p2, .int .u32 t2, .int .u64 a2, .int .u64 s2, .slice q2 n2 c2]] W fun e w' =>
      e = .returned (.int .i64 (cmpStop s1 i1 s2 i2)) ∧ ∃ q os', w' = Sort.grow (W.drewN q) os' := by
  have h89 := fun W' => cmp89 s2 s1 W'
  have h90 := fun W' => cmp90 i2 i1 W'
  unfold cmpStop
  generalize cmpI s2 s1 = r at h89 ⊢
  generalize cmpI i2 i1 = r' at h90 ⊢
  go_enter Tryz.func88, Tryz.ntmps88
  go_wp2_with (first | (go_at_call 89; refine (h89 _).mono ?_; rintro e w' ⟨rfl, rfl⟩) | (go_at_call 90; refine (h90 _).mono ?_; rintro e w' ⟨rfl, rfl⟩))
  all_goals go_ret
  all_goals first | (exfalso; simp_all; done) | exact ⟨rfl, 0, _, by rw [Sort.alloc_eq_grow, Sort.alloc_eq_grow, Sort.grow_grow]; rfl⟩

end Go.Proofs.Qxb6500694aGreatDoor
