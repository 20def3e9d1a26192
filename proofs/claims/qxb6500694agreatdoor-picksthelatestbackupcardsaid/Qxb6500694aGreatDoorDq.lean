/-
  THE WORLD, PART Q: Adopt: its loops.
-/
import Derived.Test.Qxb6500694aGreatDoorDo
import Derived.Test.Qxb6500694aGreatDoorDp
import Derived.Test.Qxb6500694aGreatDoorVg
namespace Go.Proofs.Qxb6500694aGreatDoor
open Go Go.Eng Go.Proofs
set_option maxRecDepth 100000
set_option linter.unusedVariables false
set_option linter.unusedSimpArgs false
set_option linter.unusedSectionVars false

def pagesC (f : Nat → Int) : Array Value :=
  #[.int .u64 (f 0), .int .u64 (f 1), .int .u64 (f 2), .int .u64 (f 3), .int .u64 (f 4), .int .u64 (f 5), .int .u64 (f 6), .int .u64 (f 7), .int .u64 (f 8), .int .u64 (f 9), .int .u64 (f 10), .int .u64 (f 11)]

theorem pagesC_set {f : Nat → Int} {j : Nat} (hj : j < 12) (x : Int) : setAll (pagesC f) j [.int .u64 x] = pagesC (fset f j x) := by
  obtain rfl | rfl | rfl | rfl | rfl | rfl | rfl | rfl | rfl | rfl | rfl | rfl : j = 0 ∨ j = 1 ∨ j = 2 ∨ j = 3 ∨ j = 4 ∨ j = 5 ∨ j = 6 ∨ j = 7 ∨ j = 8 ∨ j = 9 ∨ j = 10 ∨ j = 11 := by omega
  all_goals rfl

theorem keySplit {k : Int} (h0 : 0 ≤ k) (h1 : k < 8) : ∃ q r : Nat, q < 4 ∧ r < 2 ∧ IntKind.wrap .i64 (Int.tdiv k 2) = (q : Int) ∧ Int.tmod k 2 = (r : Int) := by
  obtain rfl | rfl | rfl | rfl | rfl | rfl | rfl | rfl : k = 0 ∨ k = 1 ∨ k = 2 ∨ k = 3 ∨ k = 4 ∨ k = 5 ∨ k = 6 ∨ k = 7 := by omega
  · exact ⟨0, 0, by decide, by decide, by decide, by decide⟩
  · exact ⟨0, 1, by decide, by decide, by decide, by decide⟩
  · exact ⟨1, 0, by decide, by decide, by decide, by decide⟩
  · exact ⟨1, 1, by decide, by decide, by decide, by decide⟩
  · exact ⟨2, 0, by decide, by decide, by decide, by decide⟩
  · exact ⟨2, 1, by decide, by decide, by decide, by decide⟩
  · exact ⟨3, 0, by decide, by decide, by decide, by decide⟩
  · exact ⟨3, 1, by decide, by decide, by decide, by decide⟩

def pd0 (br τ : Int) : PD := ⟨br, τ, 0, fun _ => none, fun _ => 0, fun _ => 0, none, 0, 0, none, 0, 0⟩

theorem index177 {f : Nat → Int} {i : Nat} (hi : i < 4) : IndexIs Tryz.prog 177 (.agg (pagesC f)) (.int .i64 (i : Int)) (.agg #[.int .u64 (f (3 * i)), .int .u64 (f (3 * i + 1)), .int .u64 (f (3 * i + 2))]) := by
  intro w
  obtain rfl | rfl | rfl | rfl : i = 0 ∨ i = 1 ∨ i = 2 ∨ i = 3 := by omega
  all_goals kernel_rfl

theorem f40_L1_ht {H : Heap} {w0 : Option Addr} {a par br : Int} {b18 b5 : Nat} (h18 : H b18 = none) (h5 : H b5 = none) (hne : b18 ≠ b5) {q : Option Addr} {qn qc : Nat} {zs : List Com} (hok : ∀ x ∈ zs, x.ok H) (hqn : qn < 2 ^ 34) {R : Value → Heap → Prop}
    (fin : ∀ (τ : Int) (f : Nat → Int) (h : Heap), Sub H h → h b18 = some (.cells (pd0 br τ).cells 169 (0, 0)) →
      f40_L4 w0 a par br (some ⟨b18, 0, none⟩) (f 0) (f 1) (f 2) (f 3) (f 4) (f 5) (f 6) (f 7) (f 8) (f 9) (f 10) (f 11) 0 h R) :
    ∀ (k i : Nat) (τ : Int) (f : Nat → Int) (h : Heap), i + k = qn → Sub H h → Coms h q qn qc zs → h b18 = some (.cells (pd0 br τ).cells 169 (0, 0)) → h b5 = some (.cells (pagesC f) 177 (0, 0)) →
      f40_L1 w0 a par br (some ⟨b18, 0, none⟩) b5 q qn qc (qn : Int) (i : Int) h R := by
  intro k
  induction k with
  | zero =>
    intro i τ f h hi hs ho hb18 hb5
    apply f40_L1_of
    exact ⟨fun hd => absurd (of_decide_eq_true hd) (by omega), fun _ => ⟨f 0, f 1, f 2, f 3, f 4, f 5, f 6, f 7, f 8, f 9, f 10, f 11, Cells.of hb5 rfl, fin τ f h hs hb18⟩⟩
  | succ k ih =>
    intro i τ f h hi hs ho hb18 hb5
    have hlen := ho.len
    apply f40_L1_of
    refine ⟨fun _ => ?_, fun hd => absurd (of_decide_eq_false hd) (by simp; omega)⟩
    obtain ⟨b, o, hp, hc⟩ := ho.cells (i := i) (by omega)
    refine ⟨b, o, hp, by omega, by omega, _, _, _, _, _, _, _, _, hc, fun _ => ⟨b18, 0, rfl, _, _, hb18, by simp [PD.cells], fun h1 hw1 => ?_⟩⟩
    have hb18_1 : h1 b18 = some (.cells (pd0 br zs[i].time).cells 169 (0, 0)) := hw1.same
    have hb5_1 := hw1.keep hb5 (Ne.symm hne)
    have hs1 := hs.wr hw1 h18
    have ho1 : Coms h1 q qn qc zs := ho.keep fun a ha => hw1.other (own_ne ho hb18 (by intro arr h; cases h) a ha)
    obtain ⟨_, hsn, ss, hss, hkeys⟩ := hok _ (List.getElem_mem (l := zs) (n := i) (by omega))
    have hsl := hss.len
    have inner : ∀ (k2 j : Nat) (f : Nat → Int) (h : Heap), j + k2 = zs[i].sn → Sub H h → Coms h q qn qc zs → h b18 = some (.cells (pd0 br zs[i].time).cells 169 (0, 0)) → h b5 = some (.cells (pagesC f) 177 (0, 0)) →
        f40_L2 w0 a par br (some ⟨b18, 0, none⟩) b5 zs[i].lsn zs[i].time zs[i].sp zs[i].sn zs[i].sc zs[i].cp zs[i].cn zs[i].cc q qn qc (qn : Int) (i : Int) zs[i].sp zs[i].sn zs[i].sc (zs[i].sn : Int) (j : Int) h R := by
      intro k2
      induction k2 with
      | zero =>
        intro j f h hj hs ho hb18 hb5
        apply f40_L2_of
        refine ⟨fun hd => absurd (of_decide_eq_true hd) (by omega), fun _ => ?_⟩
        apply f40_L3_of
        unfold f40_L3_pre
        rw [wrapS (by omega)]
        exact ih (i + 1) _ f h (by omega) hs ho hb18 hb5
      | succ k2 ih2 =>
        intro j f h hj hs ho hb18 hb5
        apply f40_L2_of
        refine ⟨fun _ => ?_, fun hd => absurd (of_decide_eq_false hd) (by simp; omega)⟩
        obtain ⟨b2, o2, hp2, hc2⟩ := (hss.sub hs).cells j (by omega)
        have hk := hkeys _ (List.getElem_mem (l := ss) (n := j) (by omega))
        obtain ⟨qq, rr, hq4, hr2, hq, hr⟩ := keySplit hk.1 hk.2
        refine ⟨b2, o2, hp2, by omega, by omega, _, _, hc2, fun _ => ?_⟩
        rw [hq, hr]
        refine ⟨by omega, by omega, by omega, by omega, _, _, hb5, by simp [pagesC]; omega, fun h2 hw2 => ⟨by omega, by omega, ?_⟩⟩
        rw [show 0 + ((qq : Nat) : Int).toNat * 3 + 1 + ((rr : Nat) : Int).toNat * 1 = qq * 3 + 1 + rr by simp, pagesC_set (by omega)] at hw2
        refine ⟨_, _, hw2.same, by simp [pagesC]; omega, fun h3 hw3 => ?_⟩
        rw [show 0 + ((qq : Nat) : Int).toNat * 3 = qq * 3 by simp, pagesC_set (by omega)] at hw3
        rw [wrapS (by omega)]
        have hn5 := own_ne ho hb5 (by intro arr h; cases h)
        refine ih2 (j + 1) _ h3 (by omega) ((hs.wr hw2 h5).wr hw3 h5) ((ho.keep fun a ha => hw2.other (hn5 a ha)).keep fun a ha => hw3.other (hn5 a ha)) (hw3.keep (hw2.keep hb18 hne) hne) hw3.same
    exact inner zs[i].sn 0 f h1 (by omega) hs1 ho1 hb18_1 hb5_1

end Go.Proofs.Qxb6500694aGreatDoor
