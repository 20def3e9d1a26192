/-
  THE WORLD, PART C: small operations; EncodePage.
-/
import Derived.Test.Qxb6500694aGreatDoorDb
namespace Go.Eng
open Go
set_option maxRecDepth 100000
set_option linter.unusedVariables false
set_option linter.unusedSimpArgs false

section
variable {P : Program} {t : TypeId} {x y : Operand}

theorem binIs_shr {k k' : IntKind} {a s : Int} (hs : 0 ≤ s) : ∃ r, BinIs P .shr t x y (.int k a) (.int k' s) (.int k r) := by
  refine ⟨a.fdiv (2 ^ min s.toNat k.bits), fun w => ?_⟩
  have h : ¬ s < 0 := by omega
  simp [eqGuard, binOp, Op.shift, h]

theorem binIs_shl {k k' : IntKind} {a s : Int} (hs : 0 ≤ s) : ∃ r, BinIs P .shl t x y (.int k a) (.int k' s) (.int k r) := by
  refine ⟨k.wrap (a * 2 ^ min s.toNat k.bits), fun w => ?_⟩
  have h : ¬ s < 0 := by omega
  simp [eqGuard, binOp, Op.shift, h]

theorem binIs_or {k : IntKind} {a b : Int} : ∃ r, BinIs P .or t x y (.int k a) (.int k b) (.int k r) := by
  refine ⟨k.wrap (BitVec.ofInt k.bits a ||| BitVec.ofInt k.bits b).toNat, fun w => ?_⟩
  simp [eqGuard, binOp, Op.intBits]

theorem binIs_rem {k : IntKind} {a b : Int} (hb : b ≠ 0) : BinIs P .rem t x y (.int k a) (.int k b) (.int k (a.tmod b)) := by
  intro w
  simp [eqGuard, binOp, Op.intDiv, hb]

theorem semOk_makeSlice {t T : TypeId} {inf : TypeInfo} {zero : Value} {c : Nat} {h : Heap} {K : Value → Heap → Prop}
    (ht : P.underlying t = some (.slice T)) (hi : P.info? T = some inf) (hz : inf.zero = some zero) (hc : c < 2 ^ 32) (hb : inf.bytes ≤ 4096) (hn : ¬ (c * inf.size = 0))
    (H : ∀ b arr h', arr.size = c * inf.size → Al h (.cells arr T (0, 0)) b h' → K (.slice (some ⟨b, 0, none⟩) 0 c) h') :
    SemOk P (Instr.makeSlice t (.int .i64 0) (.int .i64 (c : Int))) h K := by
  intro w hw
  have hwr : IntKind.i64.wrap (c : Int) = c := by
    simp only [IntKind.wrap, IntKind.bits, IntKind.signed]
    simp
    omega
  have hw0 : IntKind.i64.wrap 0 = 0 := by decide
  have hbig : ¬ ((281474976710656 : Int) < (inf.bytes : Int) * (c : Int)) := by
    have h1 : inf.bytes * c ≤ 4096 * c := Nat.mul_le_mul_right _ hb
    have : (inf.bytes : Int) * (c : Int) = ((inf.bytes * c : Nat) : Int) := by simp
    rw [this]
    omega
  have key : ∃ arr, arr.size = c * inf.size ∧ (Instr.makeSlice t (.int .i64 0) (.int .i64 (c : Int))).run P w = .ok (.slice (some ⟨w.heap.size, 0, none⟩) 0 c) { w with heap := w.heap.push (.cells arr T (0, 0)) } := by
    refine ⟨(Array.range (c * inf.size)).map (zero.cells[· % zero.cells.size]!), by simp, ?_⟩
    unfold Instr.makeSlice
    simp [underlying, ht, sizeOf, typeInfo, hi, asInt, asIntOf, hwr, hw0, hbig, newRow, askRoom, zeroValue, hz]
    rw [if_neg (by simp)]
    rw [if_neg hn]
  obtain ⟨arr, hs, hrun⟩ := key
  rw [hrun]
  refine ⟨upd h w.heap.size (.cells arr T (0, 0)), ⟨rfl, rfl, rfl⟩, ?_, ?_, H w.heap.size arr _ hs ⟨hw.fresh, rfl⟩⟩
  · exact hw.push _
  · exact Fr.push _

end

end Go.Eng

namespace Go.Proofs.Qxb6500694aGreatDoor
open Go Go.Eng Go.Proofs
set_option maxRecDepth 100000
set_option linter.unusedVariables false
set_option linter.unusedSimpArgs false
set_option linter.unusedSectionVars false

def U64.cs (x : Int) : List Value := [.int .u64 x]
theorem U64.size (x : Int) : (U64.cs x).length = 1 := rfl
def U8.cs (x : Int) : List Value := [.int .u8 x]
theorem U8.size (x : Int) : (U8.cs x).length = 1 := rfl

theorem sliceArr {b : Nat} : SliceIs Tryz.prog 174 (.pointer (some ⟨b, 0, none⟩)) none none none (.slice (some ⟨b, 0, none⟩) 2 2) := by
  intro w
  have h1 : Tryz.prog.underlying 174 = some (.array 2 26) := by kernel_rfl
  have h2 : Tryz.prog.info? 26 = some Tryz.t26 := by kernel_rfl
  unfold Instr.sliceAt
  simp [underlying, h1, Instr.sliceBounds, Instr.sureAddr, sizeOf, typeInfo, h2, Addr.add]

section
variable {H : Heap}

theorem f98_ht (lsn v0 v1 : Int) : HT Tryz.prog 98 [.int .u64 lsn, .agg #[.int .u64 v0, .int .u64 v1]] H fun v H' => Sub H H' ∧ ∃ p n c, v = .slice p n c := by
  apply f98_of
  intro b3 h1 ha1
  refine semOk_makeSlice (c := 24) (inf := Tryz.t5) (zero := .int .u8 0) Tryz.underlying31 (by kernel_rfl) (by kernel_rfl) (by decide) (by decide) (by decide) fun b9 arr h2 hsz ha2 => ⟨_, _, _, rfl, ?_⟩
  intro b11 h3 ha3
  refine ⟨_, _, _, sliceArr, ?_⟩
  have hs2 : Sub H h2 := ha1.sub.al ha2
  have hs3 : Sub h2 h3 := ha3.sub
  have ho : OwnL h3 26 1 U64.cs (some ⟨b11, 0, none⟩) 1 1 [lsn] := ⟨rfl, U64.size, .inr ⟨b11, 0, _, rfl, ha3.same, by omega, by simp, by simp [U64.cs]⟩⟩
  have hb3 : Cells h3 b3 0 ([v0, v1].flatMap U64.cs) := Cells.of (ha3.keep (ha2.keep ha1.same)) rfl
  refine appN (enc := U64.cs) (ys := [v0, v1]) (H0 := h2) (inf := Tryz.t26) (zero := .int .u64 0) Tryz.underlying191 (by kernel_rfl) (by kernel_rfl) rfl (by decide) rfl ho rfl (fun _ => ⟨b3, 0, rfl, hb3⟩) (by simp [U64.cs, Value.oneCell']) (by decide) hs3 (fun a h => by cases h; exact ha3.fresh) fun p4 c4 h4 a1 a2 a3 _ => ⟨p4, 3, c4, rfl, ?_⟩
  have hb9 : OwnL h4 5 1 U8.cs (some ⟨b9, 0, none⟩) 0 24 [] := by
    refine ⟨rfl, U8.size, .inr ⟨b9, 0, arr, rfl, a1 _ _ ha2.same, by omega, ?_, by simp⟩⟩
    rw [hsz]; decide
  have hnew9 : New H (some ⟨b9, 0, none⟩) := by
    intro a h
    cases h
    cases hc : H b9 with
    | none => rfl
    | some x => have := ha1.sub _ _ hc; rw [ha2.fresh] at this; cases this
  have loop : ∀ (k i : Nat) (p : Option Addr) (n c : Nat) (ys : List Int) (h : Heap), i + k = 3 → Sub H h → New H p → OwnL h 5 1 U8.cs p n c ys → n ≤ 8 * i → OwnL h 26 1 U64.cs p4 3 c4 [lsn, v0, v1] →
      f98_L1 p n c p4 3 c4 3 (i : Int) h fun v H' => Sub H H' ∧ ∃ p n c, v = .slice p n c := by
    intro k
    induction k with
    | zero =>
      intro i p n c ys h hi hs hnew ho hn h4o
      apply f98_L1_of
      exact ⟨fun hd => absurd (of_decide_eq_true hd) (by omega), fun _ => ⟨hs, _, _, _, rfl⟩⟩
    | succ k ih =>
      intro i p n c ys h hi hs hnew ho hn h4o
      apply f98_L1_of
      refine ⟨fun _ => ?_, fun hd => absurd (of_decide_eq_false hd) (by omega)⟩
      obtain ⟨b, o, hp, hc⟩ := h4o.cells (i := i) (by simp; omega)
      refine ⟨b, o, hp, by omega, by omega, _, hc, ?_⟩
      have inner : ∀ (k2 : Nat) (j : Int) (p : Option Addr) (n c : Nat) (ys : List Int) (h : Heap), (j + 1).toNat = k2 → -1 ≤ j → j ≤ 7 → Sub H h → New H p → OwnL h 5 1 U8.cs p n c ys → n + (j + 1).toNat ≤ 8 * (i + 1) → OwnL h 26 1 U64.cs p4 3 c4 [lsn, v0, v1] → ∀ x,
          f98_L2 p n c x j p4 3 c4 3 (i : Int) h fun v H' => Sub H H' ∧ ∃ p n c, v = .slice p n c := by
        intro k2
        induction k2 with
        | zero =>
          intro j p n c ys h hj hj1 hj7 hs hnew ho hn h4o x
          apply f98_L2_of
          refine ⟨fun hd => absurd (of_decide_eq_true hd) (by omega), fun _ => ?_⟩
          apply f98_L3_of
          unfold f98_L3_pre
          rw [wrapS (by omega)]
          exact ih (i + 1) p n c ys h (by omega) hs hnew ho (by omega) h4o
        | succ k2 ih2 =>
          intro j p n c ys h hj hj1 hj7 hs hnew ho hn h4o x
          apply f98_L2_of
          refine ⟨fun _ => ?_, fun hd => absurd (of_decide_eq_false hd) (by omega)⟩
          obtain ⟨r, hr⟩ := binIs_shr (P := Tryz.prog) (t := 26) (x := .tmp 24) (y := .tmp 27) (k := .u64) (k' := .u64) (a := x) (s := IntKind.wrap .u64 (8 * IntKind.wrap .u64 j)) (wrapU_in _).1
          refine ⟨r, hr, fun b30 h5 ha5 => ?_⟩
          refine app1 (enc := U8.cs) (x := IntKind.wrap .u8 r) (H0 := H) (inf := Tryz.t5) (zero := .int .u8 0) Tryz.underlying31 (by kernel_rfl) (by kernel_rfl) rfl (by decide) rfl ha5 rfl (by simp [U8.cs, Value.oneCell']) ho (by omega) hs hnew fun p' c' h6 a1 a2 a3 a4 => ⟨p', n + 1, c', rfl, ?_⟩
          rw [wrapI (by omega) (by omega)]
          refine ih2 (j - 1) p' (n + 1) c' _ h6 (by omega) (by omega) (by omega) a1 a2 a3 (by omega) (h4o.keep fun a ha => ?_) x
          obtain ⟨b2, o2, hp2, hc2⟩ := h4o.cells (i := 0) (by simp)
          rw [hp2] at ha; cases ha
          rcases h4o.own with ⟨hx, _⟩ | ⟨b', o', arr', hp', hb', _⟩
          · rw [hp2] at hx; cases hx
          · rw [hp2] at hp'; simp at hp'; obtain ⟨rfl, rfl⟩ := hp'
            simp only
            rw [hb']
            refine a4 _ _ hb' fun a ha hab => ?_
            rcases ho.own with ⟨hx, _⟩ | ⟨b5, o5, arr5, hp5, hb5, _⟩
            · rw [hx] at ha; cases ha
            · rw [hp5] at ha; cases ha
              simp only at hab
              rw [hab, hb'] at hb5; simp at hb5
      exact inner 8 7 p n c ys h (by decide) (by decide) (by decide) hs hnew ho (by simp; omega) h4o _
  exact loop 3 0 _ 0 24 [] h4 (by omega) (hs2.trans a1) hnew9 hb9 (by omega) a3

end

end Go.Proofs.Qxb6500694aGreatDoor
