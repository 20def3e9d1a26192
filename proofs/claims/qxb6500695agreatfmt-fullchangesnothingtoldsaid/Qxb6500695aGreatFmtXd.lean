/-
  THE PLANE, PART D: slices of bytes; one sector's write.
-/
import Derived.Test.Qxb6500695aGreatFmtXc
namespace Go.Proofs.Qxb6500695aGreatFmt
open Go Go.Eng Go.Proofs
set_option maxRecDepth 100000
set_option linter.unusedVariables false
set_option linter.unusedSimpArgs false
set_option linter.unusedSectionVars false

def advP (p : Option Addr) (c k : Nat) : Option Addr := if c = k then p else p.map (·.add k)

theorem sliceIs_lo {t T : TypeId} {inf : TypeInfo} {p : Option Addr} {n c k : Nat} (ht : Tryz.prog.underlying t = some (.slice T)) (hi : Tryz.prog.info? T = some inf) (hsz : inf.size = 1) (hk : k ≤ n) :
    SliceIs Tryz.prog t (.slice p n c) (some (.int .i64 (k : Int))) none none (.slice (advP p c k) (n - k) (c - k)) := by
  intro w
  unfold Instr.sliceAt Instr.slice
  simp [underlying, ht, Instr.sliceBounds, Instr.sliceBound, sizeOf, typeInfo, hi, hk, asInt, asIntOf, hsz, advP]

theorem sliceIs_lohi {t T : TypeId} {inf : TypeInfo} {p : Option Addr} {n c k j : Nat} (ht : Tryz.prog.underlying t = some (.slice T)) (hi : Tryz.prog.info? T = some inf) (hsz : inf.size = 1) (hk : k ≤ j) (hj : j ≤ c) :
    SliceIs Tryz.prog t (.slice p n c) (some (.int .i64 (k : Int))) (some (.int .i64 (j : Int))) none (.slice (advP p c k) (j - k) (c - k)) := by
  intro w
  unfold Instr.sliceAt Instr.slice
  simp [underlying, ht, Instr.sliceBounds, Instr.sliceBound, sizeOf, typeInfo, hi, hk, hj, asInt, asIntOf, hsz, advP]

theorem sliceIs_hi' {t T : TypeId} {inf : TypeInfo} {p : Option Addr} {n c k : Nat} (ht : Tryz.prog.underlying t = some (.slice T)) (hi : Tryz.prog.info? T = some inf) (hk : k ≤ c) :
    SliceIs Tryz.prog t (.slice p n c) none (some (.int .i64 (k : Int))) none (.slice p k c) := by
  intro w
  have h0 : ∀ a : Addr, a.add 0 = a := fun a => by simp [Addr.add]
  unfold Instr.sliceAt Instr.slice
  cases p with
  | none => simp [underlying, ht, Instr.sliceBounds, Instr.sliceBound, sizeOf, typeInfo, hi, hk, asInt, asIntOf]
  | some a => simp [underlying, ht, Instr.sliceBounds, Instr.sliceBound, sizeOf, typeInfo, hi, hk, asInt, asIntOf, h0]

/-- A run of bytes to be read. -/
structure Src (H : Heap) (p : Option Addr) (n c : Nat) (bs : List Int) : Prop where
  len : n = bs.length
  nc : n ≤ c
  row : bs = [] ∨ ∃ b o, p = some ⟨b, o, none⟩ ∧ Cells H b o (bs.map fun x => .int .u8 x)

theorem Src.sub {H H' : Heap} {p : Option Addr} {n c : Nat} {bs : List Int} (h : Src H p n c bs) (hs : Sub H H') : Src H' p n c bs := by
  refine ⟨h.len, h.nc, ?_⟩
  rcases h.row with h1 | ⟨b, o, h1, h2⟩
  · exact .inl h1
  · exact .inr ⟨b, o, h1, hs.cells h2⟩

theorem Src.take {H : Heap} {p : Option Addr} {n c : Nat} {bs : List Int} (h : Src H p n c bs) {k : Nat} (hk : k ≤ n) : Src H p k c (bs.take k) := by
  have := h.len
  have := h.nc
  refine ⟨by simp; omega, by omega, ?_⟩
  rcases h.row with h1 | ⟨b, o, h1, h2⟩
  · left; rw [h1]; simp
  · right
    refine ⟨b, o, h1, ?_⟩
    have := h2.part 0 (vs := bs.map fun x => .int .u8 x) (us := (bs.take k).map fun x => .int .u8 x) ?_ ?_
    · simpa using this
    · simp
    · simp; omega

theorem Src.drop {H : Heap} {p : Option Addr} {n c : Nat} {bs : List Int} (h : Src H p n c bs) {k : Nat} (hk : k ≤ n) : Src H (advP p c k) (n - k) (c - k) (bs.drop k) := by
  have := h.len
  have := h.nc
  refine ⟨by simp; omega, by omega, ?_⟩
  by_cases hc : c = k
  · left; exact List.drop_eq_nil_of_le (by omega)
  · rcases h.row with h1 | ⟨b, o, h1, h2⟩
    · left; rw [h1]; simp
    · right
      refine ⟨b, o + k, ?_, ?_⟩
      · unfold advP
        rw [if_neg hc, h1]
        simp [addr_add]
      · have := h2.part k (vs := bs.map fun x => .int .u8 x) (us := (bs.drop k).map fun x => .int .u8 x) ?_ ?_
        · exact this
        · simp
          rw [List.take_of_length_le (by simp)]
        · simp; omega

end Go.Proofs.Qxb6500695aGreatFmt
