/-
  THE ENGINE, PART N: make, slices of slices, quotients.
-/
import Derived.Test.Qxb6500695aGreatFmtEngM
namespace Go.Eng
open Go
set_option linter.unusedVariables false
set_option linter.unusedSimpArgs false

theorem range_map_one (z : Value) (n : Nat) : (Array.range n).map ((#[z] : Array Value)[· % (#[z] : Array Value).size]!) = Array.replicate n z := by
  apply Array.ext
  · simp
  · intro i h1 h2
    simp [Nat.mod_one]

/-- make([]T, l, c), elements of one cell. -/
theorem semOk_make {P : Program} {t T : TypeId} {inf : TypeInfo} {z : Value} {l c : Nat} {h : Heap} {K : Value → Heap → Prop}
    (ht : P.underlying t = some (.slice T)) (hi : P.info? T = some inf) (hz : inf.zero = some z) (hz1 : z.cells = #[z]) (hs : inf.size = 1) (hl : l ≤ c) (hc : c < 2 ^ 32) (hb : inf.bytes ≤ 4096)
    (H : ∀ b h', Al h (.cells (Array.replicate c z) T (0, 0)) b h' → K (.slice (some ⟨b, 0, none⟩) l c) h') :
    SemOk P (Instr.makeSlice t (.int .i64 (l : Int)) (.int .i64 (c : Int))) h K := by
  intro w hw
  have hwr : ∀ k : Nat, k < 2 ^ 32 → IntKind.i64.wrap (k : Int) = k := by
    intro k hk
    simp only [IntKind.wrap, IntKind.bits, IntKind.signed]
    simp
    omega
  have hwc := hwr c hc
  have hwl := hwr l (by omega)
  have hbig : ¬ ((281474976710656 : Int) < (inf.bytes : Int) * (c : Int)) := by
    have h1 : inf.bytes * c ≤ 4096 * c := Nat.mul_le_mul_right _ hb
    have : (inf.bytes : Int) * (c : Int) = ((inf.bytes * c : Nat) : Int) := by simp
    rw [this]
    omega
  have key : (Instr.makeSlice t (.int .i64 (l : Int)) (.int .i64 (c : Int))).run P w = .ok (.slice (some ⟨w.heap.size, 0, none⟩) l c) { w with heap := w.heap.push (.cells (Array.replicate c z) T (0, 0)) } := by
    unfold Instr.makeSlice
    by_cases h0 : c = 0
    · subst h0
      have hl0 : l = 0 := by omega
      subst hl0
      have hw0 : IntKind.i64.wrap 0 = 0 := by decide
      have hr0 : Array.range 0 = #[] := rfl
      simp [underlying, ht, sizeOf, typeInfo, hi, asInt, asIntOf, hw0, newRow, askRoom, zeroValue, hz, hs, hr0]
    · have hlc : ¬ ((c : Int) < (l : Int)) := by omega
      have hc0 : ¬ ((c : Int) < 0) := by omega
      have hl0 : ¬ ((l : Int) < 0) := by omega
      simp [underlying, ht, sizeOf, typeInfo, hi, asInt, asIntOf, hwc, hwl, hbig, newRow, askRoom, zeroValue, hz, hs, h0, hz1, hlc, hc0, hl0]
      rw [← range_map_one]
      simp
  rw [key]
  exact ⟨_, ⟨rfl, rfl, rfl⟩, hw.push _, Fr.push _, H _ _ ⟨hw.fresh, rfl⟩⟩

/-- x[:k] -/
theorem sliceIs_hi {P : Program} {t T : TypeId} {inf : TypeInfo} {p : Option Addr} {n c k : Nat} (ht : P.underlying t = some (.slice T)) (hi : P.info? T = some inf) (hk : k ≤ c) (hp : ∀ a, p = some a → a.spot = none) :
    SliceIs P t (.slice p n c) none (some (.int .i64 (k : Int))) none (.slice p k c) := by
  intro w
  unfold Instr.sliceAt Instr.slice
  have h1 : ¬ ((c : Int) < (k : Int)) := by omega
  cases p with
  | none => simp [underlying, ht, Instr.sliceBounds, Instr.sliceBound, sizeOf, typeInfo, hi, hk, asInt, asIntOf, h1]
  | some a => 
    have : a.add 0 = a := by simp [Addr.add]
    simp [underlying, ht, Instr.sliceBounds, Instr.sliceBound, sizeOf, typeInfo, hi, hk, asInt, asIntOf, h1, this]

end Go.Eng
