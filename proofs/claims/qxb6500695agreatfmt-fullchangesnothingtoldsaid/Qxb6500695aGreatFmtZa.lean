/-
  NAMES, PART A: the order of strings; sort.SearchStrings.
-/
import Derived.Test.Qxb6500695aGreatFmtXa
import Derived.Test.Qxb6500695aGreatFmtEngQ
import Derived.Sort.Walk0
namespace Go.Proofs.Qxb6500695aGreatFmt
open Go Go.Eng Go.Proofs
set_option maxRecDepth 100000
set_option linter.unusedVariables false
set_option linter.unusedSimpArgs false
set_option linter.unusedSectionVars false

def Str.cs (s : ByteArray) : List Value := [.string s]
theorem Str.size (s : ByteArray) : (Str.cs s).length = 1 := rfl

/-- The bytes of a string. -/
def bl (s : ByteArray) : List UInt8 := s.data.toList

theorem bl_inj {a b : ByteArray} (h : bl a = bl b) : a = b := by
  cases a with
  | mk x => cases b with
    | mk y =>
      have : x.toList = y.toList := h
      have := Array.toList_inj.1 this
      rw [this]

theorem bl_tri {a b : ByteArray} (h1 : ¬ bl a < bl b) (h2 : ¬ bl b < bl a) : a = b :=
  bl_inj (List.le_antisymm (List.not_lt.1 h2) (List.not_lt.1 h1))

theorem binIs_str_geq {P : Program} {t : TypeId} {x y : Operand} {a b : ByteArray} : BinIs P .geq t x y (.string a) (.string b) (.bool (!decide (bl a < bl b))) := by
  intro w
  simp [eqGuard, binOp, Op.stringOp, bytesLess_eq, ByteArray.toList_eq, bl]

theorem binIs_str_eql {P : Program} {t : TypeId} {x y : Operand} {a b : ByteArray} : BinIs P .eql t x y (.string a) (.string b) (.bool (decide (a = b))) := by
  intro w
  have hd : (a.toList == b.toList) = decide (a = b) := by
    rw [ByteArray.toList_eq, ByteArray.toList_eq]
    by_cases h : a = b
    · subst h; simp
    · have : ¬ a.data.toList = b.data.toList := fun hc => h (bl_inj hc)
      simp [h]
      simpa using this
  simp [eqGuard, binOp, Op.stringOp, hd]

theorem binIs_shr1 {P : Program} {x y : Operand} {a : Nat} (ha : a < 2 ^ 62) : BinIs P .shr 218 x y (.int .u64 (a : Int)) (.int .u64 1) (.int .u64 ((a / 2 : Nat) : Int)) := by
  intro w
  have : Int.fdiv (a : Int) 2 = ((a / 2 : Nat) : Int) := by
    rw [Int.fdiv_eq_ediv_of_nonneg _ (by decide)]
    simp
  have hm : min 1 IntKind.u64.bits = 1 := rfl
  simp [eqGuard, binOp, Op.shift, this, hm]

/-- Strictly rising. -/
def Srt (l : List ByteArray) : Prop := l.Pairwise fun a b => bl a < bl b

/-- Where x stands, or would stand. -/
def Spot (xs : List ByteArray) (x : ByteArray) (k : Nat) : Prop := k ≤ xs.length ∧ (∀ i (h : i < xs.length), i < k → bl xs[i] < bl x) ∧ ∀ i (h : i < xs.length), k ≤ i → ¬ bl xs[i] < bl x

theorem Srt.nodup {xs : List ByteArray} (h : Srt xs) : xs.Nodup :=
  List.pairwise_iff_getElem.2 fun i j hi hj hij hc => by
    have h1 := List.pairwise_iff_getElem.1 h i j hi hj hij
    rw [hc] at h1
    exact List.lt_irrefl _ h1

theorem Srt.le {xs : List ByteArray} (h : Srt xs) {i j : Nat} (hj : j < xs.length) (hij : i ≤ j) {x : ByteArray} (hx : bl xs[j] < bl x) : bl (xs[i]'(by omega)) < bl x := by
  rcases Nat.lt_or_ge i j with h1 | h1
  · exact List.lt_trans (List.pairwise_iff_getElem.1 h i j (by omega) hj h1) hx
  · have : i = j := by omega
    subst this
    exact hx

section
variable {H : Heap}

theorem f179_ht {c0 c1 : Nat} {p : Option Addr} {n c : Nat} {xs : List ByteArray} {x : ByteArray} (h0 : Cells H c0 0 [.slice p n c]) (h1 : Cells H c1 0 [.string x]) (hr : ReadL H 1 Str.cs p n xs) {i : Nat} (hi : i < xs.length) :
    HT Tryz.prog 179 [.int .i64 (i : Int), .pointer (some ⟨c0, 0, none⟩), .pointer (some ⟨c1, 0, none⟩)] H fun v H' => H' = H ∧ v = .bool (!decide (bl xs[i] < bl x)) := by
  have hn := hr.len
  obtain ⟨b, o, hp, hc⟩ := hr.cells i hi
  apply f179_of
  refine ⟨p, n, c, h0, b, o, hp, by omega, by omega, xs[i], by simpa [Str.cs] using hc, x, h1, _, binIs_str_geq, rfl, rfl⟩

theorem f178_L1_ht {c0 c1 : Nat} {p : Option Addr} {n c : Nat} {xs : List ByteArray} {x : ByteArray} (h0 : Cells H c0 0 [.slice p n c]) (h1 : Cells H c1 0 [.string x]) (hr : ReadL H 1 Str.cs p n xs) (hs : Srt xs) (hb : xs.length < 2 ^ 32) :
    ∀ (d i j : Nat), j - i = d → i ≤ j → j ≤ xs.length → (∀ k (h : k < xs.length), k < i → bl xs[k] < bl x) → (∀ k (h : k < xs.length), j ≤ k → ¬ bl xs[k] < bl x) →
      f178_L1 c0 c1 (i : Int) (j : Int) H fun v H' => H' = H ∧ ∃ k : Nat, v = .int .i64 (k : Int) ∧ Spot xs x k := by
  intro d
  induction d using Nat.strongRecOn with
  | ind d ih =>
    intro i j hd hij hj ha hz
    apply f178_L1_of
    refine ⟨fun hlt => ?_, fun hlt => ?_⟩
    · have hlt := of_decide_eq_true hlt
      have hw1 : IntKind.wrap .i64 ((i : Int) + (j : Int)) = ((i + j : Nat) : Int) := by rw [wrapI] <;> omega
      have hw2 : IntKind.wrap .u64 ((i + j : Nat) : Int) = ((i + j : Nat) : Int) := by
        simp only [IntKind.wrap, IntKind.bits, IntKind.signed]
        simp
        omega
      have hw3 : IntKind.wrap .i64 (((i + j) / 2 : Nat) : Int) = (((i + j) / 2 : Nat) : Int) := by rw [wrapI] <;> omega
      generalize hm : (i + j) / 2 = m at *
      have hmi : i ≤ m := by omega
      have hmj : m < j := by omega
      refine ⟨(m : Int), ?_, ?_⟩
      · rw [hw1, hw2, ← hm]
        exact binIs_shr1 (by omega)
      rw [hw3]
      refine (f179_ht h0 h1 hr (i := m) (by omega)).mono fun v H' ⟨he, hv⟩ => ⟨_, hv, fun hb' => ?_, fun hb' => ?_⟩
      · subst he
        have hlt2 : bl xs[m] < bl x := by simpa using hb'
        rw [wrapS (by omega)]
        exact ih (j - (m + 1)) (by omega) (m + 1) j rfl (by omega) hj (fun k hk hkm => Srt.le hs (j := m) (by omega) (by omega) hlt2) hz
      · subst he
        have hge : ¬ bl xs[m] < bl x := by simpa using hb'
        exact ih (m - i) (by omega) i m rfl (by omega) (by omega) ha fun k hk hmk hc => hge (Srt.le hs hk hmk hc)
    · have hlt := of_decide_eq_false hlt
      have : i = j := by omega
      subst this
      apply f178_L2_of
      exact ⟨rfl, i, rfl, hj, ha, hz⟩

theorem f130_ht {p : Option Addr} {n c : Nat} {xs : List ByteArray} {x : ByteArray} (hr : ReadL H 1 Str.cs p n xs) (hs : Srt xs) (hb : xs.length < 2 ^ 32) :
    HT Tryz.prog 130 [.slice p n c, .string x] H fun v H' => Sub H H' ∧ ∃ k : Nat, v = .int .i64 (k : Int) ∧ Spot xs x k := by
  apply f130_of
  intro b2 H1 ha1 b3 H2 ha2
  have hn := hr.len
  have hs2 : Sub H H2 := fun b o hb => ha2.keep (ha1.keep hb)
  refine ⟨p, n, c, Cells.of (ha2.keep ha1.same) rfl, ?_⟩
  have key : HT Tryz.prog 178 [.int .i64 (n : Int), .func (.func 179) #[] #[.pointer (some ⟨b2, 0, none⟩), .pointer (some ⟨b3, 0, none⟩)]] H2 fun v H' => H' = H2 ∧ ∃ k : Nat, v = .int .i64 (k : Int) ∧ Spot xs x k :=
    f178_of _ _ _ (f178_L1_ht (H := H2) (c0 := b2) (c1 := b3) (p := p) (n := n) (c := c) (xs := xs) (x := x) (Cells.of (ha2.keep ha1.same) rfl) (Cells.of ha2.same rfl) (hr.sub hs2) hs hb n 0 n (by omega) (by omega) (by omega) (fun k _ hk => by omega) (fun k hk hk2 => by omega))
  refine key.mono fun v H3 ⟨he, k, hv, hk⟩ => ⟨_, hv, ?_, k, rfl, hk⟩
  subst he
  exact hs2

end

end Go.Proofs.Qxb6500695aGreatFmt
