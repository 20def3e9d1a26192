/-
  THE ENGINE, PART P: append of zeros (append(s, make([]T, k)...)).
-/
import Derived.Test.Qxb6500695aGreatFmtEngO
namespace Go.Eng
open Go
set_option linter.unusedVariables false
set_option linter.unusedSimpArgs false

theorem semOk_appendZ {P : Program} {t t2 T ty : TypeId} {inf : TypeInfo} {z : Value} {p : Option Addr} {n c k : Nat} {xs : List Value} {h : Heap} {K : Value → Heap → Prop}
    (ht : P.underlying t = some (.slice T)) (ht2 : P.underlying t2 = some (.int .i64)) (hi : P.info? T = some inf) (hz : inf.zero = some z) (hz1 : z.cells = #[z]) (hsz : inf.size = 1) (hz2 : z.oneCell' = true) (hby : inf.bytes ≤ 4096)
    (hs : Own h T inf.size p n c xs) (hn : n + k < 2 ^ 32) (hk : 0 < k)
    (H1 : ∀ b o arr h', p = some ⟨b, o, none⟩ → h b = some (.cells arr T (0, 0)) → o + (n + k) ≤ arr.size → n + k ≤ c →
      Wr h b (.cells (setAll arr (o + n) (List.replicate k z)) T (0, 0)) h' → K (.slice p (n + k) c) h')
    (H2 : ∀ c' b' h', n + k ≤ c' → Al h (.cells ((xs ++ List.replicate k z).toArray ++ Builtin.zeroCells z.cells (c' - (n + k))) T (0, 0)) b' h' → K (.slice (some ⟨b', 0, none⟩) (n + k) c') h') :
    SemOk P (Builtin.append_ #[t, t2] ty #[.slice p n c, .int .i64 (k : Int)]) h K := by
  intro w hw
  have hwk : IntKind.i64.wrap (k : Int) = k := by
    simp only [IntKind.wrap, IntKind.bits, IntKind.signed]
    simp
    omega
  have hk0 : ¬ ((k : Int) < 0) := by omega
  have hkb : ¬ (281474976710656 < (k : Int) * (inf.bytes : Int)) := by
    have h1 : k * inf.bytes ≤ k * 4096 := Nat.mul_le_mul_left _ hby
    have : (k : Int) * (inf.bytes : Int) = ((k * inf.bytes : Nat) : Int) := by simp
    rw [this]
    omega
  have hkne : ¬ (k = 0) := by omega
  have hzc : Builtin.zeroCells #[z] k = (List.replicate k z).toArray := by
    apply Array.ext'
    rw [zeroCells_one]
  by_cases hfit : n + k ≤ c
  · rcases hs with ⟨_, _, rfl, _⟩ | ⟨b, o, arr, rfl, hbk, hnc, hsz', rfl⟩
    · omega
    · rw [hsz] at hsz'
      have hle : o + (n + k) ≤ arr.size := by omega
      obtain ⟨w', hr, hstr, hheap⟩ := run_storeCells (P := P) (List.replicate k z) w (o + n) 0 arr (hw _ _ hbk) (by simp; omega) (by intro v hv; rw [List.eq_of_mem_replicate hv]; exact hz2)
      have key : (Builtin.append_ #[t, t2] ty #[.slice (some ⟨b, o, none⟩) n c, .int .i64 (k : Int)]).run P w = .ok (.slice (some ⟨b, o, none⟩) (n + k) c) w' := by
        unfold Builtin.append_
        simp [underlying, ht, ht2, sizeOf, typeInfo, hi, asInt, asIntOf, hwk, hk0, hkb, hfit, hsz, hkne, zeroValue, hz, hz1, hzc, addr_add, hr]
      rw [key]
      have hne : h b ≠ none := by simp [hbk]
      simp only [Nat.add_zero] at hheap
      refine ⟨upd h b (.cells (setAll arr (o + n) (List.replicate k z)) T (0, 0)), hstr, ?_, ?_, H1 b o arr _ rfl hbk hle hfit ⟨hne, rfl⟩⟩
      · rw [hheap]; exact hw.set _ (hw.lt hbk)
      · rw [hheap]; exact Fr.set _ hne
  · have hlt : c < n + k := by omega
    have hcap := nextslicecap_le hlt
    have hcap' : ¬ 2 ^ 48 < Builtin.nextslicecap (n + k) c * inf.bytes := by
      have h1 : Builtin.nextslicecap (n + k) c * inf.bytes ≤ 2 * (n + k) * 4096 := Nat.mul_le_mul hcap hby
      omega
    have hbig : ¬ IntKind.i64.max < (n : Int) + (k : Int) := by
      have h63 : IntKind.i64.max = 9223372036854775807 := by decide
      rw [h63]; omega
    have hmain : ∃ c' w', n + k ≤ c' ∧ (Builtin.append_ #[t, t2] ty #[.slice p n c, .int .i64 (k : Int)]).run P w = .ok (.slice (some ⟨w.heap.size, 0, none⟩) (n + k) c') w' ∧ Str w w' ∧
        w'.heap = w.heap.push (.cells ((xs ++ List.replicate k z).toArray ++ Builtin.zeroCells z.cells (c' - (n + k))) T (0, 0)) := by
      have hfx' : ∀ d, (Builtin.firstCells inf.size n (.slice p n c)).run P { w with drawn := d } = .ok xs.toArray { w with drawn := d } := fun d => run_firstCells (w := { w with drawn := d }) hs hw n c
      rw [hsz] at hfx'
      refine ⟨(Question.appendCap (n + k) c T).cut (w.tape w.drawn (.appendCap (n + k) c T)), { w with drawn := w.drawn + 1, heap := w.heap.push (.cells ((xs ++ List.replicate k z).toArray ++ Builtin.zeroCells z.cells ((Question.appendCap (n + k) c T).cut (w.tape w.drawn (.appendCap (n + k) c T)) - (n + k))) T (0, 0)) }, ?_, ?_, ⟨rfl, rfl, rfl⟩, rfl⟩
      · simp [Question.cut]
      unfold Builtin.append_
      simp [underlying, ht, ht2, sizeOf, typeInfo, hi, asInt, asIntOf, hwk, hk0, hkb, hfit, hsz, hkne, hcap', hbig, Question.forced, hfx', zeroValue, hz, hz1, hzc, newRow]
      have hcat : (xs ++ List.replicate k z).toArray = xs.toArray ++ Array.replicate k z := by
        apply Array.ext'
        simp
      rw [hcat, Array.append_assoc]
    obtain ⟨c', w', hc', hrun, hstr, hheap⟩ := hmain
    rw [hrun]
    refine ⟨upd h w.heap.size (.cells ((xs ++ List.replicate k z).toArray ++ Builtin.zeroCells z.cells (c' - (n + k))) T (0, 0)), hstr, ?_, ?_, H2 c' _ _ hc' ⟨hw.fresh, rfl⟩⟩
    · rw [hheap]; exact hw.push _
    · rw [hheap]; exact Fr.push _

end Go.Eng
