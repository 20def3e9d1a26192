/-
  THE PLANE, PART B: dirtyCount, durable, latest, firstSpan.
-/
import Derived.Test.Qxb6500695aGreatFmtXa
namespace Go.Proofs.Qxb6500695aGreatFmt
open Go Go.Eng Go.Proofs
set_option maxRecDepth 100000
set_option linter.unusedVariables false
set_option linter.unusedSimpArgs false
set_option linter.unusedSectionVars false

theorem binIs_quo {P : Program} {t : TypeId} {x y : Operand} {a b : Int} (hb : b ≠ 0) : BinIs P .quo t x y (.int .i64 a) (.int .i64 b) (.int .i64 (IntKind.wrap .i64 (a.tdiv b))) := by
  intro w
  simp [eqGuard, binOp, Op.intDiv, hb]

theorem binIs_rem {P : Program} {t : TypeId} {x y : Operand} {a b : Int} (hb : b ≠ 0) : BinIs P .rem t x y (.int .i64 a) (.int .i64 b) (.int .i64 (a.tmod b)) := by
  intro w
  simp [eqGuard, binOp, Op.intDiv, hb]

theorem wrapP {n : Nat} (h : n < 4611686018427387904) (h0 : 0 < n) : IntKind.wrap .i64 ((n : Int) - 1) = ((n - 1 : Nat) : Int) := by
  rw [wrapI] <;> omega

section
variable {H : Heap} {g : Gh} {e : Int} {pb ss ns bd : Nat} {P : Pl}

/-- Nothing is unsynced. -/
def Pl.clean (P : Pl) : Prop := ∀ i, P.cache i = []

theorem f99_ht (h : PlOk H g e pb ss ns bd P) : HT Tryz.prog 99 [.pointer (some ⟨pb, 0, none⟩)] H fun v H' => H' = H ∧ ∃ n : Nat, v = .int .i64 (n : Int) ∧ (n = 0 ↔ P.clean) := by
  obtain ⟨mp, mn, mc, r, ml, es, ck, h1, h2, h3, h4, h5, h6, h7, h8, h9⟩ := h.ex
  apply f99_of
  refine ⟨pb, 0, rfl, _, Cells.of h1 rfl, ?_⟩
  refine semOk_lenM Tryz.underlying61 h6 ⟨_, rfl, rfl, es.size, rfl, fun hz i => ?_, fun hc => ?_⟩
  · refine h9 i (iget_eq_none.2 fun en hen => ?_)
    have : es.toList = [] := List.eq_nil_of_length_eq_zero (by simpa using hz)
    rw [this] at hen; cases hen
  · cases hl : es.toList with
    | nil => simpa using congrArg List.length hl
    | cons en r =>
      have := (h8 en (by rw [hl]; exact List.mem_cons_self)).2.2.2.1
      rw [hc] at this
      simp at this

/-- What is durable in sector i. -/
def Pl.dur (P : Pl) (i : Nat) : Option (List Int) := (P.media[i]?).getD none

/-- What a reader sees in sector i. -/
def Pl.lat (P : Pl) (i : Nat) : Option (List Int) := match (P.cache (i : Int)).getLast? with
  | some v => v
  | none => P.dur i

theorem f133_ht (h : PlOk H g e pb ss ns bd P) {i : Nat} (hi : i < 2 ^ 32) : HT Tryz.prog 133 [.pointer (some ⟨pb, 0, none⟩), .int .i64 (i : Int)] H fun v H' => H' = H ∧ ∃ s : Sec, v = s.val ∧ SecV H g ss s (P.dur i) := by
  obtain ⟨mp, mn, mc, r, ml, es, ck, h1, h2, h3, h4, h5, h6, h7, h8, h9⟩ := h.ex
  have hlen := h2.own.len
  have hl2 := h3.len
  apply f133_of
  refine ⟨pb, 0, rfl, mp, mn, mc, Cells.of h1 rfl, fun hd => ?_, fun hd => ?_⟩
  · have hd := of_decide_eq_true hd
    obtain ⟨b, o, hp, hc⟩ := h2.own.cells (i := i) (by omega)
    refine ⟨pb, 0, rfl, mp, mn, mc, Cells.of h1 rfl, b, o, hp, by omega, by omega, _, _, _, hc, rfl, _, rfl, ?_⟩
    have := h3.get i (by omega) (by omega)
    unfold Pl.dur
    rw [List.getElem?_eq_getElem (by omega)]
    exact this
  · have hd := of_decide_eq_false hd
    refine ⟨rfl, Sec.nil, rfl, ?_⟩
    unfold Pl.dur
    rw [List.getElem?_eq_none (by omega)]
    exact rfl

theorem look_cache {r ck : Nat} {es : Array MapEntry} (h6 : H r = some (.map es ck)) (h7 : MapOk .i64 es ck) (h8 : ∀ en ∈ es.toList, CacheE H g e ss ns bd en P.cache) (h9 : ∀ i, iget es.toList i = none → P.cache i = []) (i : Int) :
    ∃ q n c l, LookIs Tryz.prog 61 r es ck (.int .i64 i) false (.slice q n c) ∧ OwnT H g (100 + i.toNat, e) 35 1 Sec.cs q n c l ∧ Secs H g ss l (P.cache i) ∧ (∀ v ∈ P.cache i, v ≠ none) ∧ (P.cache i).length ≤ bd := by
  have hlook := lookIs_int (P := Tryz.prog) (t := 61) (r := r) (c := ck) (n := i) (ok := false) (zero := .slice none 0 0) Tryz.underlying61 Tryz.underlying2 (inf := Tryz.t37) (by kernel_rfl) (by kernel_rfl) h7.1
  cases hg : iget es.toList i with
  | none =>
    simp only [lookV, hg] at hlook
    refine ⟨none, 0, 0, [], hlook, OwnT.nil Sec.size, ?_, ?_, ?_⟩
    · rw [h9 i hg]; trivial
    · rw [h9 i hg]; simp
    · rw [h9 i hg]; simp
  | some v =>
    obtain ⟨en, hen, hk, hv⟩ := iget_mem hg
    obtain ⟨k1, k2, k3, k4, k5, q, n, c, l, k6, k7, k8⟩ := h8 en hen
    rw [hk] at k3 k5 k7 k8
    rw [k6] at hv
    subst hv
    simp only [lookV, hg] at hlook
    exact ⟨q, n, c, l, hlook, k7, k8, k5, k3⟩

end

end Go.Proofs.Qxb6500695aGreatFmt
