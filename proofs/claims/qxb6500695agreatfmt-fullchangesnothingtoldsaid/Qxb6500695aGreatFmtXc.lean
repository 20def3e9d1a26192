/-
  THE PLANE, PART C: latest, firstSpan, blank.
-/
import Derived.Test.Qxb6500695aGreatFmtXb
namespace Go.Proofs.Qxb6500695aGreatFmt
open Go Go.Eng Go.Proofs
set_option maxRecDepth 100000
set_option linter.unusedVariables false
set_option linter.unusedSimpArgs false
set_option linter.unusedSectionVars false

section
variable {H : Heap} {g : Gh} {e : Int} {pb ss ns bd : Nat} {P : Pl}

theorem f129_ht (h : PlOk H g e pb ss ns bd P) (hbd : bd < 2 ^ 32) {i : Nat} (hi : i < 2 ^ 32) : HT Tryz.prog 129 [.pointer (some ⟨pb, 0, none⟩), .int .i64 (i : Int)] H fun v H' => H' = H ∧ ∃ s : Sec, v = s.val ∧ SecV H g ss s (P.lat i) := by
  obtain ⟨mp, mn, mc, r, ml, es, ck, h1, h2, h3, h4, h5, h6, h7, h8, h9⟩ := h.ex
  apply f129_of
  obtain ⟨q, n, c, l, hl1, hl2, hl3, hl4, hl5⟩ := look_cache h6 h7 h8 h9 (i : Int)
  have hlen := hl2.own.len
  have hlen2 := hl3.len
  refine ⟨pb, 0, rfl, _, Cells.of h1 rfl, r, es, ck, rfl, h6, q, n, c, hl1, fun hd => ?_, fun hd => ?_⟩
  · have hd := of_decide_eq_true hd
    obtain ⟨b, o, hp, hc⟩ := hl2.own.cells (i := n - 1) (by omega)
    rw [wrapP (by omega) (by omega)]
    refine ⟨b, o, hp, by omega, by omega, _, _, _, hc, rfl, l[n - 1], rfl, ?_⟩
    have := hl3.get (n - 1) (by omega) (by omega)
    unfold Pl.lat
    have hg : (P.cache (i : Int)).getLast? = some ((P.cache (i : Int))[n - 1]'(by omega)) := by
      rw [List.getLast?_eq_getElem?, List.getElem?_eq_getElem (by omega)]
      congr 2
      omega
    rw [hg]
    exact this
  · have hd := of_decide_eq_false hd
    refine (f133_ht h hi).mono fun v H' ⟨he, s, hv, hs⟩ => ⟨_, _, _, hv, he, s, rfl, ?_⟩
    unfold Pl.lat
    have hnil : P.cache (i : Int) = [] := List.eq_nil_of_length_eq_zero (by omega)
    rw [hnil]
    exact hs

def spanN (ss off len : Nat) : Nat := if len < ss - off % ss then len else ss - off % ss

theorem f128_ht (h : PlOk H g e pb ss ns bd P) {off len : Nat} (ho : off < 2 ^ 32) (hl : len < 2 ^ 32) :
    HT Tryz.prog 128 [.pointer (some ⟨pb, 0, none⟩), .int .i64 (off : Int), .int .i64 (len : Int)] H fun v H' => H' = H ∧ v = .agg #[.int .i64 ((off / ss : Nat) : Int), .int .i64 ((off % ss : Nat) : Int), .int .i64 ((spanN ss off len : Nat) : Int)] := by
  obtain ⟨mp, mn, mc, r, ml, es, ck, h1, h2, h3, h4, h5, h6, h7, h8, h9⟩ := h.ex
  have hss := h.ssb
  apply f128_of
  intro _
  have hne : (ss : Int) ≠ 0 := by omega
  have hrem : Int.tmod (off : Int) (ss : Int) = ((off % ss : Nat) : Int) := by
    rw [Int.tmod_eq_emod_of_nonneg (by omega)]; simp
  have hdiv : Int.tdiv (off : Int) (ss : Int) = ((off / ss : Nat) : Int) := by
    rw [Int.tdiv_eq_ediv_of_nonneg (by omega)]; simp
  have hq := binIs_quo (P := Tryz.prog) (t := 2) (x := .tmp 24) (y := .tmp 25) (a := (off : Int)) (b := (ss : Int)) hne
  have hr := binIs_rem (P := Tryz.prog) (t := 2) (x := .tmp 14) (y := .tmp 15) (a := (off : Int)) (b := (ss : Int)) hne
  have hlt : off % ss < ss := Nat.mod_lt _ hss.1
  have hdl : off / ss ≤ off := Nat.div_le_self _ _
  have hd0 : (0 : Int) ≤ ((off / ss : Nat) : Int) := Int.natCast_nonneg _
  have hd1 : ((off / ss : Nat) : Int) ≤ (off : Int) := by exact_mod_cast hdl
  generalize hdd : off / ss = dd at *
  rw [hdiv, wrapI (by omega) (by omega)] at hq
  rw [hrem] at hr
  have hw : IntKind.wrap .i64 ((ss : Int) - ((off % ss : Nat) : Int)) = ((ss - off % ss : Nat) : Int) := by rw [wrapI] <;> omega
  refine ⟨pb, 0, rfl, _, Cells.of h1 rfl, _, hr, ?_⟩
  rw [hw]
  refine ⟨fun hd => ?_, fun hd => ?_⟩
  · have hd := of_decide_eq_true hd
    apply f128_L1_of
    refine ⟨_, hq, rfl, ?_⟩
    unfold spanN
    rw [if_pos (by omega)]
  · have hd := of_decide_eq_false hd
    apply f128_L1_of
    refine ⟨_, hq, rfl, ?_⟩
    unfold spanN
    rw [if_neg (by omega)]

/-- What a fresh sector value holds where the write will not reach. -/
def blankV (P : Pl) (ss i n : Nat) : List Int := if n < ss then (match P.lat i with | some bs => bs | none => List.replicate ss 0) else List.replicate ss 0

/-- src laid over bs from the byte f on. -/
def over {α : Type} (bs : List α) (f : Nat) (src : List α) : List α := bs.take f ++ src ++ bs.drop (f + src.length)

theorem over_len {α : Type} {bs : List α} {f : Nat} {src : List α} (h : f + src.length ≤ bs.length) : (over bs f src).length = bs.length := by
  unfold over
  simp
  omega

theorem over_map {α β : Type} (k : α → β) {bs : List α} {f : Nat} {src : List α} : (over bs f src).map k = over (bs.map k) f (src.map k) := by
  unfold over
  simp

theorem setAll_toList {arr : Array Value} {vs : List Value} {off : Nat} (h : off + vs.length ≤ arr.size) : (setAll arr off vs).toList = over arr.toList off vs := by
  apply List.ext_getElem?
  intro i
  have h1 := setAll_get vs arr off i h
  have h2 : (setAll arr off vs).toList[i]? = (setAll arr off vs)[i]? := by simp
  rw [h2, h1]
  unfold over
  have hl : (arr.toList.take off).length = off := by simp; omega
  rw [List.append_assoc, List.getElem?_append, hl]
  by_cases c1 : i < off
  · rw [if_neg (by omega), if_pos c1, List.getElem?_take, if_pos c1]
    simp
  · rw [if_neg c1, List.getElem?_append]
    by_cases c2 : i < off + vs.length
    · rw [if_pos ⟨by omega, c2⟩, if_pos (by omega)]
    · rw [if_neg (by omega), if_neg (by omega), List.getElem?_drop]
      have : off + vs.length + (i - off - vs.length) = i := by omega
      rw [this]
      simp

theorem over_full {α : Type} {bs src : List α} (h : bs.length = src.length) : over bs 0 src = src := by
  unfold over
  rw [List.take_zero, List.nil_append, List.drop_eq_nil_of_le (by omega), List.append_nil]

theorem SecOk.cells {s : Sec} {bs : List Int} (h : SecOk H g ss s bs) : ∃ b o, s.p = some ⟨b, o, none⟩ ∧ Cells H b o (bs.map fun x => .int .u8 x) := by
  obtain ⟨b, o, arr, h1, h2, h3, h4, h5⟩ := h.row
  refine ⟨b, o, h1, Cells.of h3 ?_⟩
  rw [List.length_map, h.len]
  exact h5

theorem PlOk.sub {H' : Heap} (h : PlOk H g e pb ss ns bd P) (hg : GOk H g) (hs : Sub H H') : PlOk H' g e pb ss ns bd P :=
  h.ev (Ev.sub (S := fun _ => False) hg hs) (fun h => h) fun _ _ h => h

theorem PlOk.pln (h : PlOk H g e pb ss ns bd P) : ∃ mp mn mc r, H pb = some (.cells #[.int .i64 (ss : Int), .slice mp mn mc, .map (some r)] 244 (0, 0)) := by
  obtain ⟨mp, mn, mc, r, ml, es, ck, h1, _⟩ := h.ex
  exact ⟨mp, mn, mc, r, h1⟩

theorem f173_ht (hg : GOk H g) (h : PlOk H g e pb ss ns bd P) (hbd : bd < 2 ^ 32) {i n : Nat} {f : Int} (hi : i < 2 ^ 32) (hn : n < 2 ^ 32) :
    HT Tryz.prog 173 [.pointer (some ⟨pb, 0, none⟩), .agg #[.int .i64 (i : Int), .int .i64 f, .int .i64 (n : Int)]] H fun v H' => Sub H H' ∧ ∃ b arr, v = .slice (some ⟨b, 0, none⟩) ss ss ∧ H b = none ∧ H' b = some (.cells arr 5 (0, 0)) ∧ arr.toList = (blankV P ss i n).map fun x => .int .u8 x := by
  have hss := h.ssb
  obtain ⟨mp, mn, mc, r, h1⟩ := h.pln
  apply f173_of
  intro _
  refine ⟨pb, 0, rfl, _, Cells.of h1 rfl, ?_⟩
  refine semOk_make Tryz.underlying35 (inf := Tryz.t5) (z := .int .u8 0) (by kernel_rfl) (by kernel_rfl) rfl (by kernel_rfl) (Nat.le_refl _) (by omega) (by decide) fun b h1' ha => ⟨_, _, _, rfl, pb, 0, rfl, (ss : Int), Cells.of (ha.keep h1) rfl, fun hd => ?_, fun hd => ?_⟩
  · have hd := of_decide_eq_true hd
    have hs1 : Sub H h1' := ha.sub
    refine (f129_ht (h.sub hg hs1) hbd hi).mono fun v h2 ⟨he, s, hv, hs⟩ => ⟨_, _, _, hv, ?_⟩
    subst he
    have hrep : (Array.replicate ss (Value.int .u8 0)).toList = (List.replicate ss (0 : Int)).map fun x => .int .u8 x := by simp
    cases hl : P.lat i with
    | none =>
      rw [hl] at hs
      have hs' : s = Sec.nil := hs
      subst hs'
      refine semOk_copy (ys := []) Tryz.underlying35 (inf := Tryz.t5) (by kernel_rfl) (by kernel_rfl) ha.same (by simp) (by simp [Sec.nil, Nat.min_def]) (.inl ⟨rfl, rfl⟩) (by simp) fun h3 hw3 => ⟨_, rfl, ?_⟩
      apply f173_L1_of
      refine ⟨hs1.wr hw3 ha.fresh, b, _, rfl, ha.fresh, hw3.same, ?_⟩
      rw [setAll]
      unfold blankV
      rw [if_pos (by omega), hl]
      exact hrep
    | some bs =>
      rw [hl] at hs
      have hs' : SecOk h2 g ss s bs := hs
      have hlen := hs'.len
      have hn' := hs'.n
      refine semOk_copy (ys := bs.map fun x => .int .u8 x) Tryz.underlying35 (inf := Tryz.t5) (by kernel_rfl) (by kernel_rfl) ha.same (by simp) (by rw [List.length_map, hlen, hn']; simp [Nat.min_def]) (.inr hs'.cells) (by intro v hv; obtain ⟨x, _, rfl⟩ := List.mem_map.1 hv; rfl) fun h3 hw3 => ⟨_, rfl, ?_⟩
      apply f173_L1_of
      refine ⟨hs1.wr hw3 ha.fresh, b, _, rfl, ha.fresh, hw3.same, ?_⟩
      rw [setAll_toList (by simp [hlen]), over_full (by simp [hlen])]
      unfold blankV
      rw [if_pos (by omega), hl]
  · have hd := of_decide_eq_false hd
    apply f173_L1_of
    refine ⟨ha.sub, b, _, rfl, ha.fresh, ha.same, ?_⟩
    unfold blankV
    rw [if_neg (by omega)]
    simp

end

end Go.Proofs.Qxb6500695aGreatFmt
