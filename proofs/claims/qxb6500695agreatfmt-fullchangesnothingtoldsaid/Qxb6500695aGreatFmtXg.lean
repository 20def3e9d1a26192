/-
  THE PLANE, PART G: zero.
-/
import Derived.Test.Qxb6500695aGreatFmtXf
namespace Go.Proofs.Qxb6500695aGreatFmt
open Go Go.Eng Go.Proofs
set_option maxRecDepth 100000
set_option linter.unusedVariables false
set_option linter.unusedSimpArgs false
set_option linter.unusedSectionVars false

/-- zero, as it is meant. -/
def zrF (ss : Nat) : Nat → Pl → Nat → Nat → Pl
  | 0, P, _, _ => P
  | k + 1, P, off, n => if n = 0 then P else
      zrF ss k (P.put (off / ss) (over (blankV P ss (off / ss) (spanN ss off n)) (off % ss) (List.replicate (spanN ss off n) 0))) (off + spanN ss off n) (n - spanN ss off n)

section
variable {H : Heap} {g : Gh} {e : Int} {pb ss ns bd : Nat} {P : Pl}

/-- A block that was new and has been filled is read-only from here on. -/
theorem Ev.roNew {H H' : Heap} {g : Gh} (hg : GOk H g) (hs : Sub H H') {b : Nat} {ob : Obj} (hb : H b = none) (hb' : H' b = some ob) : Ev (fun _ => False) H g H' (gset g b (0, 0)) := by
  have hgb : g b = none := by
    cases hc : g b with
    | none => rfl
    | some tg => exact absurd hb (hg b tg hc)
  have e0 : Ev (fun _ => False) H g H' g := Ev.sub hg hs
  refine ⟨fun x tg hx => ?_, fun x tg hx => ?_, fun x tg hx hn => e0.keep x tg hx hn⟩
  · unfold gset at hx
    by_cases hxb : x = b
    · subst hxb; rw [hb']; simp
    · rw [if_neg hxb] at hx; exact e0.ok x tg hx
  · unfold gset
    rw [if_neg (by intro hxb; subst hxb; rw [hgb] at hx; cases hx)]; exact hx

theorem f124_L1_ht (hbd : bd + ns + 1 < 2 ^ 32) {H0 : Heap} {g0 : Gh} :
    ∀ (k : Nat) (H : Heap) (g : Gh) (P : Pl) (n off : Nat) (cnt : Int) (bdc : Nat), n ≤ k → Ev (SpP e) H0 g0 H g → PlOk H g e pb ss ns bdc P → off + n ≤ ns * ss → bdc ≤ bd + off / ss + 1 → (0 < n → bdc ≤ bd + off / ss) → off / ss ≤ ns → 0 ≤ cnt → cnt ≤ off / ss + 1 → (0 < n → cnt ≤ off / ss) →
      f124_L1 (some ⟨pb, 0, none⟩) (off : Int) ((off + n : Nat) : Int) cnt H fun v H' => ∃ (g' : Gh) (m : Int), v = .int .i64 m ∧ Ev (SpP e) H0 g0 H' g' ∧ PlOk H' g' e pb ss ns (bd + ns + 1) (zrF ss k P off n) := by
  intro k
  induction k with
  | zero =>
    intro H g P n off cnt bdc hn hE h hoff hb hb' hos hc0 hc1 hc2
    apply f124_L1_of
    refine ⟨fun hd => absurd (of_decide_eq_true hd) (by omega), fun _ => ?_⟩
    apply f124_L2_of
    exact ⟨g, cnt, rfl, hE, h.mono (by omega)⟩
  | succ k ih =>
    intro H g P n off cnt bdc hn hE h hoff hb hb' hos hc0 hc1 hc2
    have hss := h.ssb
    apply f124_L1_of
    refine ⟨fun hd => ?_, fun hd => ?_⟩
    · have hd := of_decide_eq_true hd
      have hnb := h.nsb
      have hmul : ns * ss ≤ 256 := Nat.le_trans (Nat.mul_le_mul hnb hss.2) (by decide)
      obtain ⟨s1, s2, s3⟩ := spanN_le (ss := ss) (off := off) (len := n) hss.1
      have s3 := s3 (by omega)
      have hb' := hb' (by omega)
      have hc2 := hc2 (by omega)
      have hdm := Nat.div_add_mod off ss
      have hdiv : off / ss < ns := div_lt_of hss.1 hoff (by omega)
      have hmod : off % ss < ss := Nat.mod_lt _ hss.1
      have hwn : IntKind.wrap .i64 (((off + n : Nat) : Int) - (off : Int)) = (n : Int) := by rw [wrapI] <;> omega
      rw [hwn]
      refine (f128_ht h (by omega) (by omega)).mono fun v h1 ⟨he, hv⟩ => ⟨_, _, _, hv, fun _ => ?_⟩
      subst he
      generalize hi : off / ss = i at *
      generalize hf : off % ss = f at *
      generalize hm : spanN ss off n = m at *
      refine (f173_ht hE.ok h (by omega) (i := i) (n := m) (by omega) (by omega)).mono fun v h2 ⟨hs2, b, arr, hv2, hb0, hb2, harr⟩ => ⟨_, _, _, hv2, ?_⟩
      have hbl := h.blen (i := i) (n := m)
      have hasz : arr.size = ss := by
        have := congrArg List.length harr
        simp at this
        rw [this, hbl]
      have hadv : advP (some ⟨b, 0, none⟩) ss f = some ⟨b, f, none⟩ := by
        unfold advP
        rw [if_neg (by omega)]
        simp [addr_add]
      have hsl := sliceIs_lohi (t := 35) (p := some ⟨b, 0, none⟩) (n := ss) (c := ss) (k := f) (j := f + m) Tryz.underlying35 (inf := Tryz.t5) (by kernel_rfl) (by kernel_rfl) (by omega) (by omega)
      rw [hadv] at hsl
      have hwf : IntKind.wrap .i64 ((f : Int) + (m : Int)) = ((f + m : Nat) : Int) := by rw [wrapI] <;> omega
      rw [hwf]
      refine ⟨_, _, _, hsl, ?_⟩
      have hmm : f + m - f = m := by omega
      rw [hmm]
      refine semOk_clearS Tryz.underlying35 (inf := Tryz.t5) (z := .int .u8 0) (by kernel_rfl) (by kernel_rfl) rfl rfl hb2 (by omega) fun h3 hw3 => ⟨rfl, ?_⟩
      have hs03 : Sub h1 h3 := hs2.wr hw3 hb0
      have e1 := Ev.roNew hE.ok hs03 hb0 hw3.same
      have h13 := h.ev e1 (fun h => h) fun _ _ h => h
      have hsec : SecOk h3 (gset g b (0, 0)) ss ⟨some ⟨b, 0, none⟩, ss, ss⟩ (over (blankV P ss i m) f (List.replicate m 0)) := by
        refine ⟨rfl, Nat.le_refl _, ?_, b, 0, _, rfl, by simp [gset], hw3.same, ?_, ?_⟩
        · rw [over_len (by simp; omega), hbl]
        · rw [setAll_size]; omega
        · have hrep : List.replicate m (Value.int .u8 0) = (List.replicate m (0 : Int)).map fun x => .int .u8 x := by simp
          rw [setAll_toList (by simp; omega), harr, hrep, ← over_map, List.drop_zero, List.take_of_length_le]
          rw [List.length_map, over_len (by simp; omega), hbl]
          exact Nat.le_refl _
      refine cput_ht e1.ok h13 (by omega) (i := i) hdiv hsec fun h6 g6 e6 h6' => ?_
      have e16 : Ev (SpP e) h1 g h6 g6 := (e1.mono fun _ h => h.elim).trans e6
      have hw1 : IntKind.wrap .i64 ((off : Int) + (m : Int)) = ((off + m : Nat) : Int) := by rw [wrapI] <;> omega
      have hw2 : IntKind.wrap .i64 (cnt + 1) = cnt + 1 := by rw [wrapI] <;> omega
      rw [hw1, hw2]
      have hwr : zrF ss (k + 1) P off n = zrF ss k (P.put i (over (blankV P ss i m) f (List.replicate m 0))) (off + m) (n - m) := by
        rw [zrF, if_neg (by omega), hi, hf, hm]
      rw [hwr]
      have hle : (off + m) / ss ≤ ns := by
        rw [Nat.div_le_iff_le_mul_add_pred hss.1]
        have : ns * ss = ss * ns := Nat.mul_comm _ _
        omega
      have hge : i ≤ (off + m) / ss := by rw [← hi]; exact Nat.div_le_div_right (by omega)
      have hstep : 0 < n - m → (off + m) / ss = i + 1 := by
        intro h8
        have hm2 : m = ss - f := by
          rw [← hm]
          unfold spanN
          rw [hf]
          split
          · rename_i h9
            rw [← hm] at h8
            unfold spanN at h8
            rw [hf, if_pos h9] at h8
            omega
          · rfl
        have : off + m = ss * (i + 1) := by rw [Nat.mul_add]; omega
        rw [this, Nat.mul_div_cancel_left _ hss.1]
      have hend : off + n = off + m + (n - m) := by omega
      rw [hend]
      exact ih h6 g6 _ (n - m) (off + m) (cnt + 1) (bdc + 1) (by omega) (hE.trans e16) h6' (by omega) (by omega) (fun h8 => by have := hstep h8; omega) hle (by omega) (by omega) (fun h8 => by have := hstep h8; omega)
    · have hd := of_decide_eq_false hd
      have hn0 : n = 0 := by omega
      subst hn0
      apply f124_L2_of
      refine ⟨g, cnt, rfl, hE, ?_⟩
      rw [zrF, if_pos rfl]
      exact h.mono (by omega)

theorem f124_ht (hg : GOk H g) (h : PlOk H g e pb ss ns bd P) (hbd : bd + ns + 1 < 2 ^ 32) {off n : Nat} (hoff : off + n ≤ ns * ss) :
    HT Tryz.prog 124 [.pointer (some ⟨pb, 0, none⟩), .int .i64 (off : Int), .int .i64 ((off + n : Nat) : Int)] H fun v H' => ∃ (g' : Gh) (m : Int), v = .int .i64 m ∧ Ev (SpP e) H g H' g' ∧ PlOk H' g' e pb ss ns (bd + ns + 1) (zrF ss n P off n) := by
  apply f124_of
  have hq : (0 : Int) ≤ ((off / ss : Nat) : Int) := Int.natCast_nonneg _
  refine f124_L1_ht hbd n H g P n off 0 bd (Nat.le_refl _) (Ev.refl hg) h hoff (by rw [Nat.add_assoc]; exact Nat.le_add_right _ _) (fun _ => Nat.le_add_right _ _) ?_ (Int.le_refl _) (by omega) (fun _ => hq)
  rw [Nat.div_le_iff_le_mul_add_pred h.ssb.1]
  have : ns * ss = ss * ns := Nat.mul_comm _ _
  omega

end

end Go.Proofs.Qxb6500695aGreatFmt
