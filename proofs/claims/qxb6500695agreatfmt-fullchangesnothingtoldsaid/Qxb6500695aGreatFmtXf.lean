/-
  THE PLANE, PART F: write, zero.
-/
import Derived.Test.Qxb6500695aGreatFmtXe
namespace Go.Proofs.Qxb6500695aGreatFmt
open Go Go.Eng Go.Proofs
set_option maxRecDepth 100000
set_option linter.unusedVariables false
set_option linter.unusedSimpArgs false
set_option linter.unusedSectionVars false

/-- write, as it is meant. -/
def wrF (ss : Nat) : Nat → Pl → Nat → List Int → Pl
  | 0, P, _, _ => P
  | k + 1, P, off, src => if src = [] then P else
      wrF ss k (P.put (off / ss) (over (blankV P ss (off / ss) (spanN ss off src.length)) (off % ss) (src.take (spanN ss off src.length)))) (off + spanN ss off src.length) (src.drop (spanN ss off src.length))

section
variable {H : Heap} {g : Gh} {e : Int} {pb ss ns bd : Nat} {P : Pl}

/-- Every value has the sector's length. -/
def Pl.sized (P : Pl) (ss : Nat) : Prop := (∀ v ∈ P.media, ∀ bs, v = some bs → bs.length = ss) ∧ ∀ i, ∀ v ∈ P.cache i, ∀ bs, v = some bs → bs.length = ss

theorem Secs.sized : ∀ {l : List Sec} {vs : List (Option (List Int))}, Secs H g ss l vs → ∀ v ∈ vs, ∀ bs, v = some bs → bs.length = ss
  | [], [], _, v, hv, _, _ => by cases hv
  | s :: l, w :: vs, h, v, hv, bs, hb => by
    rcases List.mem_cons.1 hv with rfl | hv
    · subst hb
      have h1 : SecOk H g ss s bs := h.1
      exact h1.len
    · exact Secs.sized h.2 v hv bs hb
  | [], _ :: _, h, _, _, _, _ => h.elim
  | _ :: _, [], h, _, _, _, _ => h.elim

theorem PlOk.sized (h : PlOk H g e pb ss ns bd P) : P.sized ss := by
  obtain ⟨mp, mn, mc, r, ml, es, ck, h1, h2, h3, h4, h5, h6, h7, h8, h9⟩ := h.ex
  refine ⟨h3.sized, fun i v hv bs hb => ?_⟩
  cases hg : iget es.toList i with
  | none => rw [h9 i hg] at hv; cases hv
  | some w =>
    obtain ⟨en, hen, hk, _⟩ := iget_mem hg
    obtain ⟨_, _, _, _, _, q, n, c, l, _, _, k8⟩ := h8 en hen
    rw [hk] at k8
    exact k8.sized v hv bs hb

theorem PlOk.latlen (h : PlOk H g e pb ss ns bd P) {i : Nat} {bs : List Int} (hl : P.lat i = some bs) : bs.length = ss := by
  have hs := h.sized
  unfold Pl.lat at hl
  cases hc : (P.cache (i : Int)).getLast? with
  | none =>
    rw [hc] at hl
    simp only [Pl.dur] at hl
    cases hm : P.media[i]? with
    | none => rw [hm] at hl; cases hl
    | some v =>
      rw [hm] at hl
      exact hs.1 v (List.mem_of_getElem? hm) bs hl
  | some v =>
    rw [hc] at hl
    exact hs.2 _ v (List.mem_of_getLast? hc) bs hl

theorem PlOk.blen (h : PlOk H g e pb ss ns bd P) {i n : Nat} : (blankV P ss i n).length = ss := by
  unfold blankV
  split
  · cases hl : P.lat i with
    | none => simp
    | some bs => exact h.latlen hl
  · simp

theorem spanN_le {off len : Nat} (hss : 0 < ss) : spanN ss off len ≤ len ∧ spanN ss off len ≤ ss - off % ss ∧ (0 < len → 0 < spanN ss off len) := by
  have := Nat.mod_lt off hss
  unfold spanN
  split <;> exact ⟨by omega, by omega, fun _ => by omega⟩

theorem div_lt_of {off n ns : Nat} (hss : 0 < ss) (h : off + n ≤ ns * ss) (hn : 0 < n) : off / ss < ns := by
  rw [Nat.div_lt_iff_lt_mul hss]; omega

theorem Src.ev {S : Nat × Int → Prop} {H H' : Heap} {g g' : Gh} {p : Option Addr} {n c : Nat} {bs : List Int} (h : Src H p n c bs) (ht : ∀ a, p = some a → 0 < n → g a.block = some (0, 0)) (ev : Ev S H g H' g') (hS : ¬ S (0, 0)) : Src H' p n c bs := by
  refine ⟨h.len, h.nc, ?_⟩
  rcases h.row with h1 | ⟨b, o, h1, c', T, fr, h2, h3⟩
  · exact .inl h1
  · rcases Nat.eq_zero_or_pos n with h0 | h0
    · exact .inl (List.length_eq_zero_iff.1 (h.len.symm.trans h0))
    · exact .inr ⟨b, o, h1, c', T, fr, ev.get (ht _ h1 h0) hS h2, h3⟩

theorem advP_block {p : Option Addr} {c k : Nat} {a : Addr} (h : advP p c k = some a) : ∃ a', p = some a' ∧ a'.block = a.block := by
  unfold advP at h
  split at h
  · exact ⟨a, h, rfl⟩
  · cases p with
    | none => cases h
    | some a' =>
      refine ⟨a', rfl, ?_⟩
      simp at h
      rw [← h]
      unfold Addr.add
      split <;> rfl

theorem f118_L1_ht (hbd : bd + ns + 1 < 2 ^ 32) {H0 : Heap} {g0 : Gh} :
    ∀ (k : Nat) (H : Heap) (g : Gh) (P : Pl) (p : Option Addr) (n c off : Nat) (src : List Int) (cnt : Int) (bdc : Nat), n ≤ k → Ev (SpP e) H0 g0 H g → PlOk H g e pb ss ns bdc P → Src H p n c src → (∀ a, p = some a → 0 < n → g a.block = some (0, 0)) → off + n ≤ ns * ss → bdc ≤ bd + off / ss + 1 → (0 < n → bdc ≤ bd + off / ss) → off / ss ≤ ns → 0 ≤ cnt → cnt ≤ off / ss + 1 → (0 < n → cnt ≤ off / ss) →
      f118_L1 (some ⟨pb, 0, none⟩) p n c (off : Int) cnt H fun v H' => ∃ (g' : Gh) (m : Int), v = .int .i64 m ∧ Ev (SpP e) H0 g0 H' g' ∧ PlOk H' g' e pb ss ns (bd + ns + 1) (wrF ss k P off src) := by
  intro k
  induction k with
  | zero =>
    intro H g P p n c off src cnt bdc hn hE h hsrc htag hoff hb hb' hos hc0 hc1 hc2
    apply f118_L1_of
    refine ⟨fun hd => absurd (of_decide_eq_true hd) (by omega), fun _ => ?_⟩
    apply f118_L2_of
    exact ⟨g, cnt, rfl, hE, h.mono (by omega)⟩
  | succ k ih =>
    intro H g P p n c off src cnt bdc hn hE h hsrc htag hoff hb hb' hos hc0 hc1 hc2
    have hss := h.ssb
    have hlen := hsrc.len
    have hnc := hsrc.nc
    apply f118_L1_of
    refine ⟨fun hd => ?_, fun hd => ?_⟩
    · have hd := of_decide_eq_true hd
      have hnb := h.nsb
      have hmul : ns * ss ≤ 256 := Nat.le_trans (Nat.mul_le_mul hnb hss.2) (by decide)
      obtain ⟨s1, s2, s3⟩ := spanN_le (ss := ss) (off := off) (len := n) hss.1
      have s3 := s3 (by omega)
      have hb' := hb' (by omega)
      have hc2 := hc2 (by omega)
      have hdm := Nat.div_add_mod off ss
      have hdiv : off / ss < ns := div_lt_of hss.1 hoff (by omega)
      have hmod : off % ss < ss := Nat.mod_lt _ hss.1
      refine (f128_ht h (by omega) (by omega)).mono fun v h1 ⟨he, hv⟩ => ⟨_, _, _, hv, fun _ => ?_⟩
      subst he
      generalize hi : off / ss = i at *
      generalize hf : off % ss = f at *
      generalize hm : spanN ss off n = m at *
      refine (f173_ht hE.ok h (by omega) (i := i) (n := m) (by omega) (by omega)).mono fun v h2 ⟨hs2, b, arr, hv2, hb0, hb2, harr⟩ => ⟨_, _, _, hv2, ?_⟩
      have hbl := h.blen (i := i) (n := m)
      have hasz : arr.size = ss := by
        have := congrArg List.length harr
        simp at this
        rw [this, hbl]
      have hadv : advP (some ⟨b, 0, none⟩) ss f = some ⟨b, f, none⟩ := by
        unfold advP
        rw [if_neg (by omega)]
        simp [addr_add]
      have hsl := sliceIs_lo (t := 35) (p := some ⟨b, 0, none⟩) (n := ss) (c := ss) (k := f) Tryz.underlying35 (inf := Tryz.t5) (by kernel_rfl) (by kernel_rfl) (by omega)
      rw [hadv] at hsl
      refine ⟨_, _, _, hsl, _, _, _, sliceIs_hi' (t := 35) (p := p) (n := n) (c := c) (k := m) Tryz.underlying35 (inf := Tryz.t5) (by kernel_rfl) (by omega), ?_⟩
      have hst := (hsrc.sub hs2).take (k := m) (by omega)
      have hrow : ∃ qb qo, p = some ⟨qb, qo, none⟩ ∧ Cells h2 qb qo ((src.take m).map fun x => .int .u8 x) := by
        rcases hst.row with h5 | h5
        · exfalso
          have := congrArg List.length h5
          simp at this
          rcases this with h6 | h6
          · omega
          · rw [h6] at hlen; simp at hlen; omega
        · exact h5
      refine semOk_copy (ys := (src.take m).map fun x => .int .u8 x) Tryz.underlying35 (inf := Tryz.t5) (by kernel_rfl) (by kernel_rfl) hb2 (by omega) (by simp [Nat.min_def]; split <;> omega) (.inr hrow) (by intro v hv; obtain ⟨x, _, rfl⟩ := List.mem_map.1 hv; rfl) fun h3 hw3 => ⟨_, rfl, ?_⟩
      -- the new value is read-only from here on
      have hs03 : Sub h1 h3 := hs2.wr hw3 hb0
      have hgb : g b = none := by
        cases hc : g b with
        | none => rfl
        | some tg => exact absurd hb0 (hE.ok b tg hc)
      have e1 : Ev (fun _ => False) h1 g h3 (gset g b (0, 0)) := by
        have e0 : Ev (fun _ => False) h1 g h3 g := Ev.sub hE.ok hs03
        refine ⟨fun x tg hx => ?_, fun x tg hx => ?_, fun x tg hx hn => e0.keep x tg hx hn⟩
        · unfold gset at hx
          by_cases hxb : x = b
          · subst hxb; rw [hw3.same]; simp
          · rw [if_neg hxb] at hx; exact e0.ok x tg hx
        · unfold gset
          rw [if_neg (by intro hxb; subst hxb; rw [hgb] at hx; cases hx)]; exact hx
      have h13 := h.ev e1 (fun h => h) fun _ _ h => h
      have hsec : SecOk h3 (gset g b (0, 0)) ss ⟨some ⟨b, 0, none⟩, ss, ss⟩ (over (blankV P ss i m) f (src.take m)) := by
        refine ⟨rfl, Nat.le_refl _, ?_, b, 0, _, rfl, by simp [gset], hw3.same, ?_, ?_⟩
        · rw [over_len (by simp; omega), hbl]
        · rw [setAll_size]; omega
        · rw [setAll_toList (by simp; omega), harr, ← over_map, List.drop_zero, List.take_of_length_le]
          rw [List.length_map, over_len (by simp; omega), hbl]
          exact Nat.le_refl _
      refine cput_ht e1.ok h13 (by omega) (i := i) hdiv hsec fun h6 g6 e6 h6' => ?_
      refine ⟨_, _, _, sliceIs_lo (t := 35) (p := p) (n := n) (c := c) (k := m) Tryz.underlying35 (inf := Tryz.t5) (by kernel_rfl) (by kernel_rfl) (by omega), ?_⟩
      have e16 : Ev (SpP e) h1 g h6 g6 := (e1.mono fun _ h => h.elim).trans e6
      have hw1 : IntKind.wrap .i64 ((off : Int) + (m : Int)) = ((off + m : Nat) : Int) := by rw [wrapI] <;> omega
      have hw2 : IntKind.wrap .i64 (cnt + 1) = cnt + 1 := by rw [wrapI] <;> omega
      rw [hw1, hw2]
      have hne : src ≠ [] := by
        intro h7; rw [h7] at hlen; simp at hlen; omega
      have hwr : wrF ss (k + 1) P off src = wrF ss k (P.put i (over (blankV P ss i m) f (src.take m))) (off + m) (src.drop m) := by
        rw [wrF, if_neg hne, ← hlen, hi, hf, hm]
      rw [hwr]
      have hle : (off + m) / ss ≤ ns := by
        rw [Nat.div_le_iff_le_mul_add_pred hss.1]
        have : ns * ss = ss * ns := Nat.mul_comm _ _
        omega
      have hge : i ≤ (off + m) / ss := by rw [← hi]; exact Nat.div_le_div_right (by omega)
      have hstep : 0 < n - m → (off + m) / ss = i + 1 := by
        intro h8
        have hm2 : m = ss - f := by
          rw [← hm]
          unfold spanN
          rw [hf]
          split
          · rename_i h9
            rw [← hm] at h8
            unfold spanN at h8
            rw [hf, if_pos h9] at h8
            omega
          · rfl
        have : off + m = ss * (i + 1) := by rw [Nat.mul_add]; omega
        rw [this, Nat.mul_div_cancel_left _ hss.1]
      refine ih h6 g6 _ (advP p c m) (n - m) (c - m) (off + m) (src.drop m) (cnt + 1) (bdc + 1) (by omega) (hE.trans e16) h6' ((hsrc.ev htag e16 SpP.zero).drop (by omega)) (fun a ha hpos => ?_) (by omega) (by omega) (fun h8 => by have := hstep h8; omega) hle (by omega) (by omega) (fun h8 => by have := hstep h8; omega)
      obtain ⟨a', h9, h10⟩ := advP_block ha
      rw [← h10]
      exact e16.tag _ _ (htag a' h9 (by omega))
    · have hd := of_decide_eq_false hd
      have hn0 : n = 0 := by omega
      subst hn0
      apply f118_L2_of
      refine ⟨g, cnt, rfl, hE, ?_⟩
      have hnil : src = [] := List.eq_nil_of_length_eq_zero (by omega)
      subst hnil
      rw [wrF, if_pos rfl]
      exact h.mono (by omega)

theorem f118_ht (hg : GOk H g) (h : PlOk H g e pb ss ns bd P) (hbd : bd + ns + 1 < 2 ^ 32) {p : Option Addr} {n c off : Nat} {src : List Int} (hsrc : Src H p n c src) (ht : ∀ a, p = some a → 0 < n → g a.block = some (0, 0)) (hoff : off + n ≤ ns * ss) :
    HT Tryz.prog 118 [.pointer (some ⟨pb, 0, none⟩), .slice p n c, .int .i64 (off : Int)] H fun v H' => ∃ (g' : Gh) (m : Int), v = .int .i64 m ∧ Ev (SpP e) H g H' g' ∧ PlOk H' g' e pb ss ns (bd + ns + 1) (wrF ss n P off src) := by
  apply f118_of
  have hq : (0 : Int) ≤ ((off / ss : Nat) : Int) := Int.natCast_nonneg _
  refine f118_L1_ht hbd n H g P p n c off src 0 bd (Nat.le_refl _) (Ev.refl hg) h hsrc ht hoff (by rw [Nat.add_assoc]; exact Nat.le_add_right _ _) (fun _ => Nat.le_add_right _ _) ?_ (Int.le_refl _) (by omega) (fun _ => hq)
  rw [Nat.div_le_iff_le_mul_add_pred h.ssb.1]
  have : ns * ss = ss * ns := Nat.mul_comm _ _
  omega

end

end Go.Proofs.Qxb6500695aGreatFmt
