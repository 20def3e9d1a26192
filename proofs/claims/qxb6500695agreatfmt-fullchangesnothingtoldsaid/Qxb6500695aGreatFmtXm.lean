/-
  THE PLANE, PART M: cut, walked.
-/
import Derived.Test.Qxb6500695aGreatFmtXl
namespace Go.Proofs.Qxb6500695aGreatFmt
open Go Go.Eng Go.Proofs
set_option maxRecDepth 100000
set_option linter.unusedVariables false
set_option linter.unusedSimpArgs false
set_option linter.unusedSectionVars false

section
variable {H : Heap} {g : Gh} {e : Int} {pb ss ns bd : Nat} {P : Pl}

theorem keep_facts {size keep : Nat} (hss : 0 < ss) (hkeep : keep = (size + ss - 1) / ss) (ht : size % ss ≠ 0) : 0 < keep ∧ size - (keep - 1) * ss = size % ss ∧ (keep - 1) * ss < size ∧ size < keep * ss := by
  have hd := Nat.div_add_mod size ss
  have hm := Nat.mod_lt size hss
  generalize size / ss = q at *
  generalize size % ss = t at *
  have e1 : ss * (q + 1) = ss * q + ss := by rw [Nat.mul_add, Nat.mul_one]
  have e2 : q * ss = ss * q := Nat.mul_comm _ _
  have e3 : (q + 1) * ss = ss * q + ss := by rw [Nat.mul_comm, e1]
  have h1 : (size + ss - 1) / ss = q + 1 := by
    have : size + ss - 1 = ss * (q + 1) + (t - 1) := by omega
    rw [this, Nat.mul_add_div hss, Nat.div_eq_of_lt (by omega)]
  rw [hkeep, h1, Nat.add_sub_cancel, e2, e3]
  exact ⟨by omega, by omega, by omega, by omega⟩

theorem cut_dur2 {P' : Pl} {size keep : Nat} {v' : Option (List Int)} (hss : 0 < ss) (hkeep : keep = (size + ss - 1) / ss) (ht : size % ss ≠ 0) (hl : keep ≤ P.media.length) (hm : P'.media = (P.media.take keep).set (keep - 1) v') (hv : v' = cutV ss size (keep - 1) (P.dur (keep - 1))) : ∀ i, P'.dur i = cutV ss size i (P.dur i) := by
  intro i
  obtain ⟨k1, k2, k3, k4⟩ := keep_facts hss hkeep ht
  by_cases hi : i = keep - 1
  · subst hi
    rw [← hv]
    show (P'.media[keep - 1]?).getD none = _
    rw [hm, List.getElem?_set, if_pos rfl, if_pos (by simp; omega)]
    rfl
  · show (P'.media[i]?).getD none = cutV ss size i ((P.media[i]?).getD none)
    rw [hm, List.getElem?_set, if_neg (Ne.symm hi), List.getElem?_take]
    unfold cutV
    by_cases hik : i < keep
    · have h1 : (i + 1) * ss ≤ (keep - 1) * ss := Nat.mul_le_mul_right _ (by omega)
      rw [if_pos hik, if_pos (by omega)]
    · have h1 : keep * ss ≤ i * ss := Nat.mul_le_mul_right _ (by omega)
      have h2 : i * ss + ss = (i + 1) * ss := by rw [Nat.add_mul, Nat.one_mul]
      rw [if_neg hik, if_neg (by omega), if_pos (by omega)]
      rfl

def cutPost (H0 : Heap) (g0 : Gh) (e : Int) (pb ss ns bd : Nat) (P0 : Pl) (size : Nat) (v : Value) (H' : Heap) : Prop :=
  ∃ g' P', v = .tuple #[] ∧ Ev (SpM e) H0 g0 H' g' ∧ PlOk H' g' e pb ss ns bd P' ∧ P'.cache = P0.cache ∧ ∀ i, P'.dur i = cutV ss size i (P0.dur i)

theorem set_self {α : Type} {l : List α} {i : Nat} (h : i < l.length) : l.set i l[i] = l := by
  apply List.ext_getElem?
  intro j
  rw [List.getElem?_set]
  split
  · rename_i hj
    subst hj
    rw [List.getElem?_eq_getElem h]
  · rfl

theorem f185_L1_ht {H0 : Heap} {g0 : Gh} {P0 : Pl} (hE : Ev (SpM e) H0 g0 H g) (h : PlOk H g e pb ss ns bd P) (hPc : P.cache = P0.cache) {size keep : Nat} (hsz : size ≤ ns * ss) (hkeep : keep = (size + ss - 1) / ss) (hmedia : P.media = P0.media.take keep) :
    f185_L1 (some ⟨pb, 0, none⟩) (size : Int) (ss : Int) (keep : Int) H (cutPost H0 g0 e pb ss ns bd P0 size) := by
  have hss := h.ssb
  have hnb := h.nsb
  have hmul : ns * ss ≤ 256 := Nat.le_trans (Nat.mul_le_mul hnb hss.2) (by decide)
  have hmod : size % ss < ss := Nat.mod_lt _ hss.1
  obtain ⟨mp, mn, mc, r, ml, es, ck, h1, h2, h3, h4, h5, h6, h7, h8, h9⟩ := h.ex
  have hlen := h2.own.len
  have hl3 := h3.len
  have hml : P.media.length = min keep P0.media.length := by rw [hmedia]; simp
  have hne : (ss : Int) ≠ 0 := by omega
  have hrem : Int.tmod (size : Int) (ss : Int) = ((size % ss : Nat) : Int) := by
    rw [Int.tmod_eq_emod_of_nonneg (by omega)]; simp
  have hr := binIs_rem (P := Tryz.prog) (t := 2) (x := .tmp 41) (y := .tmp 42) (a := (size : Int)) (b := (ss : Int)) hne
  rw [hrem] at hr
  have done : (size % ss = 0 ∨ P0.media.length < keep) → cutPost H0 g0 e pb ss ns bd P0 size (.tuple #[]) H := fun hc =>
    ⟨g, P, rfl, hE, h, hPc, cut_dur hss.1 hkeep hmedia hc⟩
  apply f185_L1_of
  refine ⟨_, hr, fun h0 => ?_, fun h0 => ⟨pb, 0, rfl, _, _, _, Cells.of h1 rfl, ?_⟩⟩
  · apply f185_L2_of
    exact ⟨fun _ => done (.inl (by have := beq_iff_eq.1 h0; exact_mod_cast this)), fun hx => by cases hx⟩
  · have h0' : size % ss ≠ 0 := by
      intro hz; rw [hz] at h0; simp at h0
    obtain ⟨k1, k2, k3, k4⟩ := keep_facts hss.1 hkeep h0'
    apply f185_L2_of
    refine ⟨fun hlt => done (.inr ?_), fun hge => ?_⟩
    · have := of_decide_eq_true hlt; omega
    · have hge := of_decide_eq_false hge
      have hkl : keep ≤ P0.media.length := by omega
      obtain ⟨b, o, arr, hp, hb, hfit, hc, hset⟩ := h2.own.at (i := keep - 1) (by omega)
      have hwk : IntKind.wrap .i64 ((keep : Int) - 1) = ((keep - 1 : Nat) : Int) := by rw [wrapI] <;> omega
      rw [hwk]
      have hkk : keep - 1 < P.media.length := by omega
      have hPd : P0.dur (keep - 1) = P.media[keep - 1] := by
        unfold Pl.dur
        have : P.media[keep - 1]? = P0.media[keep - 1]? := by rw [hmedia, List.getElem?_take, if_pos (by omega)]
        rw [← this, List.getElem?_eq_getElem hkk]
        rfl
      have hsv := h3.get (keep - 1) (by omega) hkk
      -- nothing to be cleared: the value stands
      have same : P.media[keep - 1] = cutV ss size (keep - 1) (P0.dur (keep - 1)) → cutPost H0 g0 e pb ss ns bd P0 size (.tuple #[]) H := fun hc =>
        ⟨g, P, rfl, hE, h, hPc, cut_dur2 hss.1 hkeep h0' hkl (v' := P.media[keep - 1]) (by rw [← hmedia]; exact (set_self hkk).symm) hc⟩
      have hcv : cutV ss size (keep - 1) (P0.dur (keep - 1)) = (P.media[keep - 1]).map fun bs => bs.take (size % ss) ++ List.replicate (ss - size % ss) 0 := by
        unfold cutV
        have e1 : keep - 1 + 1 = keep := by omega
        rw [e1, if_neg (by omega), if_neg (by omega), k2, hPd]
      refine ⟨pb, 0, rfl, _, _, _, Cells.of h1 rfl, b, o, hp, by omega, by omega, _, _, _, by simpa [Sec.cs, Sec.val] using hc, _, binIs_slice_eql Tryz.underlying35, ?_⟩
      cases hmv : P.media[keep - 1] with
      | none =>
        rw [hmv] at hsv
        have hs' : ml[keep - 1]'(by omega) = Sec.nil := hsv
        rw [hs']
        refine ⟨fun _ => ?_, fun hx => by cases hx⟩
        apply f185_L3_of
        refine ⟨fun _ => same ?_, fun hx => by cases hx⟩
        rw [hcv, hmv]
        rfl
      | some bs =>
        rw [hmv] at hsv
        have hs' : SecOk H g ss (ml[keep - 1]'(by omega)) bs := hsv
        generalize hms : ml[keep - 1]'(by omega) = s at hs' hc
        obtain ⟨sb, so, hsp, hcell⟩ := hs'.cells
        have hsn := hs'.n
        have hsc := hs'.c
        have hbl := hs'.len
        have hSrc : Src H s.p s.n s.c bs := ⟨by omega, by omega, .inr ⟨sb, so, hsp, hcell⟩⟩
        refine ⟨(fun hx => by rw [hsp] at hx; cases hx), fun _ => ⟨_, _, _, sliceIs_lo (t := 35) (p := s.p) (n := s.n) (c := s.c) (k := size % ss) Tryz.underlying35 (inf := Tryz.t5) (by kernel_rfl) (by kernel_rfl) (by omega), ?_⟩⟩
        refine (f203_ht (hSrc.drop (k := size % ss) (by omega)) (by omega)).mono fun v H1 ⟨he, hv⟩ => ⟨_, hv, ?_⟩
        subst he
        apply f185_L3_of
        refine ⟨fun haz => same ?_, fun haz => ?_⟩
        · rw [hcv, hmv]
          simp only [Option.map_some]
          congr 1
          have hz : bs.drop (size % ss) = List.replicate (ss - size % ss) 0 := by
            rw [List.eq_replicate_iff]
            refine ⟨by simp [hbl], fun x hx => ?_⟩
            have := List.all_eq_true.1 haz x hx
            simpa using this
          rw [← hz, List.take_append_drop]
        · refine (f134_ht hss hs').mono fun v H2 ⟨hs2, b2, arr2, c2, hv2, hc2, hb0, hb2, hsz2, hrow2⟩ => ⟨_, _, _, hv2, ?_⟩
          have hadv : advP (some ⟨b2, 0, none⟩) c2 (size % ss) = some ⟨b2, size % ss, none⟩ := by
            unfold advP
            rw [if_neg (by omega)]
            simp [addr_add]
          have hsl := sliceIs_lo (t := 35) (p := some ⟨b2, 0, none⟩) (n := ss) (c := c2) (k := size % ss) Tryz.underlying35 (inf := Tryz.t5) (by kernel_rfl) (by kernel_rfl) (by omega)
          rw [hadv] at hsl
          refine ⟨_, _, _, hsl, ?_⟩
          refine semOk_clearS Tryz.underlying35 (inf := Tryz.t5) (z := .int .u8 0) (by kernel_rfl) (by kernel_rfl) rfl rfl hb2 (by omega) fun H3 hw3 => ⟨rfl, ?_⟩
          have hs03 : Sub H1 H3 := hs2.wr hw3 hb0
          have e3 := Ev.roNew hE.ok hs03 hb0 hw3.same
          have h13 : PlOk H3 (gset g b2 (0, 0)) e pb ss ns bd P := h.ev e3 (fun h => h) fun _ _ h => h
          have hsec : SecOk H3 (gset g b2 (0, 0)) ss ⟨some ⟨b2, 0, none⟩, ss, c2⟩ (bs.take (size % ss) ++ List.replicate (ss - size % ss) 0) := by
            refine ⟨rfl, hc2, by simp [hbl]; omega, b2, 0, _, rfl, by simp [gset], hw3.same, by rw [setAll_size]; omega, ?_⟩
            rw [List.drop_zero, setAll_toList (by simp; omega)]
            unfold over
            have ht1 : arr2.toList.take (size % ss) = (bs.take (size % ss)).map fun x => .int .u8 x := by
              rw [List.map_take, ← hrow2, List.take_take]
              congr 1
              omega
            rw [ht1, List.take_append_of_le_length (by simp [hbl]; omega), List.take_of_length_le (by simp [hbl]; omega)]
            simp
          have h1' := hs03 _ _ h1
          have hb' := hs03 _ _ hb
          have hgb : g b = some (13, e) := h2.tag _ hp
          refine ⟨pb, 0, rfl, _, _, _, Cells.of h1' rfl, b, o, hp, ?_⟩
          rw [hwk]
          refine ⟨by omega, by omega, arr, 35, hb', by simpa using hfit, fun H4 hw4 => ?_⟩
          have g3b : gset g b2 (0, 0) b = some (13, e) := e3.tag _ _ hgb
          have e4 : Ev (SpM e) H3 (gset g b2 (0, 0)) H4 (gset g b2 (0, 0)) := Ev.wr e3.ok hw4 fun tg htg => by rw [g3b] at htg; cases htg; exact .inr rfl
          have hpbne : pb ≠ b := fun hpb => by
            have := h.tp
            rw [hpb, hgb] at this
            cases this
          have h1'' : H4 pb = some (.cells #[.int .i64 (ss : Int), .slice mp mn mc, .map (some r)] 244 (0, 0)) := by rw [hw4.other hpbne]; exact h1'
          obtain ⟨b', o', arr', hp', hb'', hfit', hc', hset'⟩ := (h2.own.sub hs03).at (i := keep - 1) (by omega)
          rw [hp] at hp'
          simp at hp'
          obtain ⟨rfl, rfl⟩ := hp'
          rw [hb'] at hb''
          simp at hb''
          subst hb''
          have ho4 := hset' ⟨some ⟨b2, 0, none⟩, ss, c2⟩ H4 (by simpa [Sec.cs, Sec.val] using hw4)
          have hsec4 : SecV H4 (gset g b2 (0, 0)) ss ⟨some ⟨b2, 0, none⟩, ss, c2⟩ (some (bs.take (size % ss) ++ List.replicate (ss - size % ss) 0)) := SecV.ev (v := some _) hsec e4 (fun h => SpP.zero h.le)
          have e34 : Ev (SpM e) H1 g H4 (gset g b2 (0, 0)) := (e3.mono fun _ h => h.elim).trans e4
          refine ⟨_, _, rfl, hE.trans e34, h13.media e4 ⟨_, _, _, h1'⟩ h1'' ⟨ho4, fun a ha => e34.tag _ _ (h2.tag a ha)⟩ (((h3.ev e3 (fun h => h)).ev e4 (fun h => SpP.zero h.le)).set hsec4 (keep - 1)) h4, hPc, cut_dur2 hss.1 hkeep h0' hkl (by rw [← hmedia]) ?_⟩
          rw [hcv, hmv]
          rfl

theorem f185_ht (hg : GOk H g) (h : PlOk H g e pb ss ns bd P) {size : Nat} (hsz : size ≤ ns * ss) :
    HT Tryz.prog 185 [.pointer (some ⟨pb, 0, none⟩), .int .i64 (size : Int)] H (cutPost H g e pb ss ns bd P size) := by
  have hss := h.ssb
  have hnb := h.nsb
  have hmul : ns * ss ≤ 256 := Nat.le_trans (Nat.mul_le_mul hnb hss.2) (by decide)
  obtain ⟨mp, mn, mc, r, ml, es, ck, h1, h2, h3, h4, h5, h6, h7, h8, h9⟩ := h.ex
  have hlen := h2.own.len
  have hl3 := h3.len
  have hlc := h2.own.lenc
  apply f185_of
  have hw : IntKind.wrap .i64 (IntKind.wrap .i64 ((size : Int) + (ss : Int)) - 1) = ((size + ss - 1 : Nat) : Int) := by
    have h0 : IntKind.wrap .i64 ((size : Int) + (ss : Int)) = (size : Int) + (ss : Int) := by rw [wrapI] <;> omega
    rw [h0, wrapI] <;> omega
  have hne : (ss : Int) ≠ 0 := by omega
  have hq := binIs_quo (P := Tryz.prog) (t := 2) (x := .tmp 16) (y := .tmp 17) (a := ((size + ss - 1 : Nat) : Int)) (b := (ss : Int)) hne
  have hdiv : Int.tdiv ((size + ss - 1 : Nat) : Int) (ss : Int) = (((size + ss - 1) / ss : Nat) : Int) := by
    rw [Int.tdiv_eq_ediv_of_nonneg (by omega)]; simp
  generalize hkeep : (size + ss - 1) / ss = keep at *
  have hkl : keep ≤ size + ss - 1 := by rw [← hkeep]; exact Nat.div_le_self _ _
  rw [hdiv, wrapI (by omega) (by omega)] at hq
  refine ⟨pb, 0, rfl, _, Cells.of h1 rfl, ?_⟩
  rw [hw]
  refine ⟨_, hq, pb, 0, rfl, mp, mn, mc, Cells.of h1 rfl, fun hd => ?_, fun hd => ?_⟩
  · have hd := of_decide_eq_true hd
    obtain ⟨b, o, arr, hp, hb, hfit, hc, hset⟩ := h2.own.at (i := 0) (by omega)
    have hcap : o + mc ≤ arr.size := by
      rcases h2.own.own with ⟨h9', _⟩ | ⟨b2, o2, arr2, hp2, hb2, h10, h11, h12⟩
      · rw [hp] at h9'; cases h9'
      · rw [hp] at hp2
        simp at hp2
        obtain ⟨rfl, rfl⟩ := hp2
        rw [hb] at hb2
        simp at hb2
        subst hb2
        simpa using h11
    have hadv : advP mp mc keep = some ⟨b, o + keep, none⟩ := by
      unfold advP
      rw [if_neg (by omega), hp]
      simp [addr_add]
    have hsl := sliceIs_lo (t := 37) (p := mp) (n := mn) (c := mc) (k := keep) Tryz.underlying37 (inf := Tryz.t35) (by kernel_rfl) (by kernel_rfl) (by omega)
    rw [hadv] at hsl
    refine ⟨pb, 0, rfl, _, _, _, Cells.of h1 rfl, _, _, _, hsl, ?_⟩
    refine semOk_clearS Tryz.underlying37 (inf := Tryz.t35) (z := .slice none 0 0) (by kernel_rfl) (by kernel_rfl) rfl rfl hb (by omega) fun H1 hw1 => ⟨rfl, ?_⟩
    have hgb : g b = some (13, e) := h2.tag _ hp
    have hpbne : pb ≠ b := fun hpb => by
      have := h.tp
      rw [hpb, hgb] at this
      cases this
    have h11 : H1 pb = some (.cells #[.int .i64 (ss : Int), .slice mp mn mc, .map (some r)] 244 (0, 0)) := by rw [hw1.other hpbne]; exact h1
    have e1 : Ev (SpM e) H g H1 g := Ev.wr hg hw1 fun tg htg => by rw [hgb] at htg; cases htg; exact .inr rfl
    refine ⟨pb, 0, rfl, _, _, _, Cells.of h11 rfl, _, _, _, sliceIs_hi' (t := 37) (p := mp) (n := mn) (c := mc) (k := keep) Tryz.underlying37 (inf := Tryz.t35) (by kernel_rfl) (by omega), pb, 0, rfl, _, _, h11, by simp, fun H2 hw2 => ?_⟩
    have hw2' : Wr H1 pb (.cells #[.int .i64 (ss : Int), .slice mp keep mc, .map (some r)] 244 (0, 0)) H2 := hw2
    have e2 : Ev (SpM e) H1 g H2 g := Ev.wr e1.ok hw2' fun tg htg => by rw [h.tp] at htg; cases htg; exact .inl rfl
    have e12 := e1.trans e2
    have o1 := shrinkT h2 hp hb hw1 (k := keep) (by omega) (by simp; omega)
    have o2 : OwnT H2 g (13, e) 35 1 Sec.cs mp keep mc (ml.take keep) :=
      o1.ev (Ev.wr (S := fun tg => tg = (12, e)) e1.ok hw2' fun tg htg => by rw [h.tp] at htg; cases htg; rfl) (fun h => by cases h)
    have hP2 : PlOk H2 g e pb ss ns bd ⟨P.media.take keep, P.cache⟩ :=
      h.media e12 ⟨_, _, _, h1⟩ hw2'.same o2 ((h3.ev e12 (fun h => SpP.zero h.le)).take keep) (by omega)
    exact f185_L1_ht (P0 := P) e12 hP2 rfl hsz hkeep.symm rfl
  · have hd := of_decide_eq_false hd
    refine f185_L1_ht (P0 := P) (Ev.refl hg) h rfl hsz hkeep.symm ?_
    rw [List.take_of_length_le (by omega)]

end

end Go.Proofs.Qxb6500695aGreatFmt
