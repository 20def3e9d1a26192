/-
  objectsSettled, FROM ITS END BACK.
-/
import Derived.Test.Qxb6500695aGreatFmtKj
namespace Go.Proofs.Qxb6500695aGreatFmt
open Go Go.Eng Go.Proofs
set_option maxRecDepth 100000
set_option linter.unusedVariables false
set_option linter.unusedSimpArgs false
set_option linter.unusedSectionVars false

/-- What a crash has left of an object, and what was asked about it. -/
structure Cr1 (ss : Nat) (tr : List Ask) (o : Ob) (zs : List Nat) (C : Int → List Sv) (kk : Nat) (ch : Int → Nat) : Prop where
  cl : o.pl.clean
  kz : kk < zs.length
  sz : zs[kk]? = some o.size
  la : lastA tr (2, o.id, 0) = if zs.length ≤ 1 then none else some (zs.length - 1, kk)
  kn : ∀ i : Nat, C (i : Int) ≠ [] → ch (i : Int) < (C (i : Int)).length ∧ lastA tr (3, o.id, (i : Int)) = (if (C (i : Int)).length ≤ 1 then none else some ((C (i : Int)).length - 1, ch (i : Int))) ∧ secNow ss o i = cutL ss o.size i (sO ss (((C (i : Int))[ch (i : Int)]?).getD none))
  un : ∀ i : Nat, C (i : Int) = [] → secNow ss o i = zer ss

/-- The books behind a crash. -/
def resC (ss : Nat) (o : Ob) (C : Int → List Sv) : Int → List Sv := fun i => if C i = [] then [] else [some (secNow ss o i.toNat)]

/-- What stands while an object is looked at. -/
structure Cx (H : Heap) (g : Gh) (k mb wb sb ss cap bd pwb bk cn : Nat) (E : Nat → Value) (P : Pw) (s : StV) (B : Int → Option Bk) (tr : List Ask) (M : Plc → Prop) : Prop where
  G : Gl H g E
  R : StR H g (k : Int) sb ss cap bd pwb s
  W : PwR H g (k : Int) pwb P
  B : BkR H g k mb ss cap bk cn B
  T : WtM wb tr M H g

section
variable {S : Nat × Int → Prop} {H H' : Heap} {g g' : Gh} {k mb wb sb ss cap bd pwb bk cn : Nat} {E : Nat → Value} {P : Pw} {s : StV} {B : Int → Option Bk} {tr : List Ask} {M M' : Plc → Prop}

theorem Cx.ev (h : Cx H g k mb wb sb ss cap bd pwb bk cn E P s B tr M) (hpos : ∀ b ∈ s.T, 0 ≤ (s.O b).id) (ev : Ev S H g H' g') (hS : ∀ tg, S tg → tg = (51, 0) ∨ SpB (cd k cn) tg) : Cx H' g' k mb wb sb ss cap bd pwb bk cn E P s B tr M := by
  have h0 : ¬ S (0, 0) := fun hc => by
    rcases hS _ hc with h | h
    · have := congrArg Prod.fst h; simp at this
    · exact SpB.zero h
  have hr : ∀ {j : Nat} {z : Int}, S (j, z) → j = 51 ∨ j = 11 ∨ j = 14 ∨ j = 16 ∨ 100 ≤ j := fun hc => by
    rcases hS _ hc with h | h
    · have := congrArg Prod.fst h; simp at this; omega
    · have := h.2; simp at this; omega
  have hneg : ∀ {tg}, S tg → tg.2 ≤ 0 := fun hc => by
    rcases hS _ hc with h | h
    · rw [h]; exact Int.le_refl _
    · have := cd_le (k := k) (c := cn); rw [h.1]; omega
  refine ⟨h.G.ev ev h0, h.R.ev ev h0 (fun hc => by have := hr hc; omega) (fun tg ht hc => by have := hr (j := tg.1) (z := tg.2) hc; have := ht.2; omega) (fun b hb tg ht hc => ?_), h.W.ev ev (fun hc => by have := hr hc; omega), h.B.ev ev h0 (fun hc => by have := hr hc; omega) (fun c hc tg ht hc' => ?_), h.T.ev ev (fun tg ht hc => by have := hr (j := tg.1) (z := tg.2) hc; have := ht.1; have := ht.2; omega) h0⟩
  · rcases hS _ hc with h1 | h1
    · have := ht.rng.2; rw [h1] at this; simp at this
    · have h2 := ht.rng.1
      have h3 := hpos b hb
      have h4 := cd_le (k := k) (c := cn)
      rw [h1.1] at h2
      unfold zO at h2
      omega
  · rcases hS _ hc' with h1 | h1
    · have := ht.2; rw [h1] at this; simp at this
    · have h2 := ht.1
      rw [h1.1] at h2
      have := cd_inj h2
      omega

/-- What the store's own readers turn. -/
theorem Cx.ev20 (h : Cx H g k mb wb sb ss cap bd pwb bk cn E P s B tr M) (ev : Ev (fun tg => tg = (20, (k : Int))) H g H' g') (hR : StR H' g' (k : Int) sb ss cap bd pwb s) : Cx H' g' k mb wb sb ss cap bd pwb bk cn E P s B tr M := by
  have n20 : ∀ {j : Nat} {z : Int}, j ≠ 20 → ¬ ((fun tg : Nat × Int => tg = (20, (k : Int))) (j, z)) := fun hj hc => hj (by simpa using congrArg Prod.fst hc)
  refine ⟨h.G.ev ev (n20 (by decide)), hR, h.W.ev ev (n20 (by decide)), h.B.ev ev (n20 (by decide)) (n20 (by decide)) (fun c hc tg ht hx => ?_), h.T.ev ev (fun tg ht hc => by rw [hc] at ht; have := ht.1; simp at this) (n20 (by decide))⟩
  have := ht.2; rw [hx] at this; simp at this

/-- What a question to the witness turns. -/
theorem Cx.ev34 (h : Cx H g k mb wb sb ss cap bd pwb bk cn E P s B tr M) (hpos : ∀ b ∈ s.T, 0 ≤ (s.O b).id) (ev : Ev (fun tg => tg = (34, 0)) H g H' g') (hT : WtM wb tr M' H' g') : Cx H' g' k mb wb sb ss cap bd pwb bk cn E P s B tr M' := by
  have n34 : ∀ {j : Nat} {z : Int}, j ≠ 34 → ¬ ((fun tg : Nat × Int => tg = (34, 0)) (j, z)) := fun hj hc => hj (by simpa using congrArg Prod.fst hc)
  refine ⟨h.G.ev ev (n34 (by decide)), h.R.off ev fun tg ht hc => ?_, h.W.ev ev (n34 (by decide)), h.B.ev ev (n34 (by decide)) (n34 (by decide)) (fun c hc tg ht hx => ?_), hT⟩
  · rw [ht] at hc; simp at hc
  · have := ht.2; rw [hx] at this; simp at this

theorem Cx.evF (h : Cx H g k mb wb sb ss cap bd pwb bk cn E P s B tr M) (hpos : ∀ b ∈ s.T, 0 ≤ (s.O b).id) (ev : Ev (fun _ => False) H g H' g') : Cx H' g' k mb wb sb ss cap bd pwb bk cn E P s B tr M := h.ev hpos ev fun tg h => h.elim

theorem SpB.n20 {e z : Int} : ¬ SpB e (20, z) := fun h => by have := h.2; simp at this
theorem SpB.n34 {e z : Int} : ¬ SpB e (34, z) := fun h => by have := h.2; simp at this
theorem SpB.n51 {e z : Int} : ¬ SpB e (51, z) := fun h => by have := h.2; simp at this

theorem PsR.one {e : Int} {j pb ss ns bd : Nat} {z : Int} {zs : List Nat} {C : Int → List Sv} (h : PsR H g e pb ss ns bd zs C) (ev : Ev (fun tg => tg = (j, z)) H g H' g') (hj : j = 20 ∨ j = 34 ∨ j = 51) : PsR H' g' e pb ss ns bd zs C :=
  h.ev ev (fun hc => by have := congrArg Prod.fst hc; simp at this; omega) fun tg ht hc => by rw [hc] at ht; have := ht.2; simp at this; omega

/-- What looking at an object may turn. -/
def S28 (k cn : Nat) (tg : Nat × Int) : Prop := tg = (20, (k : Int)) ∨ tg = (34, 0) ∨ tg = (51, 0) ∨ tg = (52, (k : Int)) ∨ ∃ c, cn ≤ c ∧ SpB (cd k c) tg

theorem S28.zero : ¬ S28 k cn (0, 0) := fun h => by
  rcases h with h | h | h | h | ⟨c, _, h⟩
  · have := congrArg Prod.fst h; simp at this
  · have := congrArg Prod.fst h; simp at this
  · have := congrArg Prod.fst h; simp at this
  · have := congrArg Prod.fst h; simp at this
  · exact SpB.zero h

section loops
variable {nm : ByteArray} {ob fb x36n : Nat} {i0 i2 i3 : Int} {p14 : Option Addr} {x34 : Option Addr} {x34n x34c : Nat} {x35 x36 : Int} {R : Value → Heap → Prop} {x : Bk}

/-- The last loop: what is not in the books is zero. -/
theorem f28_L8_ht {H0 : Heap} {g0 : Gh} {Cf : Int → List Sv} (hN : StN ss cap bd s) (hmT : ∀ x b, s.m x = some b → b ∈ s.T) (hup : P.down = false) (hf : fnd s nm = some ob) (hx : B (s.O ob).id = some x) (hbk : bk < 2 ^ 31) (hun : ∀ i : Nat, x.C (i : Int) = [] → secNow ss (s.O ob) i = zer ss)
    (hnext : ∀ H' g', Ev (S28 k cn) H0 g0 H' g' → Cx H' g' k mb wb sb ss cap bd pwb bk (cn + 1) E P s (Bset B (s.O ob).id ⟨fb, cn, [(s.O ob).size], Cf⟩) tr M → f28_L10 (some ⟨sb, 0, none⟩) (some mb) (some ⟨wb, 0, none⟩) (ss : Int) x34 x34n x34c x35 x36 H' R) :
    ∀ (d i : Nat) (H : Heap) (g : Gh), (s.O ob).size + 1 - i = d → (i = 0 ∨ (i - 1) * ss < (s.O ob).size) → Ev (S28 k cn) H0 g0 H g → Cx H g k mb wb sb ss cap bd pwb bk cn E P s B tr M → PsR H g (cd k cn) fb ss cap bk [(s.O ob).size] Cf →
      f28_L8 (some ⟨sb, 0, none⟩) (some mb) (some ⟨wb, 0, none⟩) (ss : Int) nm (s.O ob).id ((s.O ob).size : Int) i2 i3 (some ⟨x.pb, 0, none⟩) (some ⟨fb, 0, none⟩) (i : Int) x34 x34n x34c x35 x36 H R := by
  have hss := hN.shp
  have hm : cap * ss ≤ 12 * 16 := Nat.mul_le_mul hss.2.2 hss.2.1
  have hi5 : Tryz.prog.info? 5 = some Tryz.t5 := by kernel_rfl
  intro d
  induction d with
  | zero =>
    intro i H g hd hi e0 hC hF
    exfalso
    have := Nat.le_mul_of_pos_right (i - 1) hss.1
    rcases hi with hi | hi
    · omega
    · omega
  | succ d ih =>
    intro i H g hd hi e0 hC hF
    have hfs := (hC.R.obs ob (fnd_T hmT hf)).fit.1
    have himul : ((i : Int) * (ss : Int)) = ((i * ss : Nat) : Int) := by simp
    have hi3 : i * ss ≤ (s.O ob).size + 16 := by
      rcases hi with hi | hi
      · subst hi; simp
      · have : i * ss ≤ (i - 1) * ss + ss := by
          rcases Nat.eq_zero_or_pos i with h0 | h0
          · subst h0; simp
          · obtain ⟨m, rfl⟩ : ∃ m, i = m + 1 := ⟨i - 1, by omega⟩
            rw [Nat.add_mul, Nat.one_mul, Nat.add_sub_cancel]
            exact Nat.le_refl _
        omega
    have hil : i ≤ i * ss := Nat.le_mul_of_pos_right _ hss.1
    have hwr : IntKind.wrap .i64 ((i : Int) * (ss : Int)) = ((i * ss : Nat) : Int) := by rw [himul, wrapI] <;> omega
    apply f28_L8_of
    unfold f28_L8_pre
    rw [hwr]
    refine ⟨fun hlt => ?_, fun hlt => ?_⟩
    · have hlt := of_decide_eq_true hlt
      have hP := hC.B.ps _ _ hx
      obtain ⟨sp, sn, sc, r, h1, h2, h3⟩ := hP.ex
      obtain ⟨es, ck, hr, _, hl⟩ := h3.look i
      refine ⟨x.pb, 0, rfl, _, Cells.of h1 rfl, r, es, ck, rfl, hr, ?_⟩
      have again : ∀ (H' : Heap) (g' : Gh), Ev (S28 k cn) H0 g0 H' g' → Cx H' g' k mb wb sb ss cap bd pwb bk cn E P s B tr M → PsR H' g' (cd k cn) fb ss cap bk [(s.O ob).size] Cf → f28_L9 (some ⟨sb, 0, none⟩) (some mb) (some ⟨wb, 0, none⟩) (ss : Int) nm (s.O ob).id ((s.O ob).size : Int) i2 i3 (some ⟨x.pb, 0, none⟩) (some ⟨fb, 0, none⟩) (i : Int) x34 x34n x34c x35 x36 false H' R := by
        intro H' g' e1 hC1 hF1
        apply f28_L9_of
        refine ⟨(fun h => by cases h), fun _ => ?_⟩
        rw [wrapS (by omega)]
        exact ih (i + 1) H' g' (by omega) (.inr (by simpa using (by omega : i * ss < (s.O ob).size))) e1 hC1 hF1
      rcases hl with ⟨hc, hlk⟩ | ⟨_, hc, p, n, c, hlk, hh⟩
      · refine ⟨none, 0, 0, false, hlk, fun _ => ⟨?_, ?_⟩, (fun h => by cases h)⟩
        · refine (f80_ht e0.ok hC.G hC.R hC.W hN hmT hup hf (i := i) (by omega)).mono fun v H2 ⟨sx, g2, hv2, e2, R2, sec2⟩ => ⟨sx.p, sx.n, sx.c, hv2, ?_⟩
          have C2 := hC.ev20 e2 R2
          have F2 := hF.one e2 (.inl rfl)
          refine semOk_make (l := ss) (c := ss) Tryz.underlying35 hi5 (z := .int .u8 0) rfl rfl rfl (Nat.le_refl _) (by omega) (by decide) fun vb H3 ha3 => ⟨_, _, _, rfl, ?_⟩
          obtain ⟨e3, t3⟩ := Ev.al (S := fun _ => False) e2.ok ha3 (0, 0)
          have hz : SecOk H3 (gset g2 vb (0, 0)) ss ⟨some ⟨vb, 0, none⟩, ss, ss⟩ (zer ss) := ⟨rfl, Nat.le_refl _, zer_len, vb, 0, _, rfl, t3, ha3.same, by simp, by simp [zer]⟩
          rw [hun i hc] at sec2
          have sec3 : SecOk H3 (gset g2 vb (0, 0)) ss sx (zer ss) := SecV.ev (v := some (zer ss)) sec2 e3 (fun h => h)
          refine (f34s_ht (sy := ⟨some ⟨vb, 0, none⟩, ss, ss⟩) sec3 hz).mono fun v H4 ⟨he4, hv4⟩ => ⟨_, hv4, ?_⟩
          subst he4
          exact again H4 _ ((e0.trans (e2.mono fun tg h => .inl h)).trans (e3.mono fun tg h => h.elim)) (C2.evF hN.pos e3) (F2.ev e3 (fun h => h) fun _ _ h => h)
        · refine semOk_make (l := ss) (c := ss) Tryz.underlying35 hi5 (z := .int .u8 0) rfl rfl rfl (Nat.le_refl _) (by omega) (by decide) fun vb H3 ha3 => ⟨_, _, _, rfl, ?_⟩
          obtain ⟨e3, t3⟩ := Ev.al (S := fun _ => False) e0.ok ha3 (0, 0)
          have hz : SecOk H3 (gset g vb (0, 0)) ss ⟨some ⟨vb, 0, none⟩, ss, ss⟩ (zer ss) := ⟨rfl, Nat.le_refl _, zer_len, vb, 0, _, rfl, t3, ha3.same, by simp, by simp [zer]⟩
          have C3 := hC.evF hN.pos e3
          have F3 := hF.ev e3 (fun h => h) fun _ _ h => h
          refine (f80_ht e3.ok C3.G C3.R C3.W hN hmT hup hf (i := i) (by omega)).mono fun v H2 ⟨sx, g2, hv2, e2, R2, sec2⟩ => ⟨sx.p, sx.n, sx.c, hv2, ?_⟩
          rw [hun i hc] at sec2
          have hz2 : SecOk H2 g2 ss ⟨some ⟨vb, 0, none⟩, ss, ss⟩ (zer ss) := SecV.ev (v := some (zer ss)) hz e2 (fun hc => by simp at hc)
          refine (f34s_ht (sy := ⟨some ⟨vb, 0, none⟩, ss, ss⟩) sec2 hz2).mono fun v H4 ⟨he4, hv4⟩ => ⟨_, hv4, ?_⟩
          subst he4
          exact again H4 _ ((e0.trans (e3.mono fun tg h => h.elim)).trans (e2.mono fun tg h => .inl h)) (C3.ev20 e2 R2) (F3.one e2 (.inl rfl))
      · refine ⟨p, n, c, true, hlk, (fun h => by cases h), fun _ => again H g e0 hC hF⟩
    · refine hC.B.put e0.ok hF fun H' e1 b1 => ?_
      have n52 : ∀ {j : Nat} {z : Int}, j ≠ 52 → ¬ ((fun tg : Nat × Int => tg = (52, (k : Int))) (j, z)) := fun hj hc => hj (by simpa using congrArg Prod.fst hc)
      refine hnext H' g (e0.trans (e1.mono fun tg h => .inr (.inr (.inr (.inl h))))) ⟨hC.G.ev e1 (n52 (by decide)), hC.R.off e1 (fun tg ht hc => by rw [ht] at hc; simp at hc), hC.W.ev e1 (n52 (by decide)), b1, hC.T.ev e1 (fun tg ht hc => by rw [hc] at ht; have := ht.2; simp at this) (n52 (by decide))⟩

/-- The cut of a value, byte by byte. -/
theorem f28_L6_ht {arr0 : Array Value} {wk wc i : Nat} {x98 fresh : Option Addr} {bs : List Int} {size : Nat} (hss : 0 < ss ∧ ss ≤ 16) (hi : i < 2 ^ 20) (hsz : size < 2 ^ 32) (hl : bs.length = ss) (h0 : arr0.toList.take ss = bs.map fun x => .int .u8 x) (hs0 : ss ≤ arr0.size)
    (hnext : ∀ H' arr', (∀ y, y ≠ wk → H' y = H y) → H' wk = some (.cells arr' 5 (0, 0)) → ss ≤ arr'.size → arr'.toList.take ss = (cutL ss size i bs).map (fun x => .int .u8 x) → f28_L6 (some ⟨sb, 0, none⟩) (some mb) (some ⟨wb, 0, none⟩) (ss : Int) nm i0 (size : Int) i2 i3 p14 fresh (i : Int) (some ⟨wk, 0, none⟩) ss wc x34 x34n x34c x35 x36 x98 (ss : Int) (ss : Int) H' R) :
    ∀ (d r : Nat) (H1 : Heap) (arr : Array Value), ss - r = d → r ≤ ss → (∀ y, y ≠ wk → H1 y = H y) → H1 wk = some (.cells arr 5 (0, 0)) → ss ≤ arr.size → (∀ j, j < ss → arr[j]? = some (.int .u8 (if j < r ∧ ¬ (i * ss + j < size) then 0 else (bs[j]?).getD 0))) →
      f28_L6 (some ⟨sb, 0, none⟩) (some mb) (some ⟨wb, 0, none⟩) (ss : Int) nm i0 (size : Int) i2 i3 p14 fresh (i : Int) (some ⟨wk, 0, none⟩) ss wc x34 x34n x34c x35 x36 x98 (ss : Int) (r : Int) H1 R := by
  intro d
  induction d with
  | zero =>
    intro r H1 arr hd hr hk hb hs ha
    have hrs : r = ss := by omega
    subst hrs
    refine hnext H1 arr hk hb hs ?_
    apply List.ext_getElem?
    intro j
    unfold cutL
    rw [List.getElem?_take, List.getElem?_map, List.getElem?_map]
    by_cases hj : j < r
    · rw [if_pos hj, Array.getElem?_toList, ha j hj, List.getElem?_range hj]
      simp only [Option.map_some]
      congr 2
      by_cases hx : i * r + j < size
      · rw [if_neg (by omega), if_pos hx]
      · rw [if_pos ⟨hj, hx⟩, if_neg hx]
    · rw [if_neg hj, List.getElem?_eq_none (by simp; omega)]
      rfl
  | succ d ih =>
    intro r H1 arr hd hr hk hb hs ha
    have hrs : r < ss := by omega
    have himul : ((i : Int) * (ss : Int)) = ((i * ss : Nat) : Int) := by simp
    have hib : i * ss < 2 ^ 25 := by
      have := Nat.mul_le_mul (Nat.le_of_lt hi) hss.2
      exact Nat.lt_of_le_of_lt this (by decide)
    have hwr : IntKind.wrap .i64 (IntKind.wrap .i64 ((i : Int) * (ss : Int)) + (r : Int)) = ((i * ss + r : Nat) : Int) := by
      rw [himul, wrapI (x := ((i * ss : Nat) : Int)) (by omega) (by omega), wrapI] <;> omega
    apply f28_L6_of
    refine ⟨fun _ => ⟨fun hge => ?_, fun hge => ?_⟩, fun hx => by have := of_decide_eq_false hx; omega⟩
    · rw [hwr] at hge
      have hge := of_decide_eq_true hge
      refine ⟨wk, 0, rfl, by omega, by omega, arr, 5, hb, by simp; omega, fun H2 hw2 => ?_⟩
      apply f28_L7_of
      unfold f28_L7_pre
      rw [wrapS (by omega)]
      refine ih (r + 1) H2 _ (by omega) (by omega) (fun y hy => (hw2.other hy).trans (hk y hy)) hw2.same (by rw [setAll_size]; exact hs) fun j hj => ?_
      have hoff : 0 + ((r : Nat) : Int).toNat * 1 = r := by simp
      rw [hoff, setAll_get _ _ _ _ (by simp; omega)]
      by_cases hjr : j = r
      · subst hjr
        rw [if_pos ⟨Nat.le_refl _, by simp⟩, if_pos ⟨by omega, by omega⟩]
        simp
      · rw [if_neg (by simp; omega), ha j hj]
        congr 2
        by_cases hx : j < r ∧ ¬ (i * ss + j < size)
        · rw [if_pos hx, if_pos ⟨by omega, hx.2⟩]
        · rw [if_neg hx, if_neg (by intro hy; exact hx ⟨by omega, hy.2⟩)]
    · rw [hwr] at hge
      have hge := of_decide_eq_false hge
      apply f28_L7_of
      unfold f28_L7_pre
      rw [wrapS (by omega)]
      refine ih (r + 1) H1 arr (by omega) (by omega) hk hb hs fun j hj => ?_
      rw [ha j hj]
      congr 2
      by_cases hjr : j = r
      · subst hjr
        rw [if_neg (by omega), if_neg (by omega)]
      · by_cases hx : j < r ∧ ¬ (i * ss + j < size)
        · rw [if_pos hx, if_pos ⟨by omega, hx.2⟩]
        · rw [if_neg hx, if_neg (by intro hy; exact hx ⟨by omega, hy.2⟩)]

end loops

end

end Go.Proofs.Qxb6500695aGreatFmt
