/-
  A PAST: note.
-/
import Derived.Test.Qxb6500695aGreatFmtKf
namespace Go.Proofs.Qxb6500695aGreatFmt
open Go Go.Eng Go.Proofs
set_option maxRecDepth 100000
set_option linter.unusedVariables false
set_option linter.unusedSimpArgs false
set_option linter.unusedSectionVars false

/-- The owners of the books are below all others. -/
theorem SpB.nI {k e : Int} {tg : Nat × Int} (hk : 0 ≤ k) (he : e ≤ -10) (h : SpB e tg) : ¬ SpI k tg := by
  obtain ⟨h1, h2⟩ := h
  rintro ⟨h3 | ⟨_, j, hj, h3⟩ | h3, _⟩
  · omega
  · unfold zO at h3; omega
  · omega

theorem SpB.nK {k e : Int} {tg : Nat × Int} (hk : 0 ≤ k ∧ k < 3) (he : e ≤ -10) (h : SpB e tg) : ¬ SpK k tg := by
  obtain ⟨h1, h2⟩ := h
  rintro ((h3 | ⟨_, j, hj, h3⟩ | h3) | h3 | h3 | h3)
  · omega
  · unfold zO at h3; omega
  · omega
  · rw [h3] at h1 h2; simp at h1; omega
  · have := h3.rng; unfold eD at this; omega
  · rw [h3] at h1; simp at h1; omega

section
variable {S : Nat × Int → Prop} {H H' : Heap} {g g' : Gh} {e k : Int} {pb r ss ns bd bk sb cap pwb : Nat} {zs : List Nat} {C C' : Int → List Sv} {s : StV} {E : Nat → Value} {P : Pw}

/-- The values noted so far. -/
def noteT (ss a i : Nat) (vals : Nat → List Int) (C : Int → List Sv) : Int → List Sv := fun j =>
  if ((a / ss : Nat) : Int) ≤ j ∧ j < (i : Int) then (if C j = [] then [some (zer ss)] else C j) ++ [some (vals j.toNat)] else C j

theorem noteT_next {a i : Nat} {vals : Nat → List Int} (hi : a / ss ≤ i) : Cset (noteT ss a i vals C) (i : Int) ((if C (i : Int) = [] then [some (zer ss)] else C (i : Int)) ++ [some (vals i)]) = noteT ss a (i + 1) vals C := by
  funext j
  unfold Cset noteT
  generalize a / ss = q at *
  by_cases hj : j = (i : Int)
  · subst hj
    have h1 : (q : Int) ≤ (i : Int) ∧ (i : Int) < ((i + 1 : Nat) : Int) := by omega
    simp only [if_true, h1, and_self, Int.toNat_natCast]
  · by_cases hx : (q : Int) ≤ j ∧ j < (i : Int)
    · have h2 : (q : Int) ≤ j ∧ j < ((i + 1 : Nat) : Int) := by omega
      simp only [hj, if_false, hx, h2, and_self, if_true]
    · have h2 : ¬ ((q : Int) ≤ j ∧ j < ((i + 1 : Nat) : Int)) := by omega
      simp only [hj, if_false, hx, h2]

theorem noteT_at {a i : Nat} {vals : Nat → List Int} : noteT ss a i vals C (i : Int) = C (i : Int) := by
  unfold noteT
  rw [if_neg (by omega)]

theorem noteT_start {a : Nat} {vals : Nat → List Int} : noteT ss a (a / ss) vals C = C := by
  funext j
  unfold noteT
  rw [if_neg (by omega)]

theorem noteT_end {a b i : Nat} {vals : Nat → List Int} (h0 : 0 < ss) (h : (a < b ∧ b ≤ i * ss ∧ (i - 1) * ss < b ∧ 1 ≤ i) ∨ (b ≤ a ∧ i = a / ss)) : noteT ss a i vals C = noteC ss a b vals C := by
  funext j
  unfold noteT noteC
  rcases h with ⟨h1, h2, h3, h4⟩ | ⟨h1, h2⟩
  · by_cases hj : 0 ≤ j
    · obtain ⟨m, rfl⟩ : ∃ m : Nat, j = (m : Int) := ⟨j.toNat, by omega⟩
      have hm : ((m : Int) * (ss : Int)) = ((m * ss : Nat) : Int) := by simp
      rw [hm]
      generalize a / ss = q at *
      have hiff : ((q : Int) ≤ (m : Int) ∧ (m : Int) < (i : Int)) ↔ (a < b ∧ (q : Int) ≤ (m : Int) ∧ ((m * ss : Nat) : Int) < (b : Int)) := by
        constructor
        · rintro ⟨x1, x2⟩
          have x3 : m ≤ i - 1 := by omega
          have x4 := Nat.mul_le_mul_right ss x3
          exact ⟨h1, x1, by omega⟩
        · rintro ⟨x1, x2, x3⟩
          refine ⟨x2, ?_⟩
          have x4 : m * ss < i * ss := by omega
          have := Nat.lt_of_mul_lt_mul_right x4
          omega
      simp only [hiff]
    · have n1 : ¬ (((a / ss : Nat) : Int) ≤ j ∧ j < (i : Int)) := by
        rintro ⟨x1, _⟩
        have : (0 : Int) ≤ ((a / ss : Nat) : Int) := Int.natCast_nonneg _
        exact hj (Int.le_trans this x1)
      have n2 : ¬ (a < b ∧ ((a / ss : Nat) : Int) ≤ j ∧ j * (ss : Int) < (b : Int)) := by
        rintro ⟨_, x1, _⟩
        have : (0 : Int) ≤ ((a / ss : Nat) : Int) := Int.natCast_nonneg _
        exact hj (Int.le_trans this x1)
      rw [if_neg n1, if_neg n2]
  · subst h2
    have n1 : ¬ (((a / ss : Nat) : Int) ≤ j ∧ j < ((a / ss : Nat) : Int)) := by omega
    have n2 : ¬ (a < b ∧ ((a / ss : Nat) : Int) ≤ j ∧ j * (ss : Int) < (b : Int)) := by
      rintro ⟨x, _⟩; omega
    rw [if_neg n1, if_neg n2]

theorem f23_L1_ht {H0 : Heap} {g0 : Gh} {nm : ByteArray} {ob a b : Nat} (hk : 0 ≤ k) (he : e ≤ -10) (hbk : bk + 8 < 2 ^ 31) (hbk1 : 1 ≤ bk) (hN : StN ss cap bd s) (hmT : ∀ x b, s.m x = some b → b ∈ s.T) (hup : P.down = false) (hf : fnd s nm = some ob) (hab : a < b → b ≤ cap * ss) (hns : cap ≤ ns) (hCb : ∀ j : Int, (C j).length ≤ bk) :
    ∀ (d i : Nat) (H : Heap) (g : Gh), b + 1 - i = d → a / ss ≤ i → ((a < b ∧ (i = a / ss ∨ ((i - 1) * ss < b ∧ 1 ≤ i))) ∨ (b ≤ a ∧ i = a / ss)) → Ev (fun tg => SpI k tg ∨ SpB e tg) H0 g0 H g → Gl H g E → StR H g k sb ss cap bd pwb s → PwR H g k pwb P → PsR H g e pb ss ns (bk + 1) zs (noteT ss a i (secNow ss (s.O ob)) C) →
      f23_L1 (some ⟨pb, 0, none⟩) (some ⟨sb, 0, none⟩) nm (a : Int) (b : Int) (ss : Int) (i : Int) H fun v H' => v = .tuple #[] ∧ ∃ g', Ev (fun tg => SpI k tg ∨ SpB e tg) H0 g0 H' g' ∧ StR H' g' k sb ss cap bd pwb s ∧ PsR H' g' e pb ss ns (bk + 2) (noteZ zs (s.O ob).size) (noteC ss a b (secNow ss (s.O ob)) C) := by
  have hss := hN.shp
  have hm : cap * ss ≤ 12 * 16 := Nat.mul_le_mul hss.2.2 hss.2.1
  have q0 : ¬ (SpI k (0, 0) ∨ SpB e (0, 0)) := fun h => h.elim SpI.zero SpB.zero
  -- the end
  have fin : ∀ (H : Heap) (g : Gh), Ev (fun tg => SpI k tg ∨ SpB e tg) H0 g0 H g → Gl H g E → StR H g k sb ss cap bd pwb s → PwR H g k pwb P → PsR H g e pb ss ns (bk + 1) zs (noteC ss a b (secNow ss (s.O ob)) C) → ∀ i : Int,
      f23_L2 (some ⟨pb, 0, none⟩) (some ⟨sb, 0, none⟩) nm (a : Int) (b : Int) (ss : Int) i false H fun v H' => v = .tuple #[] ∧ ∃ g', Ev (fun tg => SpI k tg ∨ SpB e tg) H0 g0 H' g' ∧ StR H' g' k sb ss cap bd pwb s ∧ PsR H' g' e pb ss ns (bk + 2) (noteZ zs (s.O ob).size) (noteC ss a b (secNow ss (s.O ob)) C) := by
    intro H g e0 hG hR hP hPs i
    apply f23_L2_of
    refine ⟨(fun h => by cases h), fun _ => ?_⟩
    refine (f81_ht hG hR hP hmT hup hf).mono fun v H1 ⟨he1, hv1⟩ => ⟨_, _, hv1, ?_⟩
    subst he1
    refine (f24_ht hPs (by omega)).mono fun v H2 ⟨he2, hv2⟩ => ⟨_, hv2, fun hne => ?_, fun heq => ?_⟩
    · subst he2
      have hne : (s.O ob).size ≠ lastZ zs := fun hc => by rw [hc] at hne; simp at hne
      obtain ⟨sp, sn, sc, r, h1, h2, h3⟩ := hPs.ex
      have hi2 : Tryz.prog.info? 2 = some Tryz.t2 := by kernel_rfl
      have hlen := h2.own.len
      rw [List.length_map] at hlen
      have hnb := hPs.nb
      refine ⟨pb, 0, rfl, sp, sn, sc, Cells.of h1 rfl, fun b62 H3 ha => ?_⟩
      refine appT (S := fun tg => tg = (16, e)) (inf := Tryz.t2) (zero := .int .i64 0) (x := nI (s.O ob).size) (enc := I64.cs) Tryz.underlying60 hi2 rfl rfl (by decide) rfl ha rfl (by intro v hv; simp [I64.cs] at hv; subst hv; rfl) e0.ok h2 rfl (by omega) fun p' c' H4 g4 _ e4 ow _ => ⟨p', _, c', rfl, ?_⟩
      have n16 : ∀ {i : Nat} {z : Int}, i ≠ 16 → ¬ ((fun tg : Nat × Int => tg = (16, e)) (i, z)) := fun hi hc => hi (by simpa using congrArg Prod.fst hc)
      have k1 := e4.get hPs.tag (n16 (by decide)) h1
      refine ⟨pb, 0, rfl, _, _, k1, by simp, fun H5 hw5 => ⟨rfl, ?_⟩⟩
      have hw5' : Wr H4 pb (.cells #[.slice p' (sn + 1) c', .map (some r)] 63 (0, 0)) H5 := hw5
      have e5 : Ev (fun tg => tg = (11, e)) H4 g4 H5 g4 := Ev.wr e4.ok hw5' fun tg htg => by rw [e4.tag _ _ hPs.tag] at htg; cases htg; rfl
      have n11 : ∀ {i : Nat} {z : Int}, i ≠ 11 → ¬ ((fun tg : Nat × Int => tg = (11, e)) (i, z)) := fun hi hc => hi (by simpa using congrArg Prod.fst hc)
      have e45 : Ev (fun tg => SpI k tg ∨ SpB e tg) H2 g H5 g4 := (e4.mono fun tg h => .inr (by rw [h]; exact ⟨rfl, by simp⟩)).trans (e5.mono fun tg h => .inr (by rw [h]; exact ⟨rfl, by simp⟩))
      have e45B : Ev (SpB e) H2 g H5 g4 := (e4.mono fun tg h => by rw [h]; exact ⟨rfl, by simp⟩).trans (e5.mono fun tg h => by rw [h]; exact ⟨rfl, by simp⟩)
      have hz : noteZ zs (s.O ob).size = zs ++ [(s.O ob).size] := by unfold noteZ; rw [if_neg hne]
      refine ⟨g4, e0.trans e45, hR.ev e45B SpB.zero (fun hc => by have := hc.2; simp at this) (fun tg ht hc => by have := ht.2; have := hc.2; omega) (fun b hb tg ht hc => ?_), e45.tag _ _ hPs.tag, by rw [hz]; simp, by rw [hz]; simp; omega, p', sn + 1, c', r, hw5'.same, ?_, ?_⟩
      · have h6 := ht.rng.1
        have h7 := hc.1
        have h8 := hN.pos b hb
        unfold zO at h6
        omega
      · rw [hz, List.map_append]
        exact ow.ev e5 (n11 (by decide))
      · exact ((h3.ev e4 (n16 (by decide)) (n16 (by decide)) fun i _ => n16 (by omega)).ev e5 (n11 (by decide)) (n11 (by decide)) fun i _ => n11 (by omega)).mono (by omega)
    · subst he2
      have heq : (s.O ob).size = lastZ zs := by
        have := heq
        simp at this
        omega
      refine ⟨rfl, g, e0, hR, ?_⟩
      have hz : noteZ zs (s.O ob).size = zs := by unfold noteZ; rw [if_pos heq]
      rw [hz]
      exact hPs.mono (by omega)
  intro d
  induction d with
  | zero =>
    intro i H g hd hi hinv e0 hG hR hP hPs
    have hib : b ≤ i * ss := by
      have : i ≤ i * ss := Nat.le_mul_of_pos_right _ hss.1
      omega
    apply f23_L1_of
    refine ⟨fun hlt => ?_, fun hlt => ?_⟩
    · have hlt := of_decide_eq_true hlt
      have hi2 : (i - 1) * ss < b ∧ 1 ≤ i := by
        rcases hinv with ⟨_, h1 | h1⟩ | ⟨h1, _⟩
        · have := Nat.div_mul_le_self a ss
          rw [← h1] at this
          omega
        · exact h1
        · omega
      have himul : ((i : Int) * (ss : Int)) = ((i * ss : Nat) : Int) := by simp
      have hi3 : i * ss ≤ b + 16 := by
        have : i * ss = (i - 1) * ss + ss := by
          obtain ⟨m, rfl⟩ : ∃ m, i = m + 1 := ⟨i - 1, by omega⟩
          rw [Nat.add_mul, Nat.one_mul, Nat.add_sub_cancel]
        omega
      have := hab (by omega)
      have hd2 : decide (IntKind.wrap .i64 ((i : Int) * (ss : Int)) < (b : Int)) = false := by
        rw [himul, wrapI (by omega) (by omega)]
        simp
        omega
      rw [hd2]
      rw [noteT_end hss.1 (.inl ⟨by omega, hib, hi2.1, hi2.2⟩)] at hPs
      exact fin H g e0 hG hR hP hPs _
    · have hlt := of_decide_eq_false hlt
      have : b ≤ a ∧ i = a / ss := by
        rcases hinv with ⟨h1, _⟩ | h1
        · omega
        · exact h1
      rw [noteT_end hss.1 (.inr this)] at hPs
      exact fin H g e0 hG hR hP hPs _
  | succ d ih =>
    intro i H g hd hi hinv e0 hG hR hP hPs
    apply f23_L1_of
    refine ⟨fun hlt => ?_, fun hlt => ?_⟩
    · have hlt := of_decide_eq_true hlt
      have hab' := hab (by omega)
      have himul : ((i : Int) * (ss : Int)) = ((i * ss : Nat) : Int) := by simp
      have hi3 : i * ss ≤ b + 16 := by
        rcases hinv with ⟨_, h1 | h1⟩ | ⟨h1, _⟩
        · have := Nat.div_mul_le_self a ss
          rw [← h1] at this
          omega
        · have : i * ss = (i - 1) * ss + ss := by
            obtain ⟨m, rfl⟩ : ∃ m, i = m + 1 := ⟨i - 1, by omega⟩
            rw [Nat.add_mul, Nat.one_mul, Nat.add_sub_cancel]
          omega
        · omega
      rw [himul, wrapI (by omega) (by omega)]
      cases hdd : decide (((i * ss : Nat) : Int) < (b : Int)) with
      | false =>
        have hdd := of_decide_eq_false hdd
        have hi2 : (i - 1) * ss < b ∧ 1 ≤ i := by
          rcases hinv with ⟨_, h1 | h1⟩ | ⟨h1, _⟩
          · have := Nat.div_mul_le_self a ss
            rw [← h1] at this
            omega
          · exact h1
          · omega
        rw [noteT_end hss.1 (.inl ⟨by omega, by omega, hi2.1, hi2.2⟩)] at hPs
        exact fin H g e0 hG hR hP hPs _
      | true =>
        have hdd := of_decide_eq_true hdd
        have hin : i < ns := by
          have : i * ss < cap * ss := by omega
          have := Nat.lt_of_mul_lt_mul_right this
          omega
        obtain ⟨sp, sn, sc, r, h1, h2, h3⟩ := hPs.ex
        apply f23_L2_of
        refine ⟨fun _ => ⟨pb, 0, rfl, _, Cells.of h1 rfl, ?_⟩, (fun h => by cases h)⟩
        refine (f79_ht e0.ok hPs hss.2.1 (by omega) (i := i)).mono fun v H1 ⟨p1, n1, c1, g1, hv1, e1, hh1⟩ => ⟨p1, n1, c1, hv1, ?_⟩
        rw [noteT_at] at hh1
        have hbk' : (if C (i : Int) = [] then [some (zer ss)] else C (i : Int)).length ≤ bk := by
          split
          · exact hbk1
          · exact hCb _
        have hh1 : HiL H1 g1 e ss bk i p1 n1 c1 (if C (i : Int) = [] then [some (zer ss)] else C (i : Int)) := ⟨hh1.own, hh1.ne, hh1.so, hbk'⟩
        have hP1 := hPs.ev e1 (fun h => h) fun _ _ h => h
        have k1 := e1.get hPs.tag (fun h => h) h1
        refine ⟨Cells.of k1 rfl, ?_⟩
        have G1 := hG.ev e1 (fun h => h)
        have R1 := hR.off e1 none_off
        have W1 := hP.ev e1 (fun h => h)
        refine (f80_ht e1.ok G1 R1 W1 hN hmT hup hf (i := i) (by omega)).mono fun v H2 ⟨sx, g2, hv2, e2', R2, sec2⟩ => ⟨sx.p, sx.n, sx.c, hv2, ?_⟩
        have e2 : Ev (SpI k) H1 g1 H2 g2 := e2'.mono fun tg h => SpI.st h
        have nI2 : ∀ tg, SpB e tg → ¬ SpI k tg := fun tg h => h.nI hk he
        have hP2 := hP1.ev e2 SpI.zero nI2
        have hh2 := hh1.ev e2 SpI.zero (nI2 _ ⟨rfl, by simp⟩)
        have k2 := e2.get (e1.tag _ _ hPs.tag) (nI2 _ ⟨rfl, by simp⟩) k1
        refine ⟨Cells.of k2 rfl, fun b44 H3 ha3 => ?_⟩
        refine hh2.app e2.ok (by omega) (sx := sx) ha3 sec2 fun p4 c4 H4 g4 e4 hh4 => ⟨p4, _, c4, rfl, ?_⟩
        have n0 : ¬ ((fun tg : Nat × Int => tg = (100 + i, e)) (0, 0)) := fun hc => by
          have := congrArg Prod.fst hc; simp at this; omega
        have ni : ∀ {j : Nat}, j < 100 → ¬ ((fun tg : Nat × Int => tg = (100 + i, e)) (j, e)) := fun hj hc => by
          have := congrArg Prod.fst hc; simp at this; omega
        have T2 := e2.tag _ _ (e1.tag _ _ hPs.tag)
        have k4 := e4.get T2 (ni (by decide)) k2
        refine ⟨Cells.of k4 rfl, ?_⟩
        obtain ⟨sp', sn', sc', r', q1, q2, q3⟩ := hP2.ex
        rw [k2] at q1
        simp only [Option.some.injEq, Obj.cells.injEq] at q1
        obtain ⟨q1, _, _⟩ := q1
        have qq : sp = sp' ∧ sn = sn' ∧ sc = sc' ∧ r = r' := by
          simp at q1
          exact ⟨q1.1.1, q1.1.2.1, q1.1.2.2, q1.2⟩
        obtain ⟨rfl, rfl, rfl, rfl⟩ := qq
        have q4 : PsM H4 g4 e r ss ns (bk + 1) (noteT ss a i (secNow ss (s.O ob)) C) fun j => j ≠ (i : Int) := by
          obtain ⟨w1, es, ck, w2, w3, w4, w5⟩ := q3
          refine ⟨e4.tag _ _ w1, es, ck, e4.get w1 (ni (by decide)) w2, w3, fun en hen hd => (w4 en hen trivial).ev e4 n0 fun hc => ?_, w5⟩
          have := congrArg Prod.fst hc
          simp at this
          have := (w4 en hen trivial).1
          omega
        refine PsM.put e4.ok q4 hin hh4 fun H5 e5 q5 => ?_
        rw [noteT_next hi] at q5
        have n14 : ∀ {j : Nat} {z : Int}, j ≠ 14 → ¬ ((fun tg : Nat × Int => tg = (14, e)) (j, z)) := fun hj hc => hj (by simpa using congrArg Prod.fst hc)
        have e25 : Ev (SpB e) H2 g2 H5 g4 := (e4.mono fun tg h => by rw [h]; exact ⟨rfl, by simp⟩).trans (e5.mono fun tg h => by rw [h]; exact ⟨rfl, by simp⟩)
        have R5 := R2.ev e25 SpB.zero (fun hc => by have := hc.2; simp at this) (fun tg ht hc => by have := ht.2; have := hc.2; omega) (fun b hb tg ht hc => by
          have h6 := ht.rng.1
          have h7 := hc.1
          have h8 := hN.pos b hb
          unfold zO at h6
          omega)
        have W5 := (W1.in e2).ev e25 (fun hc => by have := hc.2; simp at this)
        have e05 : Ev (fun tg => SpI k tg ∨ SpB e tg) H g H5 g4 := ((e1.mono fun tg h => h.elim).trans (e2.mono fun tg h => .inl h)).trans (e25.mono fun tg h => .inr h)
        rw [wrapS (by omega)]
        refine ih (i + 1) H5 g4 (by omega) (by omega) (.inl ⟨by omega, .inr ⟨by simpa using (by omega : i * ss < b), by omega⟩⟩) (e0.trans e05) (hG.ev e05 q0) R5 W5 ⟨e05.tag _ _ hPs.tag, hPs.ne, hPs.nb, sp, sn, sc, r, e5.get (e4.tag _ _ T2) (n14 (by decide)) k4, (q2.ev e4 (ni (by decide))).ev e5 (n14 (by decide)), q5⟩
    · have hlt := of_decide_eq_false hlt
      have : b ≤ a ∧ i = a / ss := by
        rcases hinv with ⟨h1, _⟩ | h1
        · omega
        · exact h1
      rw [noteT_end hss.1 (.inr this)] at hPs
      exact fin H g e0 hG hR hP hPs _

theorem f23_ht {nm : ByteArray} {ob a b : Nat} (hg : GOk H g) (hG : Gl H g E) (hR : StR H g k sb ss cap bd pwb s) (hP : PwR H g k pwb P) (hPs : PsR H g e pb ss ns bk zs C) (hk : 0 ≤ k) (he : e ≤ -10) (hbk : bk + 8 < 2 ^ 31) (hbk1 : 1 ≤ bk) (hN : StN ss cap bd s) (hmT : ∀ x b, s.m x = some b → b ∈ s.T) (hup : P.down = false) (hf : fnd s nm = some ob) (ha : a < 2 ^ 63) (hab : a < b → b ≤ cap * ss) (hns : cap ≤ ns) (hCb : ∀ j : Int, (C j).length ≤ bk) :
    HT Tryz.prog 23 [.pointer (some ⟨pb, 0, none⟩), .pointer (some ⟨sb, 0, none⟩), .string nm, .int .i64 (a : Int), .int .i64 (b : Int)] H fun v H' => v = .tuple #[] ∧ ∃ g', Ev (fun tg => SpI k tg ∨ SpB e tg) H g H' g' ∧ StR H' g' k sb ss cap bd pwb s ∧ PsR H' g' e pb ss ns (bk + 2) (noteZ zs (s.O ob).size) (noteC ss a b (secNow ss (s.O ob)) C) := by
  have hss := hN.shp
  have h18 : HT Tryz.prog 18 [.pointer (some ⟨sb, 0, none⟩)] H fun v H' => H' = H ∧ v = .int .i64 (ss : Int) := by
    obtain ⟨db, q, h1, h2⟩ := hR.ex
    apply f18_of
    exact ⟨sb, 0, rfl, _, Cells.of h1 rfl, rfl, rfl⟩
  apply f23_of
  refine h18.mono fun v H1 ⟨he1, hv1⟩ => ⟨_, hv1, _, binIs_quo (P := Tryz.prog) (t := 2) (x := .tmp 16) (y := .tmp 17) (by omega), ?_⟩
  subst he1
  have hdl : a / ss ≤ a := Nat.div_le_self _ _
  have hq : IntKind.wrap .i64 (Int.tdiv (a : Int) (ss : Int)) = ((a / ss : Nat) : Int) := by
    have : Int.tdiv (a : Int) (ss : Int) = ((a / ss : Nat) : Int) := by simp [Int.ofNat_tdiv]
    rw [this]
    clear this
    generalize a / ss = q at *
    exact wrapI (by omega) (by omega)
  rw [hq]
  refine f23_L1_ht (C := C) hk he hbk hbk1 hN hmT hup hf hab hns hCb _ (a / ss) H1 g rfl (Nat.le_refl _) ?_ (Ev.refl hg) hG hR hP ?_
  · rcases Nat.lt_or_ge a b with h | h
    · exact .inl ⟨h, .inl rfl⟩
    · exact .inr ⟨h, rfl⟩
  · rw [noteT_start]
    exact hPs.mono (by omega)

end

end Go.Proofs.Qxb6500695aGreatFmt
