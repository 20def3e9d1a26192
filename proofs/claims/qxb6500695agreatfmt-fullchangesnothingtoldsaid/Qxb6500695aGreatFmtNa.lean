/-
  THE POWER SUPPLY.
-/
import Derived.Test.Qxb6500695aGreatFmtXa
namespace Go.Proofs.Qxb6500695aGreatFmt
open Go Go.Eng Go.Proofs
set_option maxRecDepth 100000
set_option linter.unusedVariables false
set_option linter.unusedSimpArgs false
set_option linter.unusedSectionVars false

/-- The errors that the packages declare: block b holds E b. -/
def Gl (H : Heap) (g : Gh) (E : Nat → Value) : Prop := ∀ b, b < 9 → b ≠ 5 → g b = some (0, 0) ∧ ∃ t x, E b = .iface t x ∧ Cells H b 0 [.iface t x]

/-- A supply, as it is meant. -/
structure Pw where
  down : Bool
  armed : Bool
  fuse : Int

/-- A supply as it lies. -/
def PwR (H : Heap) (g : Gh) (k : Int) (pb : Nat) (P : Pw) : Prop :=
  g pb = some (26, k) ∧ ∃ steps cuts : Int, H pb = some (.cells #[.bool P.down, .bool P.armed, .int .i64 P.fuse, .int .u64 steps, .int .u64 cuts] 221 (0, 0))

def SpW (k : Int) (tg : Nat × Int) : Prop := tg = (26, k)

section
variable {S : Nat × Int → Prop} {H H' : Heap} {g g' : Gh} {k : Int} {pb : Nat} {P : Pw} {E : Nat → Value}

theorem Gl.ev (h : Gl H g E) (ev : Ev S H g H' g') (h0 : ¬ S (0, 0)) : Gl H' g' E := fun b hb h5 => by
  obtain ⟨h1, t, x, h2, c, T, fr, h3, h4⟩ := h b hb h5
  exact ⟨ev.tag _ _ h1, t, x, h2, c, T, fr, ev.get h1 h0 h3, h4⟩

theorem Gl.get (h : Gl H g E) (b : Nat) (hb : b < 9) (h5 : b ≠ 5) : ∃ t x, E b = .iface t x ∧ Cells H b 0 [.iface t x] := by
  obtain ⟨h1, t, x, h2, h3⟩ := h b hb h5
  exact ⟨t, x, h2, h3⟩

theorem PwR.ev (h : PwR H g k pb P) (ev : Ev S H g H' g') (hS : ¬ S (26, k)) : PwR H' g' k pb P := by
  obtain ⟨h1, s, c, h2⟩ := h
  exact ⟨ev.tag _ _ h1, s, c, ev.get h1 hS h2⟩

theorem pwWr {o : Obj} {H1 : Heap} (hg : GOk H g) (ht : g pb = some (26, k)) (hw : Wr H pb o H1) : Ev (SpW k) H g H1 g :=
  Ev.wr hg hw fun tg htg => by rw [ht] at htg; cases htg; exact rfl

theorem SpW.zero : ¬ SpW k (0, 0) := fun h => by simp [SpW] at h

theorem f75_ht (hG : Gl H g E) (h : PwR H g k pb P) : HT Tryz.prog 75 [.pointer (some ⟨pb, 0, none⟩)] H fun v H' => H' = H ∧ v = if P.down then E 0 else .nilIface := by
  obtain ⟨h1, s, c, h2⟩ := h
  obtain ⟨t, x, he, hc⟩ := hG.get 0 (by decide) (by decide)
  apply f75_of
  refine ⟨pb, 0, rfl, P.down, Cells.of h2 rfl, fun hd => ⟨t, x, hc, rfl, ?_⟩, fun hd => ⟨rfl, ?_⟩⟩
  · rw [if_pos hd, he]
  · rw [if_neg (by simp [hd])]

theorem f85_ht (h : PwR H g k pb P) : HT Tryz.prog 85 [.pointer (some ⟨pb, 0, none⟩)] H fun v H' => H' = H ∧ v = .bool P.down := by
  obtain ⟨h1, s, c, h2⟩ := h
  apply f85_of
  exact ⟨pb, 0, rfl, P.down, Cells.of h2 rfl, rfl, rfl⟩

theorem f95_ht (hg : GOk H g) (h : PwR H g k pb P) : HT Tryz.prog 95 [.pointer (some ⟨pb, 0, none⟩)] H fun v H' => v = .tuple #[] ∧ Ev (SpW k) H g H' g ∧ PwR H' g k pb ⟨true, false, 0⟩ := by
  obtain ⟨h1, s, c, h2⟩ := h
  have last : ∀ {H1 : Heap} {c1 : Int} {a : Bool} {f : Int}, Ev (SpW k) H g H1 g → H1 pb = some (.cells #[.bool true, .bool a, .int .i64 f, .int .u64 s, .int .u64 c1] 221 (0, 0)) →
      f95_L1 (some ⟨pb, 0, none⟩) H1 fun v H' => v = .tuple #[] ∧ Ev (SpW k) H g H' g ∧ PwR H' g k pb ⟨true, false, 0⟩ := by
    intro H1 c1 a f e1 hb
    apply f95_L1_of
    refine ⟨pb, 0, rfl, _, _, hb, by simp, fun H2 hw2 => ?_⟩
    have hw2' : Wr H1 pb (.cells #[.bool true, .bool false, .int .i64 f, .int .u64 s, .int .u64 c1] 221 (0, 0)) H2 := hw2
    refine ⟨pb, 0, rfl, _, _, hw2'.same, by simp, fun H3 hw3 => ?_⟩
    have hw3' : Wr H2 pb (.cells #[.bool true, .bool false, .int .i64 0, .int .u64 s, .int .u64 c1] 221 (0, 0)) H3 := hw3
    have e2 := pwWr e1.ok h1 hw2'
    have e3 := pwWr e2.ok h1 hw3'
    exact ⟨rfl, (e1.trans e2).trans e3, h1, s, c1, hw3'.same⟩
  apply f95_of
  refine ⟨pb, 0, rfl, P.down, Cells.of h2 rfl, fun hd => ?_, fun hd => ?_⟩
  · refine ⟨pb, 0, rfl, _, _, h2, by simp, fun H1 hw1 => ?_⟩
    have hw1' : Wr H pb (.cells #[.bool true, .bool P.armed, .int .i64 P.fuse, .int .u64 s, .int .u64 c] 221 (0, 0)) H1 := hw1
    refine ⟨pb, 0, rfl, c, Cells.of hw1'.same rfl, pb, 0, rfl, _, _, hw1'.same, by simp, fun H2 hw2 => ?_⟩
    have hw2' : Wr H1 pb (.cells #[.bool true, .bool P.armed, .int .i64 P.fuse, .int .u64 s, .int .u64 (IntKind.wrap .u64 (c + 1))] 221 (0, 0)) H2 := hw2
    have e1 := pwWr hg h1 hw1'
    exact last (e1.trans (pwWr e1.ok h1 hw2')) hw2'.same
  · have hd' : P.down = true := by simpa using hd
    rw [hd'] at h2
    exact last (Ev.refl hg) h2

/-- A changing call's step: what it leaves, and whether it passes. -/
def Pw.spend (P : Pw) : Pw × Bool := if P.down then (P, false) else if P.armed then (if P.fuse = 0 then (⟨true, false, 0⟩, false) else (⟨false, true, IntKind.wrap .i64 (P.fuse - 1)⟩, true)) else (P, true)

theorem f90_ht (hg : GOk H g) (hG : Gl H g E) (h : PwR H g k pb P) : HT Tryz.prog 90 [.pointer (some ⟨pb, 0, none⟩)] H fun v H' => v = (if P.spend.2 then .nilIface else E 0) ∧ Ev (SpW k) H g H' g ∧ PwR H' g k pb P.spend.1 := by
  have hh := h
  obtain ⟨h1, s, c, h2⟩ := h
  obtain ⟨t, x, he, hc⟩ := hG.get 0 (by decide) (by decide)
  apply f90_of
  refine ⟨pb, 0, rfl, P.down, Cells.of h2 rfl, fun hd => ⟨t, x, hc, ?_⟩, fun hd => ?_⟩
  · have hsp : P.spend = (P, false) := by simp [Pw.spend, hd]
    rw [hsp]
    exact ⟨he.symm, Ev.refl hg, h1, s, c, h2⟩
  · have last : ∀ {H1 : Heap} {Q : Pw}, P.spend = (Q, true) → Ev (SpW k) H g H1 g → PwR H1 g k pb Q → f90_L1 (some ⟨pb, 0, none⟩) H1 fun v H' => v = (if P.spend.2 then .nilIface else E 0) ∧ Ev (SpW k) H g H' g ∧ PwR H' g k pb P.spend.1 := by
      intro H1 Q hsp e1 ⟨_, s', c', hb⟩
      rw [hsp]
      apply f90_L1_of
      refine ⟨pb, 0, rfl, s', Cells.of hb rfl, pb, 0, rfl, _, _, hb, by simp, fun H2 hw2 => ?_⟩
      have hw2' : Wr H1 pb (.cells #[.bool Q.down, .bool Q.armed, .int .i64 Q.fuse, .int .u64 (IntKind.wrap .u64 (s' + 1)), .int .u64 c'] 221 (0, 0)) H2 := hw2
      exact ⟨rfl, e1.trans (pwWr e1.ok h1 hw2'), h1, _, c', hw2'.same⟩
    refine ⟨pb, 0, rfl, P.armed, Cells.of h2 rfl, fun ha => ?_, fun ha => ?_⟩
    · refine ⟨pb, 0, rfl, P.fuse, Cells.of h2 rfl, fun h0 => ?_, fun h0 => ?_⟩
      · have h0' : P.fuse = 0 := by simpa using h0
        have hsp : P.spend = (⟨true, false, 0⟩, false) := by simp [Pw.spend, hd, ha, h0']
        rw [hsp]
        refine (f95_ht hg hh).mono fun v H1 ⟨hv, e1, p1⟩ => ⟨hv, ?_⟩
        obtain ⟨t, x, he, hc⟩ := (hG.ev e1 SpW.zero).get 0 (by decide) (by decide)
        exact ⟨t, x, hc, he.symm, e1, p1⟩
      · have h0' : ¬ P.fuse = 0 := by simpa using h0
        refine ⟨pb, 0, rfl, P.fuse, Cells.of h2 rfl, pb, 0, rfl, _, _, h2, by simp, fun H1 hw1 => ?_⟩
        have hw1' : Wr H pb (.cells #[.bool false, .bool true, .int .i64 (IntKind.wrap .i64 (P.fuse - 1)), .int .u64 s, .int .u64 c] 221 (0, 0)) H1 := by
          have := hw1
          rw [hd, ha] at this
          exact this
        exact last (Q := ⟨false, true, IntKind.wrap .i64 (P.fuse - 1)⟩) (by simp [Pw.spend, hd, ha, h0']) (pwWr hg h1 hw1') ⟨h1, s, c, hw1'.same⟩
    · exact last (by simp [Pw.spend, hd, ha]) (Ev.refl hg) hh

def Pw.arm (n : Int) : Pw := ⟨false, decide (n ≥ 0), if n ≥ 0 then n else 0⟩

theorem f89_ht (hg : GOk H g) (hG : Gl H g E) (h : PwR H g k pb P) (n : Int) : HT Tryz.prog 89 [.pointer (some ⟨pb, 0, none⟩), .int .i64 n] H fun v H' => v = (if P.down then E 0 else .nilIface) ∧ Ev (SpW k) H g H' g ∧ PwR H' g k pb (if P.down then P else Pw.arm n) := by
  obtain ⟨h1, s, c, h2⟩ := h
  obtain ⟨t, x, he, hc⟩ := hG.get 0 (by decide) (by decide)
  apply f89_of
  refine ⟨pb, 0, rfl, P.down, Cells.of h2 rfl, fun hd => ⟨t, x, hc, ?_⟩, fun hd => ?_⟩
  · rw [if_pos hd, if_pos hd]
    exact ⟨he.symm, Ev.refl hg, h1, s, c, h2⟩
  · have hnd : ¬ (P.down = true) := by simp [hd]
    rw [if_neg hnd, if_neg hnd]
    refine ⟨pb, 0, rfl, _, _, h2, by simp, fun H1 hw1 => ?_⟩
    have hw1' : Wr H pb (.cells #[.bool false, .bool (decide (n ≥ 0)), .int .i64 P.fuse, .int .u64 s, .int .u64 c] 221 (0, 0)) H1 := by
      have := hw1
      rw [hd] at this
      exact this
    refine ⟨pb, 0, rfl, _, _, hw1'.same, by simp, fun H2 hw2 => ?_⟩
    have hw2' : Wr H1 pb (.cells #[.bool false, .bool (decide (n ≥ 0)), .int .i64 0, .int .u64 s, .int .u64 c] 221 (0, 0)) H2 := hw2
    have e1 := pwWr hg h1 hw1'
    have e2 := pwWr e1.ok h1 hw2'
    refine ⟨pb, 0, rfl, _, Cells.of hw2'.same rfl, fun hn => ?_, fun hn => ?_⟩
    · have hn' : n ≥ 0 := of_decide_eq_true hn
      refine ⟨pb, 0, rfl, _, _, hw2'.same, by simp, fun H3 hw3 => ?_⟩
      have hw3' : Wr H2 pb (.cells #[.bool false, .bool (decide (n ≥ 0)), .int .i64 n, .int .u64 s, .int .u64 c] 221 (0, 0)) H3 := hw3
      apply f89_L1_of
      refine ⟨rfl, (e1.trans e2).trans (pwWr e2.ok h1 hw3'), h1, s, c, ?_⟩
      unfold Pw.arm
      rw [if_pos hn']
      exact hw3'.same
    · have hn' : ¬ n ≥ 0 := of_decide_eq_false hn
      apply f89_L1_of
      refine ⟨rfl, e1.trans e2, h1, s, c, ?_⟩
      unfold Pw.arm
      rw [if_neg hn']
      exact hw2'.same

theorem f98_ht (hg : GOk H g) (h : PwR H g k pb P) : HT Tryz.prog 98 [.pointer (some ⟨pb, 0, none⟩)] H fun v H' => v = .tuple #[] ∧ Ev (SpW k) H g H' g ∧ PwR H' g k pb ⟨false, false, 0⟩ := by
  obtain ⟨h1, s, c, h2⟩ := h
  apply f98_of
  refine ⟨pb, 0, rfl, _, _, h2, by simp, fun H1 hw1 => ?_⟩
  have hw1' : Wr H pb (.cells #[.bool false, .bool P.armed, .int .i64 P.fuse, .int .u64 s, .int .u64 c] 221 (0, 0)) H1 := hw1
  refine ⟨pb, 0, rfl, _, _, hw1'.same, by simp, fun H2 hw2 => ?_⟩
  have hw2' : Wr H1 pb (.cells #[.bool false, .bool false, .int .i64 P.fuse, .int .u64 s, .int .u64 c] 221 (0, 0)) H2 := hw2
  refine ⟨pb, 0, rfl, _, _, hw2'.same, by simp, fun H3 hw3 => ?_⟩
  have hw3' : Wr H2 pb (.cells #[.bool false, .bool false, .int .i64 0, .int .u64 s, .int .u64 c] 221 (0, 0)) H3 := hw3
  have e1 := pwWr hg h1 hw1'
  have e2 := pwWr e1.ok h1 hw2'
  have e3 := pwWr e2.ok h1 hw3'
  exact ⟨rfl, (e1.trans e2).trans e3, h1, s, c, hw3'.same⟩

end

end Go.Proofs.Qxb6500695aGreatFmt
