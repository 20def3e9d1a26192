/-
  OBJECTS, PART A: words; sectorsOf, setSize, clean, info.
-/
import Derived.Test.Qxb6500695aGreatFmtXs
namespace Go.Proofs.Qxb6500695aGreatFmt
open Go Go.Eng Go.Proofs
set_option maxRecDepth 100000
set_option linter.unusedVariables false
set_option linter.unusedSimpArgs false
set_option linter.unusedSectionVars false

/-- An object, as it is meant. -/
structure Ob where
  id : Int
  pb : Nat
  size : Nat
  stable : Nat
  sizes : List Nat
  res : Nat
  pl : Pl

/-- The sectors of a size. -/
def sect (ss s : Nat) : Nat := if s % ss = 0 then s / ss else s / ss + 1

def nI (n : Nat) : Int := (n : Int)

/-- An object's blocks: its own (11), the sizes' array (16), its plane's. -/
def SpO (z : Int) (tg : Nat × Int) : Prop := tg = (11, z) ∨ tg = (16, z) ∨ SpP z tg

/-- An object as it lies. -/
structure ObS (H : Heap) (g : Gh) (z : Int) (ob ss ns bd : Nat) (o : Ob) : Prop where
  tag : g ob = some (11, z)
  ex : ∃ sp sn sc, H ob = some (.cells #[.int .u64 o.id, .pointer (some ⟨o.pb, 0, none⟩), .int .i64 (o.size : Int), .int .i64 (o.stable : Int), .slice sp sn sc, .int .i64 (o.res : Int)] 166 (0, 0)) ∧ OwnT H g (16, z) 2 1 I64.cs sp sn sc (o.sizes.map nI)
  pl : PlOk H g z o.pb ss ns bd o.pl
  nb : o.sizes.length ≤ bd
  fit : o.size ≤ ns * ss ∧ o.stable ≤ ns * ss ∧ ∀ s ∈ o.sizes, s ≤ ns * ss
  rb : o.res ≤ ns

/-- Its numbers. -/
structure ObR (ss : Nat) (o : Ob) : Prop where
  res : sect ss o.size ≤ o.res ∧ sect ss o.stable ≤ o.res ∧ ∀ s ∈ o.sizes, sect ss s ≤ o.res
  last : o.size = (o.sizes.getLast?).getD o.stable
  clean : o.sizes = [] → o.pl.clean → o.res = sect ss o.size

section
variable {S : Nat × Int → Prop} {H H' : Heap} {g g' : Gh} {z : Int} {ob ss ns bd : Nat} {o : Ob}

theorem ObS.ev (h : ObS H g z ob ss ns bd o) (ev : Ev S H g H' g') (h0 : ¬ S (0, 0)) (hS : ∀ tg, SpO z tg → ¬ S tg) : ObS H' g' z ob ss ns bd o := by
  obtain ⟨sp, sn, sc, h1, h2⟩ := h.ex
  exact ⟨ev.tag _ _ h.tag, ⟨sp, sn, sc, ev.get h.tag (hS _ (.inl rfl)) h1, h2.ev ev (hS _ (.inr (.inl rfl)))⟩, h.pl.ev ev h0 fun tg ht => hS _ (.inr (.inr ht)), h.nb, h.fit, h.rb⟩

theorem ObS.mono {bd' : Nat} (h : ObS H g z ob ss ns bd o) (hb : bd ≤ bd') : ObS H g z ob ss ns bd' o :=
  ⟨h.tag, h.ex, h.pl.mono hb, Nat.le_trans h.nb hb, h.fit, h.rb⟩

/-- The plane has turned, by itself. -/
theorem ObS.plane {bd' : Nat} {P' : Pl} (h : ObS H g z ob ss ns bd o) (ev : Ev (SpP z) H g H' g') (hp : PlOk H' g' z o.pb ss ns bd' P') (hb : bd ≤ bd') : ObS H' g' z ob ss ns bd' { o with pl := P' } := by
  obtain ⟨sp, sn, sc, h1, h2⟩ := h.ex
  have n16 : ¬ SpP z (16, z) := fun h => by rcases h.2 with h | h | h | h | h <;> simp at h
  exact ⟨ev.tag _ _ h.tag, ⟨sp, sn, sc, ev.get h.tag SpP.n11 h1, h2.ev ev n16⟩, hp, Nat.le_trans h.nb hb, h.fit, h.rb⟩

theorem sect_le {s : Nat} (hss : 0 < ss) (h : s ≤ ns * ss) : sect ss s ≤ ns := by
  have hd := Nat.div_add_mod s ss
  have hm := Nat.mod_lt s hss
  have h1 : s / ss ≤ ns := by
    rw [Nat.div_le_iff_le_mul_add_pred hss]
    have : ns * ss = ss * ns := Nat.mul_comm _ _
    omega
  unfold sect
  split
  · exact h1
  · rename_i h0
    rcases Nat.lt_or_ge (s / ss) ns with h2 | h2
    · omega
    · have h3 : s / ss = ns := by omega
      have h4 : ss * (s / ss) = ns * ss := by rw [h3, Nat.mul_comm]
      omega

theorem f176_ht {s : Nat} (hss : 0 < ss ∧ ss ≤ 16) (hs : s < 2 ^ 32) : HT Tryz.prog 176 [.int .i64 (s : Int), .int .i64 (ss : Int)] H fun v H' => H' = H ∧ v = .int .i64 (sect ss s : Int) := by
  have hne : (ss : Int) ≠ 0 := by omega
  have hrem : Int.tmod (s : Int) (ss : Int) = ((s % ss : Nat) : Int) := by
    rw [Int.tmod_eq_emod_of_nonneg (by omega)]; simp
  have hdiv : Int.tdiv (s : Int) (ss : Int) = ((s / ss : Nat) : Int) := by
    rw [Int.tdiv_eq_ediv_of_nonneg (by omega)]; simp
  have hq := binIs_quo (P := Tryz.prog) (t := 2) (x := .tmp 8) (y := .tmp 9) (a := (s : Int)) (b := (ss : Int)) hne
  have hr := binIs_rem (P := Tryz.prog) (t := 2) (x := .tmp 11) (y := .tmp 12) (a := (s : Int)) (b := (ss : Int)) hne
  have hdl : s / ss ≤ s := Nat.div_le_self _ _
  unfold sect
  generalize s / ss = q at *
  generalize s % ss = r at *
  rw [hdiv, wrapI (by omega) (by omega)] at hq
  rw [hrem] at hr
  apply f176_of
  refine ⟨_, hq, _, hr, fun h0 => ?_, fun h0 => ?_⟩
  · apply f176_L1_of
    have : r ≠ 0 := by intro hz; rw [hz] at h0; simp at h0
    rw [wrapS (by omega), if_neg this]
    exact ⟨rfl, rfl⟩
  · apply f176_L1_of
    have : r = 0 := by simp at h0; omega
    rw [if_pos this]
    exact ⟨rfl, rfl⟩

theorem f107_ht (h : ObS H g z ob ss ns bd o) : HT Tryz.prog 107 [.pointer (some ⟨ob, 0, none⟩)] H fun v H' => H' = H ∧ ∃ b : Bool, v = .bool b ∧ (b = true ↔ o.sizes = [] ∧ o.pl.clean) := by
  obtain ⟨sp, sn, sc, h1, h2⟩ := h.ex
  have hlen := h2.own.len
  apply f107_of
  refine ⟨ob, 0, rfl, _, _, _, Cells.of h1 rfl, fun h0 => ⟨ob, 0, rfl, _, Cells.of h1 rfl, ?_⟩, fun h0 => ⟨rfl, false, rfl, (fun h => by cases h), fun ⟨hs, _⟩ => ?_⟩⟩
  · refine (f99_ht h.pl).mono fun v H1 ⟨he, n, hv, hn⟩ => ⟨_, hv, he, _, rfl, ?_⟩
    have hsn : sn = 0 := by have := beq_iff_eq.1 h0; omega
    have hs : o.sizes = [] := by
      apply List.eq_nil_of_length_eq_zero
      rw [hsn] at hlen
      simpa using hlen.symm
    constructor
    · intro hb
      exact ⟨hs, hn.1 (by have := beq_iff_eq.1 hb; omega)⟩
    · rintro ⟨_, hc⟩
      rw [hn.2 hc]
      rfl
  · rw [hs] at hlen
    simp at hlen
    rw [hlen] at h0
    simp at h0

theorem f77_ht (h : ObS H g z ob ss ns bd o) : HT Tryz.prog 77 [.pointer (some ⟨ob, 0, none⟩)] H fun v H' => H' = H ∧ ∃ n : Nat, v = .agg #[.int .u64 o.id, .int .i64 (o.size : Int), .int .i64 (o.res : Int), .int .i64 (n : Int)] ∧ (n = 0 ↔ o.pl.clean) := by
  obtain ⟨sp, sn, sc, h1, h2⟩ := h.ex
  apply f77_of
  intro _
  refine ⟨ob, 0, rfl, _, Cells.of h1 rfl, ob, 0, rfl, _, Cells.of h1 rfl, ob, 0, rfl, _, Cells.of h1 rfl, ob, 0, rfl, _, Cells.of h1 rfl, ?_⟩
  refine (f99_ht h.pl).mono fun v H1 ⟨he, n, hv, hn⟩ => ?_
  subst he
  exact ⟨_, hv, Cells.of h1 rfl, Cells.of h1 rfl, Cells.of h1 rfl, rfl, n, rfl, hn⟩

def Ob.setSize (o : Ob) (s : Nat) : Ob := if s = o.size then o else { o with size := s, sizes := o.sizes ++ [s] }

theorem f125_ht (hg : GOk H g) (h : ObS H g z ob ss ns bd o) (hbd : bd < 2 ^ 32) {s : Nat} (hs : s ≤ ns * ss) :
    HT Tryz.prog 125 [.pointer (some ⟨ob, 0, none⟩), .int .i64 (s : Int)] H fun v H' => ∃ g', v = .tuple #[] ∧ Ev (SpO z) H g H' g' ∧ ObS H' g' z ob ss ns (bd + 1) (o.setSize s) := by
  obtain ⟨sp, sn, sc, h1, h2⟩ := h.ex
  have hlen := h2.own.len
  have hnb := h.nb
  apply f125_of
  refine ⟨ob, 0, rfl, _, Cells.of h1 rfl, fun h0 => ?_, fun h0 => ?_⟩
  · have heq : s = o.size := by have := beq_iff_eq.1 h0; omega
    refine ⟨g, rfl, Ev.refl hg, ?_⟩
    unfold Ob.setSize
    rw [if_pos heq]
    exact h.mono (by omega)
  · have hne : s ≠ o.size := by intro hx; rw [hx] at h0; simp at h0
    refine ⟨ob, 0, rfl, _, _, h1, by simp, fun H1 hw1 => ?_⟩
    have hw1' : Wr H ob (.cells #[.int .u64 o.id, .pointer (some ⟨o.pb, 0, none⟩), .int .i64 (s : Int), .int .i64 (o.stable : Int), .slice sp sn sc, .int .i64 (o.res : Int)] 166 (0, 0)) H1 := hw1
    have S11 : ∀ {G G' : Heap} {k : Gh} {ob' : Obj}, k ob = some (11, z) → GOk G k → Wr G ob ob' G' → Ev (fun tg => tg = (11, z)) G k G' k := fun ht hG hw => Ev.wr hG hw fun tg htg => by rw [ht] at htg; cases htg; rfl
    have e1 := S11 h.tag hg hw1'
    refine ⟨ob, 0, rfl, _, _, _, Cells.of hw1'.same rfl, fun b20 H2 ha => ?_⟩
    have o1 := h2.ev e1 (fun h => by cases h)
    refine appT (S := fun tg => tg = (16, z)) (inf := Tryz.t2) (zero := .int .i64 0) (x := (s : Int)) (enc := I64.cs) Tryz.underlying60 (by kernel_rfl) (by kernel_rfl) rfl (by decide) rfl ha rfl (by intro v hv; simp [I64.cs] at hv; subst hv; rfl) e1.ok o1 rfl (by simp at hlen; omega) fun p' c' H3 g3 hpn e3 o3 k3 => ⟨p', sn + 1, c', rfl, ?_⟩
    have e13 : Ev (SpO z) H g H3 g3 := (e1.mono fun tg htg => .inl htg).trans (e3.mono fun tg htg => .inr (.inl htg))
    have h13 := e3.get h.tag (fun h => by cases h) hw1'.same
    refine ⟨ob, 0, rfl, _, _, h13, by simp, fun H4 hw4 => ?_⟩
    have hw4' : Wr H3 ob (.cells #[.int .u64 o.id, .pointer (some ⟨o.pb, 0, none⟩), .int .i64 (s : Int), .int .i64 (o.stable : Int), .slice p' (sn + 1) c', .int .i64 (o.res : Int)] 166 (0, 0)) H4 := hw4
    have e4 := S11 (e3.tag _ _ h.tag) e3.ok hw4'
    have nP11 : ∀ tg, SpP z tg → ¬ (tg = (11, z)) := fun tg ht hx => by rw [hx] at ht; exact SpP.n11 ht
    have nP16 : ∀ tg, SpP z tg → ¬ (tg = (16, z)) := fun tg ht hx => by
      rw [hx] at ht
      rcases ht.2 with h | h | h | h | h <;> simp at h
    refine ⟨g3, rfl, e13.trans (e4.mono fun tg htg => .inl htg), e4.tag _ _ (e3.tag _ _ h.tag), ?_, ?_, ?_, ?_, ?_⟩
    · unfold Ob.setSize
      rw [if_neg hne]
      refine ⟨p', sn + 1, c', hw4'.same, ?_⟩
      have h5 : OwnT H4 g3 (16, z) 2 1 I64.cs p' (sn + 1) c' (o.sizes.map nI ++ [(s : Int)]) := o3.ev e4 (fun h => by cases h)
      rw [List.map_append]
      exact h5
    · have hp := ((h.pl.ev e1 (fun h => by cases h) nP11).ev e3 (fun h => by cases h) nP16).ev e4 (fun h => by cases h) nP11
      unfold Ob.setSize
      rw [if_neg hne]
      exact hp.mono (by omega)
    · unfold Ob.setSize
      rw [if_neg hne]
      simp
      omega
    · unfold Ob.setSize
      rw [if_neg hne]
      refine ⟨hs, h.fit.2.1, fun x hx => ?_⟩
      rcases List.mem_append.1 hx with h5 | h5
      · exact h.fit.2.2 x h5
      · rw [List.mem_singleton.1 h5]; exact hs
    · unfold Ob.setSize
      rw [if_neg hne]
      exact h.rb

end

end Go.Proofs.Qxb6500695aGreatFmt
