/-
  THE STORE, PART D: the heads of its calls; harden, commit.
-/
import Derived.Test.Qxb6500695aGreatFmtSc
namespace Go.Proofs.Qxb6500695aGreatFmt
open Go Go.Eng Go.Proofs
set_option maxRecDepth 100000
set_option linter.unusedVariables false
set_option linter.unusedSimpArgs false
set_option linter.unusedSectionVars false

/-- The object of a name that may be used. -/
def fnd (s : StV) (nm : ByteArray) : Option Nat := if vn nm then s.m nm else none
def fe (E : Nat → Value) (nm : ByteArray) : Value := if vn nm then E 8 else E 4

section
variable {S : Nat × Int → Prop} {H H' : Heap} {g g' : Gh} {k : Int} {sb ss cap bd pwb : Nat} {s : StV} {E : Nat → Value} {P : Pw}

theorem PwR.off (h : PwR H g k pwb P) (ev : Ev S H g H' g') (hS : ∀ tg, S tg → tg.1 ≠ 26) : PwR H' g' k pwb P := h.ev ev fun hc => hS _ hc rfl

theorem spendK {tx : Operand} {A : Value → Heap → Prop} {B : Heap → Prop} (hg : GOk H g) (hG : Gl H g E) (h : StR H g k sb ss cap bd pwb s) (hp : PwR H g k pwb P)
    (hA : P.spend.2 = false → ∀ H1, Ev (SpW k) H g H1 g → StR H1 g k sb ss cap bd pwb s → PwR H1 g k pwb P.spend.1 → A (E 0) H1)
    (hB : P.spend.2 = true → ∀ H1, Ev (SpW k) H g H1 g → StR H1 g k sb ss cap bd pwb s → PwR H1 g k pwb P.spend.1 → Gl H1 g E → B H1) :
    ∃ (b o : Nat), some (⟨sb, 0, none⟩ : Addr) = some ⟨b, o, none⟩ ∧ ∃ (x9 : Option Addr), Cells H b (o + 5) [.pointer x9] ∧ HT Tryz.prog 90 [.pointer x9] H fun v hp1 => ∃ (x10 : Value), v = x10 ∧ ∃ (x12 : Bool), BinIs Tryz.prog .neq 48 tx (.const .nilIface) x10 .nilIface (.bool x12) ∧ (x12 = true → A x10 hp1) ∧ (x12 = false → B hp1) := by
  obtain ⟨db, q, h1, hd⟩ := h.ex
  refine ⟨sb, 0, rfl, _, Cells.of h1 rfl, ?_⟩
  refine (f90_ht hg hG hp).mono fun v H1 ⟨hv, e1, p1⟩ => ⟨_, rfl, ?_⟩
  subst hv
  have r1 := h.off e1 SpW.off
  cases hs : P.spend.2 with
  | true => exact ⟨_, binIs_if_neq (.inl rfl) Tryz.underlying48, (fun h => by cases h), fun _ => hB hs H1 e1 r1 p1 (hG.ev e1 SpW.zero)⟩
  | false =>
    obtain ⟨hI, hnil⟩ := isI_E hG 0 (by decide) (by decide)
    exact ⟨_, binIs_if_neq hI Tryz.underlying48, fun _ => hA hs H1 e1 r1 p1, (fun h => by simp [hnil] at h)⟩

theorem checkK {tx : Operand} {A : Value → Heap → Prop} {B : Heap → Prop} (hG : Gl H g E) (h : StR H g k sb ss cap bd pwb s) (hp : PwR H g k pwb P)
    (hA : P.down = true → A (E 0) H) (hB : P.down = false → B H) :
    ∃ (b o : Nat), some (⟨sb, 0, none⟩ : Addr) = some ⟨b, o, none⟩ ∧ ∃ (x9 : Option Addr), Cells H b (o + 5) [.pointer x9] ∧ HT Tryz.prog 75 [.pointer x9] H fun v hp1 => ∃ (x10 : Value), v = x10 ∧ ∃ (x12 : Bool), BinIs Tryz.prog .neq 48 tx (.const .nilIface) x10 .nilIface (.bool x12) ∧ (x12 = true → A x10 hp1) ∧ (x12 = false → B hp1) := by
  obtain ⟨db, q, h1, hd⟩ := h.ex
  refine ⟨sb, 0, rfl, _, Cells.of h1 rfl, ?_⟩
  refine (f75_ht hG hp).mono fun v H1 ⟨he, hv⟩ => ⟨_, rfl, ?_⟩
  subst hv he
  cases hs : P.down with
  | false => exact ⟨_, binIs_if_neq (.inl rfl) Tryz.underlying48, (fun h => by cases h), fun _ => hB hs⟩
  | true =>
    obtain ⟨hI, hnil⟩ := isI_E hG 0 (by decide) (by decide)
    exact ⟨_, binIs_if_neq hI Tryz.underlying48, fun _ => hA hs, (fun h => by simp [hnil] at h)⟩

theorem findK {tx : Operand} {nm : ByteArray} {A : Value → Heap → Prop} {B : Option Addr → Heap → Prop} (hG : Gl H g E) (h : StR H g k sb ss cap bd pwb s)
    (hA : fnd s nm = none → A (fe E nm) H) (hB : ∀ b, fnd s nm = some b → B (some ⟨b, 0, none⟩) H) :
    HT Tryz.prog 76 [.pointer (some ⟨sb, 0, none⟩), .string nm] H fun v hp1 => ∃ (x0 : Option Addr), ∃ (x1 : Value), v = .tuple #[.pointer x0, x1] ∧ ∃ (x2 : Bool), BinIs Tryz.prog .neq 48 tx (.const .nilIface) x1 .nilIface (.bool x2) ∧ (x2 = true → A x1 hp1) ∧ (x2 = false → B x0 hp1) := by
  refine (f76_ht hG h nm).mono fun v H1 ⟨he, hv⟩ => ?_
  subst he hv
  unfold fnd fe at *
  unfold findV
  cases hvn : vn nm with
  | false =>
    obtain ⟨hI, hnil⟩ := isI_E hG 4 (by decide) (by decide)
    simp only [hvn, Bool.false_eq_true, if_false] at *
    exact ⟨none, E 4, rfl, _, binIs_if_neq hI Tryz.underlying48, fun _ => hA trivial, (fun h => by rw [hnil] at h; cases h)⟩
  | true =>
    simp only [hvn, if_true] at *
    cases hm : s.m nm with
    | none =>
      obtain ⟨hI, hnil⟩ := isI_E hG 8 (by decide) (by decide)
      exact ⟨none, E 8, rfl, _, binIs_if_neq hI Tryz.underlying48, fun _ => hA hm, (fun h => by rw [hnil] at h; cases h)⟩
    | some b => exact ⟨some ⟨b, 0, none⟩, .nilIface, rfl, _, binIs_if_neq (.inl rfl) Tryz.underlying48, (fun h => by cases h), fun _ => hB b hm⟩

/-- An object made durable. -/
def hardOb (ss : Nat) (o : Ob) (P' : Pl) : Ob := { o with stable := o.size, sizes := [], res := sect ss o.size, pl := P' }

def hardS (ss : Nat) (s : StV) (b : Nat) (P' : Pl) : StV := { s with used := s.used - (((s.O b).res : Int) - (sect ss (s.O b).size : Int)), O := oset s.O b (hardOb ss (s.O b) P') }

def hardP (ss : Nat) (o : Ob) (P' : Pl) : Prop := P'.clean ∧ ∀ i, P'.dur i = cutV ss o.size i (o.pl.lat i)

theorem f92_ht (hg : GOk H g) (h : StR H g k sb ss cap bd pwb s) (hbd : bd < 2 ^ 32) (hids : (s.T.map fun b => (s.O b).id).Nodup) (hu : -(2 ^ 60) < s.used ∧ s.used < 2 ^ 60) {b : Nat} (hb : b ∈ s.T) (hpos : 0 ≤ (s.O b).id) :
    HT Tryz.prog 92 [.pointer (some ⟨sb, 0, none⟩), .pointer (some ⟨b, 0, none⟩)] H fun v H' => ∃ P' g', v = .tuple #[] ∧ Ev (fun tg => SpO (zO k (s.O b).id) tg ∨ tg = (20, k)) H g H' g' ∧ StR H' g' k sb ss cap bd pwb (hardS ss s b P') ∧ hardP ss (s.O b) P' := by
  obtain ⟨db, q, h1, hd⟩ := h.ex
  have hO := h.obs b hb
  have hrb := hO.rb
  have hnb := hO.pl.nsb
  have hsl := sect_le hO.pl.ssb.1 hO.fit.1
  apply f92_of
  refine (f140_ht hg hO hbd).mono fun v H1 ⟨g1, P', w, hv, e1, O1, hc, hdur⟩ => ⟨_, _, hv, ?_⟩
  have r1 := h.obj (b := b) (bd' := bd) hids hb e1 (fun tg h => .inl h) O1 rfl (Nat.le_refl _)
  have n20 : ¬ SpO (zO k (s.O b).id) (20, k) := fun h => by have := h.rng.2; simp at this
  have k1 := e1.get h.tag n20 h1
  have kd1 := hd.ev e1 fun tg ht hc => by have := ht.2; have := hc.rng.2; omega
  refine ⟨sb, 0, rfl, _, Cells.of k1 rfl, sb, 0, rfl, _, _, k1, by simp, fun H2 hw2 => ?_⟩
  have hwu : IntKind.wrap .i64 (s.used - (((s.O b).res : Int) - (sect ss (s.O b).size : Int))) = s.used - (((s.O b).res : Int) - (sect ss (s.O b).size : Int)) := by rw [wrapI] <;> omega
  obtain ⟨e2, r2⟩ := r1.own (used' := s.used - (((s.O b).res : Int) - (sect ss (s.O b).size : Int))) (nxt' := s.nxt) (q' := q) e1.ok kd1 hw2 (by rw [hwu]; rfl)
  have k2 : H2 sb = some (stB ss cap (s.used - (((s.O b).res : Int) - (sect ss (s.O b).size : Int))) s.nxt db pwb q) := by
    have := hw2.same
    rw [hwu] at this
    exact this
  have kd2 := kd1.ev e2 fun tg ht hc => by rw [hc] at ht; have := ht.2.1; simp at this
  refine ⟨sb, 0, rfl, _, Cells.of k2 rfl, sb, 0, rfl, _, _, k2, by simp, fun H3 hw3 => ?_⟩
  obtain ⟨e3, r3⟩ := r2.own (used' := s.used - (((s.O b).res : Int) - (sect ss (s.O b).size : Int))) (nxt' := s.nxt) (q' := { q with e := IntKind.wrap .u64 (q.e + IntKind.wrap .u64 w) }) e2.ok kd2 hw3 rfl
  exact ⟨P', g1, rfl, ((e1.mono fun tg h => .inl h).trans (e2.mono fun tg h => .inr h)).trans (e3.mono fun tg h => .inr h), r3, hc, hdur⟩

theorem hardI {b : Nat} (hpos : 0 ≤ (s.O b).id) {tg : Nat × Int} (h : SpO (zO k (s.O b).id) tg ∨ tg = (20, k)) : SpI k tg := h.elim (fun h => SpI.obj hpos h) fun h => SpI.st h

def comS (s : StV) : StV := { s with used := s.used - (sumOf (fun b => (s.O b).res) (vics s.jr) : Int), st := redoN s.jr s.st, jr := [] }

theorem f91_ht (hg : GOk H g) (h : StR H g k sb ss cap bd pwb s) (hcap : cap ≤ 12) (hj : s.jr.length < 2 ^ 31) (hu : -(2 ^ 50) < s.used ∧ s.used < 2 ^ 50) (hv : ∀ b ∈ vics s.jr, b ∈ s.T) :
    HT Tryz.prog 91 [.pointer (some ⟨sb, 0, none⟩)] H fun v H' => ∃ g', v = .tuple #[] ∧ Ev (SpI k) H g H' g' ∧ StR H' g' k sb ss cap bd pwb (comS s) := by
  obtain ⟨db, q, h1, hd⟩ := h.ex
  apply f91_of
  refine ⟨sb, 0, rfl, _, Cells.of h1 rfl, ?_⟩
  refine (f139_ht hg hd (by omega)).mono fun v H1 ⟨p, n, c, g1, hv1, e1, o1, d1⟩ => ⟨p, n, c, hv1, ?_⟩
  have hS : ∀ tg, SpG k tg → SpD k tg ∨ (40 ≤ tg.1 ∧ tg.1 ≤ 42) := fun tg ht => ht.elim .inl fun hx => .inr (by rw [hx]; simp)
  have r1 := h.dir h1 e1 hS d1
  have k1 := e1.get h.tag (fun hc => by
    rcases hS _ hc with hx | hx
    · exact absurd hx.2.1 (by simp)
    · simp at hx) h1
  have hlen := o1.own.len
  have hvl : (vics s.jr).length ≤ s.jr.length := List.length_filterMap_le _ _
  have loop : ∀ (d i : Nat) (G : Heap), (vics s.jr).length - i = d → i ≤ (vics s.jr).length → Ev (SpI k) H g G g1 → OwnT G g1 (41, 0) 152 1 Pt.cs p n c (vics s.jr) → DirR G g1 k db s.m s.xs (redoN s.jr s.st) [] →
      G sb = some (stB ss cap (s.used - (sumOf (fun b => (s.O b).res) ((vics s.jr).take i) : Int)) s.nxt db pwb q) →
      StR G g1 k sb ss cap bd pwb { s with used := s.used - (sumOf (fun b => (s.O b).res) ((vics s.jr).take i) : Int), st := redoN s.jr s.st, jr := [] } →
      f91_L1 (some ⟨sb, 0, none⟩) p n c (n : Int) (i : Int) G fun v H' => ∃ g', v = .tuple #[] ∧ Ev (SpI k) H g H' g' ∧ StR H' g' k sb ss cap bd pwb (comS s) := by
    intro d
    induction d with
    | zero =>
      intro i G hd0 hi hE hO hD hk hR
      have : i = (vics s.jr).length := by omega
      subst this
      apply f91_L1_of
      refine ⟨fun h => by have := of_decide_eq_true h; omega, fun _ => ⟨g1, rfl, hE, ?_⟩⟩
      rw [List.take_length] at hR
      exact hR
    | succ d ih =>
      intro i G hd0 hi hE hO hD hk hR
      have hil : i < (vics s.jr).length := by omega
      apply f91_L1_of
      refine ⟨fun _ => ?_, fun h => by have := of_decide_eq_false h; omega⟩
      obtain ⟨b', o', hp, hc⟩ := hO.own.cells (i := i) hil
      have hb := hv _ (List.getElem_mem hil)
      have hOb := hR.obs _ hb
      obtain ⟨sp, sn, sc, oo, _⟩ := hOb.ex
      have hrb : (s.O (vics s.jr)[i]).res ≤ cap := hOb.rb
      have hsum : sumOf (fun b => (s.O b).res) ((vics s.jr).take i) ≤ cap * i := by
        have aux : ∀ l : List Nat, (∀ b ∈ l, b ∈ s.T) → sumOf (fun b => (s.O b).res) l ≤ cap * l.length := by
          intro l
          induction l with
          | nil => intro _; simp [sumOf]
          | cons x r ih =>
            intro hx
            have h1 := ih fun b hb => hx b (List.mem_cons_of_mem _ hb)
            have h2 : (s.O x).res ≤ cap := (hR.obs x (hx x List.mem_cons_self)).rb
            simp only [sumOf, List.length_cons, Nat.mul_add, Nat.mul_one]
            omega
        have := aux ((vics s.jr).take i) fun b hb => hv b (List.mem_of_mem_take hb)
        rw [List.length_take, Nat.min_eq_left (by omega)] at this
        exact this
      have hci : cap * i ≤ 12 * 2 ^ 31 := Nat.mul_le_mul hcap (by omega)
      refine ⟨b', o', hp, by omega, by omega, _, by simpa [Pt.cs, oP] using hc, sb, 0, rfl, _, Cells.of hk rfl, (vics s.jr)[i], 0, rfl, _, Cells.of oo rfl, sb, 0, rfl, _, _, hk, by simp, fun G1 hw => ?_⟩
      have hsucc : (sumOf (fun b => (s.O b).res) ((vics s.jr).take (i + 1)) : Int) = (sumOf (fun b => (s.O b).res) ((vics s.jr).take i) : Int) + ((s.O (vics s.jr)[i]).res : Int) := by
        rw [take_succ hil, sumOf_append]
        simp [sumOf]
      have hwu : IntKind.wrap .i64 (s.used - (sumOf (fun b => (s.O b).res) ((vics s.jr).take i) : Int) - ((s.O (vics s.jr)[i]).res : Int)) = s.used - (sumOf (fun b => (s.O b).res) ((vics s.jr).take (i + 1)) : Int) := by
        rw [hsucc, wrapI] <;> omega
      have hw' : Wr G sb (stB ss cap (s.used - (sumOf (fun b => (s.O b).res) ((vics s.jr).take (i + 1)) : Int)) s.nxt db pwb q) G1 := by
        have := hw
        rw [hwu] at this
        exact this
      obtain ⟨e2, r2⟩ := hR.own (used' := s.used - (sumOf (fun b => (s.O b).res) ((vics s.jr).take (i + 1)) : Int)) (nxt' := s.nxt) (q' := q) hE.ok hD hw' rfl
      rw [wrapS (by omega)]
      exact ih (i + 1) G1 (by omega) (by omega) (hE.trans (e2.mono fun tg h => SpI.st h)) (hO.ev e2 (fun h => by cases h)) (hD.ev e2 fun tg ht hc => by rw [hc] at ht; have := ht.2.1; simp at this) hw'.same r2
  refine loop _ 0 H1 rfl (Nat.zero_le _) (e1.mono fun tg ht => ?_) o1 d1 (by simpa [sumOf] using k1) (by simpa [sumOf] using r1)
  rcases ht with ht | ht
  · exact SpI.dir ht
  · rw [ht]; exact ⟨.inr (.inr ⟨by simp, by simp⟩), by simp⟩

end

end Go.Proofs.Qxb6500695aGreatFmt
