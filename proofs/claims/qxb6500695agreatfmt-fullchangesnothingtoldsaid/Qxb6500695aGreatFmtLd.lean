/-
  FULL CHANGES NOTHING, PART D: the four pickers, with their answers.
-/
import Derived.Test.Qxb6500695aGreatFmtLa
import Derived.Test.Qxb6500695aGreatFmtQb
import Derived.Test.Qxb6500695aGreatFmtVt
namespace Go.Proofs.Qxb6500695aGreatFmt
open Go Go.Eng Go.Proofs
set_option maxRecDepth 100000
set_option linter.unusedVariables false
set_option linter.unusedSimpArgs false
set_option linter.unusedSectionVars false

def shrU (a n : Int) : Int := Int.fdiv a (2 ^ (min n.toNat IntKind.u64.bits))
def xorU (a b : Int) : Int := IntKind.wrap .u64 ((BitVec.ofInt IntKind.u64.bits a ^^^ BitVec.ofInt IntKind.u64.bits b).toNat : Int)

theorem binIs_shrU {P : Program} {t : TypeId} {x y : Operand} {a n : Int} (hn : 0 ≤ n) : BinIs P .shr t x y (.int .u64 a) (.int .u64 n) (.int .u64 (shrU a n)) := by
  intro w
  have : ¬ n < 0 := by omega
  simp [eqGuard, binOp, Op.shift, this, shrU]

theorem binIs_xorU {P : Program} {t : TypeId} {x y : Operand} {a b : Int} : BinIs P .xor t x y (.int .u64 a) (.int .u64 b) (.int .u64 (xorU a b)) := by
  intro w
  simp [eqGuard, binOp, Op.intBits, xorU]

theorem binIs_remU {P : Program} {t : TypeId} {x y : Operand} {a b : Int} (hb : b ≠ 0) : BinIs P .rem t x y (.int .u64 a) (.int .u64 b) (.int .u64 (a.tmod b)) := by
  intro w
  simp [eqGuard, binOp, Op.intDiv, hb]

def mix1 (x : Int) : Int := IntKind.wrap .u64 (xorU x (shrU x 30) * (13787848793156543929 : Int))
def mix2 (y : Int) : Int := IntKind.wrap .u64 (xorU y (shrU y 27) * (10723151780598845931 : Int))
def mixF (x : Int) : Int := xorU (mix2 (mix1 x)) (shrU (mix2 (mix1 x)) 31)

/-- What the seeded picker answers. -/
def seedV (seed : Int) (pl : Int × Int × Int) (n : Nat) : Int :=
  IntKind.wrap .i64 (Int.tmod (mixF (xorU (mixF (xorU (mixF (xorU (mixF (xorU seed 11400714819323198485)) (IntKind.wrap .u64 pl.1))) pl.2.1)) (IntKind.wrap .u64 pl.2.2))) (IntKind.wrap .u64 (IntKind.wrap .i64 ((n : Int) + 1))))

section
variable {S : Nat × Int → Prop} {H H' : Heap} {g g' : Gh} {tb lb : Nat} {k : Int} {nb pwb dvb sb ss ns cap bd N : Nat} {n : NdV} {ans : Ans}

theorem f274_ht (x : Int) : HT Tryz.prog 274 [.int .u64 x] H fun v H' => H' = H ∧ v = .int .u64 (mixF x) := by
  apply f274_of
  exact ⟨_, binIs_shrU (by decide), _, binIs_xorU, _, binIs_shrU (by decide), _, binIs_xorU, _, binIs_shrU (by decide), _, binIs_xorU, rfl, rfl⟩

theorem f273_ht (seed a o s : Int) {n : Nat} (hn : n < 2 ^ 32) : HT Tryz.prog 273 [.agg #[.int .u64 seed], .agg #[.int .u8 a, .int .u64 o, .int .i64 s], .int .i64 (n : Int)] H fun v H' => H' = H ∧ v = .int .i64 (seedV seed (a, o, s) n) := by
  apply f273_of
  intro _ _
  refine ⟨_, binIs_xorU, (f274_ht _).mono fun v H1 ⟨he1, hv1⟩ => ⟨_, hv1, ?_⟩⟩
  subst he1
  refine ⟨_, binIs_xorU, (f274_ht _).mono fun v H2 ⟨he2, hv2⟩ => ⟨_, hv2, ?_⟩⟩
  subst he2
  refine ⟨_, binIs_xorU, (f274_ht _).mono fun v H3 ⟨he3, hv3⟩ => ⟨_, hv3, ?_⟩⟩
  subst he3
  refine ⟨_, binIs_xorU, (f274_ht _).mono fun v H4 ⟨he4, hv4⟩ => ⟨_, hv4, ?_⟩⟩
  subst he4
  have hne : IntKind.wrap .u64 (IntKind.wrap .i64 ((n : Int) + 1)) ≠ 0 := by
    rw [wrapI (by omega) (by omega)]
    simp only [IntKind.wrap, IntKind.bits, IntKind.signed]
    simp
    omega
  exact ⟨_, binIs_remU hne, rfl, rfl⟩

/-- The tally behind an answer. -/
theorem tallyK {L1 : Int → Heap → Prop} {R : Value → Heap → Prop} {iv : Value} {a b c x : Int} {n : Nat} (hg : GOk H g) (t : g tb = some (30, 0)) (ht : H tb = some (.cells #[iv, .int .i64 a, .int .i64 b, .int .i64 c] 180 (0, 0))) (hn : n < 2 ^ 32)
    (hL : ∀ y h, R (.int .i64 y) h → L1 y h)
    (hR : ∀ G, Ev (fun tg => tg = (30, 0)) H g G g → (∃ a b c : Int, G tb = some (.cells #[iv, .int .i64 a, .int .i64 b, .int .i64 c] 180 (0, 0))) → R (.int .i64 (nrm x n : Int)) G) :
    HT Tryz.prog 144 [.int .i64 x, .int .i64 (n : Int)] H (fun v hp2 => ∃ (x16 : Int), v = .int .i64 x16 ∧ (∃ (b18 o18 : Nat), (some ⟨tb, 0, none⟩ : Option Addr) = some ⟨b18, o18, none⟩ ∧ (∃ (x21 : Int), Cells hp2 b18 (o18 + 1) [.int .i64 x21] ∧ (∃ (b23 o23 : Nat), (some ⟨tb, 0, none⟩ : Option Addr) = some ⟨b23, o23, none⟩ ∧ (∃ (c_hp3 : Array Value) (T_hp3 : TypeId), hp2 b23 = some (.cells c_hp3 T_hp3 (0, 0)) ∧ (o23 + 1) + 1 ≤ c_hp3.size ∧ ∀ (hp3 : Heap), Wr hp2 b23 (.cells (setAll c_hp3 (o23 + 1) [.int .i64 (IntKind.wrap .i64 (x21 + (1 : Int)))]) T_hp3 (0, 0)) hp3 → (∃ (b27 o27 : Nat), (some ⟨tb, 0, none⟩ : Option Addr) = some ⟨b27, o27, none⟩ ∧ (∃ (x30 : Int), Cells hp3 b27 (o27 + 1 + 1) [.int .i64 x30] ∧ (∃ (b33 o33 : Nat), (some ⟨tb, 0, none⟩ : Option Addr) = some ⟨b33, o33, none⟩ ∧ (∃ (c_hp4 : Array Value) (T_hp4 : TypeId), hp3 b33 = some (.cells c_hp4 T_hp4 (0, 0)) ∧ (o33 + 1 + 1) + 1 ≤ c_hp4.size ∧ ∀ (hp4 : Heap), Wr hp3 b33 (.cells (setAll c_hp4 (o33 + 1 + 1) [.int .i64 (IntKind.wrap .i64 (x30 + (n : Int)))]) T_hp4 (0, 0)) hp4 → ((decide (x16 > (0 : Int)) = true → ∃ (b39 o39 : Nat), (some ⟨tb, 0, none⟩ : Option Addr) = some ⟨b39, o39, none⟩ ∧ (∃ (x42 : Int), Cells hp4 b39 (o39 + 1 + 2) [.int .i64 x42] ∧ (∃ (b44 o44 : Nat), (some ⟨tb, 0, none⟩ : Option Addr) = some ⟨b44, o44, none⟩ ∧ (∃ (c_hp5 : Array Value) (T_hp5 : TypeId), hp4 b44 = some (.cells c_hp5 T_hp5 (0, 0)) ∧ (o44 + 1 + 2) + 1 ≤ c_hp5.size ∧ ∀ (hp5 : Heap), Wr hp4 b44 (.cells (setAll c_hp5 (o44 + 1 + 2) [.int .i64 (IntKind.wrap .i64 (x42 + (1 : Int)))]) T_hp5 (0, 0)) hp5 → (L1 x16 hp5))))) ∧ (decide (x16 > (0 : Int)) = false → L1 x16 hp4))))))))))) := by
  refine (f144x_ht x hn).mono fun v H2 ⟨he, hv2⟩ => ⟨_, hv2, ?_⟩
  subst he
  refine ⟨tb, 0, rfl, a, Cells.of ht rfl, tb, 0, rfl, _, _, ht, by simp, fun H3 hw3 => ?_⟩
  have hw3' : Wr H2 tb (.cells #[iv, .int .i64 (IntKind.wrap .i64 (a + 1)), .int .i64 b, .int .i64 c] 180 (0, 0)) H3 := hw3
  refine ⟨tb, 0, rfl, b, Cells.of hw3'.same rfl, tb, 0, rfl, _, _, hw3'.same, by simp, fun H4 hw4 => ?_⟩
  have hw4' : Wr H3 tb (.cells #[iv, .int .i64 (IntKind.wrap .i64 (a + 1)), .int .i64 (IntKind.wrap .i64 (b + (n : Int))), .int .i64 c] 180 (0, 0)) H4 := hw4
  have S30 : ∀ {G G' : Heap} {ob : Obj}, GOk G g → Wr G tb ob G' → Ev (fun tg => tg = (30, 0)) G g G' g := fun hG hw => Ev.wr hG hw fun tg htg => by rw [t] at htg; cases htg; rfl
  have e3 := S30 hg hw3'
  have e4 := S30 e3.ok hw4'
  refine ⟨fun _ => ?_, fun _ => ?_⟩
  · refine ⟨tb, 0, rfl, c, Cells.of hw4'.same rfl, tb, 0, rfl, _, _, hw4'.same, by simp, fun H5 hw5 => ?_⟩
    have hw5' : Wr H4 tb (.cells #[iv, .int .i64 (IntKind.wrap .i64 (a + 1)), .int .i64 (IntKind.wrap .i64 (b + (n : Int))), .int .i64 (IntKind.wrap .i64 (c + 1))] 180 (0, 0)) H5 := hw5
    exact hL _ _ (hR _ ((e3.trans e4).trans (S30 e4.ok hw5')) ⟨_, _, _, hw5'.same⟩)
  · exact hL _ _ (hR _ (e3.trans e4) ⟨_, _, _, hw4'.same⟩)

/-- A picker that keeps nothing, behind its tally. -/
def PkV (tb : Nat) (iv : Value) (ans : Ans) (tr : List Ask) (H : Heap) (g : Gh) : Prop :=
  g tb = some (30, 0) ∧ (∃ a b c : Int, H tb = some (.cells #[iv, .int .i64 a, .int .i64 b, .int .i64 c] 180 (0, 0))) ∧ GoodA ans 0 tr

theorem PkV.ev {iv : Value} {tr : List Ask} (h : PkV tb iv ans tr H g) (e : Ev S H g H' g') (hS : ∀ tg, Spk tg → ¬ S tg) : PkV tb iv ans tr H' g' := by
  obtain ⟨h1, ⟨a, b, c, h2⟩, h3⟩ := h
  exact ⟨e.tag _ _ h1, ⟨a, b, c, e.get h1 (hS _ ⟨by decide, by decide⟩) h2⟩, h3⟩

theorem sp30 : ∀ tg : Nat × Int, tg = (30, 0) → Spk tg := fun tg h => by rw [h]; exact ⟨by decide, by decide⟩

theorem PkV.next {iv : Value} {tr : List Ask} {a o s x : Int} {n : Nat} (h : PkV tb iv ans tr H g) {G : Heap} (e : Ev (fun tg => tg = (30, 0)) H g G g) (hG : ∃ a b c : Int, G tb = some (.cells #[iv, .int .i64 a, .int .i64 b, .int .i64 c] 180 (0, 0))) (hx : nrm x n = ans tr.length (a, o, s) n) :
    ∃ (k : Nat) (g' : Gh), Value.int .i64 (nrm x n : Int) = .int .i64 (k : Int) ∧ k ≤ n ∧ Ev Spk H g G g' ∧ PkV tb iv ans (tr ++ [((a, o, s), n, k)]) G g' :=
  ⟨nrm x n, g, rfl, nrm_le x n, e.mono sp30, h.1, hG, h.2.2.snoc (by simpa using hx)⟩

/-- A function as a picker. -/
theorem pkf_picker {f : FuncId} {val : Nat → Int} (hf : ∀ (H : Heap) (a o s : Int) (n : Nat), HT Tryz.prog f [.agg #[.int .u8 a, .int .u64 o, .int .i64 s], .int .i64 (n : Int)] H fun v H' => H' = H ∧ v = .int .i64 (val n)) :
    Picker tb (PkV tb (.iface 245 (.func (.func f) #[] #[])) fun _ _ n => nrm (val n) n) := by
  refine ⟨fun tr H g H' g' S h e hS _ => h.ev e hS, fun tr _ H g hg h a o s n _ hn => ?_⟩
  have hh := h
  obtain ⟨h1, ⟨x, y, z, h2⟩, h3⟩ := h
  apply f272f_of
  intro _
  refine ⟨tb, 0, rfl, f, #[], #[], Cells.of h2 rfl, ?_⟩
  have h275 : HT Tryz.prog 275 [.func (.func f) #[] #[], .agg #[.int .u8 a, .int .u64 o, .int .i64 s], .int .i64 (n : Int)] H fun v H' => H' = H ∧ v = .int .i64 (val n) := by
    apply f275_of
    intro _
    exact (hf H a o s n).mono fun v H1 ⟨he, hv⟩ => ⟨_, hv, he, rfl⟩
  refine h275.mono fun v H1 ⟨he, hv⟩ => ⟨_, hv, ?_⟩
  subst he
  refine tallyK (R := fun v H' => ∃ (k : Nat) (g' : Gh), v = .int .i64 (k : Int) ∧ k ≤ n ∧ Ev Spk H1 g H' g' ∧ PkV tb (.iface 245 (.func (.func f) #[] #[])) (fun _ _ n => nrm (val n) n) (tr ++ [((a, o, s), n, k)]) H' g') (L1 := fun y h => f272f_L1 y h (fun v H' => ∃ (k : Nat) (g' : Gh), v = .int .i64 (k : Int) ∧ k ≤ n ∧ Ev Spk H1 g H' g' ∧ PkV tb (.iface 245 (.func (.func f) #[] #[])) (fun _ _ n => nrm (val n) n) (tr ++ [((a, o, s), n, k)]) H' g')) hg h1 h2 hn (fun y h hr => f272f_L1_of _ hr) fun G e hG => hh.next e hG rfl

theorem f147_ht (a o s : Int) (n : Nat) : HT Tryz.prog 147 [.agg #[.int .u8 a, .int .u64 o, .int .i64 s], .int .i64 (n : Int)] H fun v H' => H' = H ∧ v = .int .i64 0 :=
  f147_of _ _ _ _ fun _ => ⟨rfl, rfl⟩

theorem f148_ht (a o s : Int) (n : Nat) : HT Tryz.prog 148 [.agg #[.int .u8 a, .int .u64 o, .int .i64 s], .int .i64 (n : Int)] H fun v H' => H' = H ∧ v = .int .i64 (n : Int) :=
  f148_of _ _ _ _ fun _ => ⟨rfl, rfl⟩

/-- The seeded picker. -/
theorem pks_picker {seed : Int} : Picker tb (PkV tb (.iface 187 (.agg #[.int .u64 seed])) fun _ pl n => nrm (seedV seed pl n) n) := by
  refine ⟨fun tr H g H' g' S h e hS _ => h.ev e hS, fun tr _ H g hg h a o s n _ hn => ?_⟩
  have hh := h
  obtain ⟨h1, ⟨x, y, z, h2⟩, h3⟩ := h
  apply f272s_of
  intro _
  refine ⟨tb, 0, rfl, seed, Cells.of h2 rfl, ?_⟩
  refine (f273_ht seed a o s hn).mono fun v H1 ⟨he, hv⟩ => ⟨_, hv, ?_⟩
  subst he
  refine tallyK (R := fun v H' => ∃ (k : Nat) (g' : Gh), v = .int .i64 (k : Int) ∧ k ≤ n ∧ Ev Spk H1 g H' g' ∧ PkV tb (.iface 187 (.agg #[.int .u64 seed])) (fun _ pl n => nrm (seedV seed pl n) n) (tr ++ [((a, o, s), n, k)]) H' g') (L1 := fun y h => f272s_L1 y h (fun v H' => ∃ (k : Nat) (g' : Gh), v = .int .i64 (k : Int) ∧ k ≤ n ∧ Ev Spk H1 g H' g' ∧ PkV tb (.iface 187 (.agg #[.int .u64 seed])) (fun _ pl n => nrm (seedV seed pl n) n) (tr ++ [((a, o, s), n, k)]) H' g')) hg h1 h2 hn (fun y h hr => f272s_L1_of _ hr) fun G e hG => hh.next e hG rfl

/-- The list, with its answers. -/
def ansL (xs : List Int) : Ans := fun j _ n => nrm ((xs[j]?).getD 0) n

def PkX (tb lb : Nat) (xs : List Int) (tr : List Ask) (H : Heap) (g : Gh) : Prop :=
  g lb = some (31, 0) ∧ PkV tb (.iface 94 (.pointer (some ⟨lb, 0, none⟩))) (ansL xs) tr H g ∧
    ∃ (p : Option Addr) (n c : Nat) (T : TypeId), H lb = some (.cells #[.slice p n c, .int .i64 ((min tr.length n : Nat) : Int)] T (0, 0)) ∧ n < 2 ^ 32 ∧ ReadL H 1 I64.cs p n xs ∧ ∀ a, p = some a → g a.block = some (0, 0)

theorem PkX.ev {xs : List Int} {tr : List Ask} (h : PkX tb lb xs tr H g) (e : Ev S H g H' g') (hS : ∀ tg, Spk tg → ¬ S tg) (h0 : ¬ S (0, 0)) : PkX tb lb xs tr H' g' := by
  obtain ⟨h1, h2, p, n, c, T, h3, h4, h5, h6⟩ := h
  exact ⟨e.tag _ _ h1, h2.ev e hS, p, n, c, T, e.get h1 (hS _ ⟨by decide, by decide⟩) h3, h4, h5.ev h6 e h0, fun a ha => e.tag _ _ (h6 a ha)⟩

theorem f270x_ht {xs : List Int} {tr : List Ask} (hg : GOk H g) (h : PkX tb lb xs tr H g) (a o s n : Int) (htr : tr.length < 2 ^ 50) : HT Tryz.prog 270 [.pointer (some ⟨lb, 0, none⟩), .agg #[.int .u8 a, .int .u64 o, .int .i64 s], .int .i64 n] H
    fun v H' => v = .int .i64 ((xs[tr.length]?).getD 0) ∧ Ev (fun tg => tg = (31, 0)) H g H' g ∧ ∃ (p : Option Addr) (n c : Nat) (T : TypeId), H' lb = some (.cells #[.slice p n c, .int .i64 ((min (tr.length + 1) n : Nat) : Int)] T (0, 0)) ∧ n < 2 ^ 32 ∧ ReadL H' 1 I64.cs p n xs ∧ ∀ a, p = some a → g a.block = some (0, 0) := by
  obtain ⟨h2, _, p, pn, pc, T, h4, h6, h7, h8⟩ := h
  have hlen := h7.len
  apply f270_of
  intro _
  refine ⟨lb, 0, rfl, _, Cells.of h4 rfl, lb, 0, rfl, _, _, _, Cells.of h4 rfl, fun hd => ?_, fun hd => ?_⟩
  · have hd := of_decide_eq_true hd
    have hge : pn ≤ tr.length := by omega
    refine ⟨?_, Ev.refl hg, p, pn, pc, T, ?_, h6, h7, h8⟩
    · rw [List.getElem?_eq_none (by omega)]; rfl
    · rw [h4, Nat.min_eq_right hge, Nat.min_eq_right (by omega)]
  · have hd := of_decide_eq_false hd
    have hlt : tr.length < pn := by omega
    have hmin : min tr.length pn = tr.length := Nat.min_eq_left (by omega)
    obtain ⟨b, o', hp, hc⟩ := h7.cells tr.length (by omega)
    rw [hmin] at h4
    refine ⟨lb, 0, rfl, _, _, _, Cells.of h4 rfl, lb, 0, rfl, _, Cells.of h4 rfl, b, o', hp, by omega, by omega, xs[tr.length], by simpa [I64.cs] using hc, lb, 0, rfl, _, Cells.of h4 rfl, lb, 0, rfl, _, _, h4, by simp, fun H1 hw => ?_⟩
    have hw' : Wr H lb (.cells #[.slice p pn pc, .int .i64 ((tr.length + 1 : Nat) : Int)] T (0, 0)) H1 := by
      have := hw
      rw [wrapS (by omega)] at this
      exact this
    have ev : Ev (fun tg => tg = (31, 0)) H g H1 g := Ev.wr hg hw' fun tg htg => by rw [h2] at htg; cases htg; rfl
    refine ⟨?_, ev, p, pn, pc, T, ?_, h6, h7.ev h8 ev (fun h => by cases h), h8⟩
    · rw [List.getElem?_eq_getElem (by omega)]; rfl
    · rw [hw'.same, Nat.min_eq_left (by omega)]

theorem pkx_picker {xs : List Int} : Picker tb (PkX tb lb xs) := by
  refine ⟨fun tr H g H' g' S h e hS h0 => h.ev e hS h0, fun tr htr H g hg h a o s n _ hn => ?_⟩
  have hh := h
  obtain ⟨hl, h9, _⟩ := h
  obtain ⟨h1, ⟨x, y, z, h2⟩, h3⟩ := h9
  apply f272l_of
  intro _
  refine ⟨tb, 0, rfl, _, Cells.of h2 rfl, ?_⟩
  refine (f270x_ht hg hh a o s (n : Int) htr).mono fun v H1 ⟨hv, e1, p, pn, pc, T, q1, q2, q3, q4⟩ => ⟨_, hv, ?_⟩
  have h21 := e1.get h1 (fun h => by cases h) h2
  refine tallyK (R := fun v H' => ∃ (k : Nat) (g' : Gh), v = .int .i64 (k : Int) ∧ k ≤ n ∧ Ev Spk H g H' g' ∧ PkX tb lb xs (tr ++ [((a, o, s), n, k)]) H' g') (L1 := fun y h => f272l_L1 y h (fun v H' => ∃ (k : Nat) (g' : Gh), v = .int .i64 (k : Int) ∧ k ≤ n ∧ Ev Spk H g H' g' ∧ PkX tb lb xs (tr ++ [((a, o, s), n, k)]) H' g')) e1.ok h1 h21 hn (fun y h hr => f272l_L1_of _ hr) fun G e hG => ?_
  have e1S : Ev Spk H g H1 g := e1.mono fun tg htg => by rw [htg]; exact ⟨by decide, by decide⟩
  refine ⟨nrm ((xs[tr.length]?).getD 0) n, g, rfl, nrm_le _ n, e1S.trans (e.mono sp30), hl, ⟨h1, hG, h3.snoc (by simp [ansL])⟩, p, pn, pc, T, ?_, q2, q3.ev q4 e (fun h => by cases h), q4⟩
  rw [List.length_append]
  exact e.get hl (fun h => by cases h) q1

end

end Go.Proofs.Qxb6500695aGreatFmt
