/-
  THE PICKER THAT ANSWERS FROM A LIST.
-/
import Derived.Test.Qxb6500695aGreatFmtXr
namespace Go.Proofs.Qxb6500695aGreatFmt
open Go Go.Eng Go.Proofs
set_option maxRecDepth 100000
set_option linter.unusedVariables false
set_option linter.unusedSimpArgs false
set_option linter.unusedSectionVars false

section
variable {H : Heap} {g : Gh} {tb lb : Nat}

theorem f270_ht {tr : List Ask} (hg : GOk H g) (h : PkL tb lb tr H g) (a o s n : Int) : HT Tryz.prog 270 [.pointer (some ⟨lb, 0, none⟩), .agg #[.int .u8 a, .int .u64 o, .int .i64 s], .int .i64 n] H
    fun v H' => ∃ x, v = .int .i64 x ∧ Ev (fun tg => tg = (31, 0)) H g H' g ∧ PkL tb lb tr H' g := by
  obtain ⟨h1, h2, ⟨a', b', c', h3⟩, p, pn, pc, nx, xs, T, h4, h5, h6, h7, h8⟩ := h
  have hlen := h7.len
  have hPk : PkL tb lb tr H g := ⟨h1, h2, ⟨a', b', c', h3⟩, p, pn, pc, nx, xs, T, h4, h5, h6, h7, h8⟩
  apply f270_of
  intro _
  refine ⟨lb, 0, rfl, _, Cells.of h4 rfl, lb, 0, rfl, _, _, _, Cells.of h4 rfl, fun _ => ⟨0, rfl, Ev.refl hg, hPk⟩, fun hd => ?_⟩
  have hd := of_decide_eq_false hd
  obtain ⟨b, o', hp, hc⟩ := h7.cells nx (by omega)
  refine ⟨lb, 0, rfl, _, _, _, Cells.of h4 rfl, lb, 0, rfl, _, Cells.of h4 rfl, b, o', hp, by omega, by omega, xs[nx], by simpa [I64.cs] using hc, lb, 0, rfl, _, Cells.of h4 rfl, lb, 0, rfl, _, _, h4, by simp, fun H1 hw => ?_⟩
  have hw' : Wr H lb (.cells #[.slice p pn pc, .int .i64 ((nx + 1 : Nat) : Int)] T (0, 0)) H1 := by
    have := hw
    rw [wrapS (by omega)] at this
    exact this
  have ev : Ev (fun tg => tg = (31, 0)) H g H1 g := Ev.wr hg hw' fun tg htg => by rw [h2] at htg; cases htg; rfl
  exact ⟨_, rfl, ev, h1, h2, ⟨a', b', c', ev.get h1 (fun h => by cases h) h3⟩, p, pn, pc, nx + 1, xs, T, hw'.same, by omega, h6, h7.ev h8 ev (fun h => by cases h), h8⟩

theorem f272l_ht {tr : List Ask} (hg : GOk H g) (h : PkL tb lb tr H g) (a o s : Int) {n : Nat} (hn : n < 2 ^ 32) : HT Tryz.prog 272 [.pointer (some ⟨tb, 0, none⟩), .agg #[.int .u8 a, .int .u64 o, .int .i64 s], .int .i64 (n : Int)] H
    fun v H' => ∃ (k : Nat) (g' : Gh), v = .int .i64 (k : Int) ∧ k ≤ n ∧ Ev Spk H g H' g' ∧ PkL tb lb (tr ++ [((a, o, s), n, k)]) H' g' := by
  have hh := h
  obtain ⟨h1, h2, ⟨a', b', c', h3⟩, rest⟩ := h
  apply f272l_of
  intro _
  refine ⟨tb, 0, rfl, _, Cells.of h3 rfl, ?_⟩
  refine (f270_ht hg hh a o s (n : Int)).mono fun v H1 ⟨x, hv, e1, hp1⟩ => ⟨x, hv, ?_⟩
  refine (f144_ht x hn).mono fun v H2 ⟨he, k, hv2, hk, _⟩ => ⟨_, hv2, ?_⟩
  subst he
  obtain ⟨k1, k2, ⟨x1, x2, x3, k3⟩, krest⟩ := hp1
  refine ⟨tb, 0, rfl, x1, Cells.of k3 rfl, tb, 0, rfl, _, _, k3, by simp, fun H3 hw3 => ?_⟩
  have hw3' : Wr H2 tb (.cells #[.iface 94 (.pointer (some ⟨lb, 0, none⟩)), .int .i64 (IntKind.wrap .i64 (x1 + 1)), .int .i64 x2, .int .i64 x3] 180 (0, 0)) H3 := hw3
  refine ⟨tb, 0, rfl, x2, Cells.of hw3'.same rfl, tb, 0, rfl, _, _, hw3'.same, by simp, fun H4 hw4 => ?_⟩
  have hw4' : Wr H3 tb (.cells #[.iface 94 (.pointer (some ⟨lb, 0, none⟩)), .int .i64 (IntKind.wrap .i64 (x1 + 1)), .int .i64 (IntKind.wrap .i64 (x2 + (n : Int))), .int .i64 x3] 180 (0, 0)) H4 := hw4
  have S30 : ∀ {G G' : Heap} {ob : Obj}, GOk G g → Wr G tb ob G' → Ev (fun tg => tg = (30, 0)) G g G' g := fun hG hw => Ev.wr hG hw fun tg htg => by rw [h1] at htg; cases htg; rfl
  have e3 := S30 e1.ok hw3'
  have e4 := S30 e3.ok hw4'
  have fin : ∀ {G : Heap} {y1 y2 y3 : Int}, Ev (fun tg => tg = (30, 0)) H2 g G g → G tb = some (.cells #[.iface 94 (.pointer (some ⟨lb, 0, none⟩)), .int .i64 y1, .int .i64 y2, .int .i64 y3] 180 (0, 0)) →
      ∃ (k' : Nat) (g' : Gh), Value.int .i64 (k : Int) = .int .i64 (k' : Int) ∧ k' ≤ n ∧ Ev Spk H g G g' ∧ PkL tb lb (tr ++ [((a, o, s), n, k')]) G g' := by
    intro G y1 y2 y3 eG hG
    obtain ⟨p, pn, pc, nx, xs, T, q4, q5, q6, q7, q8⟩ := krest
    refine ⟨k, g, rfl, hk, (e1.mono fun tg htg => by rw [htg]; exact ⟨by decide, by decide⟩).trans (eG.mono fun tg htg => by rw [htg]; exact ⟨by decide, by decide⟩), h1, h2, ⟨y1, y2, y3, hG⟩, p, pn, pc, nx, xs, T, eG.get h2 (fun h => by cases h) q4, q5, q6, q7.ev q8 eG (fun h => by cases h), q8⟩
  refine ⟨fun _ => ?_, fun _ => ?_⟩
  · refine ⟨tb, 0, rfl, x3, Cells.of hw4'.same rfl, tb, 0, rfl, _, _, hw4'.same, by simp, fun H5 hw5 => ?_⟩
    have hw5' : Wr H4 tb (.cells #[.iface 94 (.pointer (some ⟨lb, 0, none⟩)), .int .i64 (IntKind.wrap .i64 (x1 + 1)), .int .i64 (IntKind.wrap .i64 (x2 + (n : Int))), .int .i64 (IntKind.wrap .i64 (x3 + 1))] 180 (0, 0)) H5 := hw5
    apply f272l_L1_of
    exact fin ((e3.trans e4).trans (S30 e4.ok hw5')) hw5'.same
  · apply f272l_L1_of
    exact fin (e3.trans e4) hw4'.same

theorem pkl_picker : Picker tb (PkL tb lb) :=
  ⟨PkL.ev, fun tr _ H g hg h a o s n _ hn => f272l_ht hg h a o s hn⟩

end

end Go.Proofs.Qxb6500695aGreatFmt
