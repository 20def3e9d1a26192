/-
  THE PLANE, PART E: a value into the cache.
-/
import Derived.Test.Qxb6500695aGreatFmtXd
namespace Go.Proofs.Qxb6500695aGreatFmt
open Go Go.Eng Go.Proofs
set_option maxRecDepth 100000
set_option linter.unusedVariables false
set_option linter.unusedSimpArgs false
set_option linter.unusedSectionVars false

/-- One unsynced value more of sector i. -/
def Pl.put (P : Pl) (i : Nat) (v : List Int) : Pl := ⟨P.media, fun j => if j = (i : Int) then P.cache j ++ [some v] else P.cache j⟩

def SpC (e : Int) (i : Nat) (tg : Nat × Int) : Prop := tg = (14, e) ∨ tg = (100 + i, e)

theorem SpC.le {e : Int} {i : Nat} {tg : Nat × Int} (h : SpC e i tg) : SpP e tg := by
  rcases h with rfl | rfl
  · exact ⟨rfl, .inr (.inr (.inl rfl))⟩
  · exact ⟨rfl, .inr (.inr (.inr (.inr (by simp))))⟩

section
variable {H : Heap} {g : Gh} {e : Int} {pb ss ns bd : Nat} {P : Pl}

theorem cput_ht (hg : GOk H g) (h : PlOk H g e pb ss ns bd P) (hbd : bd < 2 ^ 32) {i : Nat} (hi : i < ns) {s : Sec} {bs : List Int} (hs : SecOk H g ss s bs) {K : Heap → Prop}
    (hK : ∀ H' g', Ev (SpP e) H g H' g' → PlOk H' g' e pb ss ns (bd + 1) (P.put i bs) → K H') :
    ∃ (b31 o31 : Nat), (some ⟨pb, 0, none⟩ : Option Addr) = some ⟨b31, o31, none⟩ ∧ (∃ (x33 : Option Nat), Cells H b31 (o31 + 2) [.map x33] ∧ (∃ (b37 o37 : Nat), (some ⟨pb, 0, none⟩ : Option Addr) = some ⟨b37, o37, none⟩ ∧ (∃ (x39 : Option Nat), Cells H b37 (o37 + 2) [.map x39] ∧ (∃ (r42 : Nat) (es42 : Array MapEntry) (ck42 : Nat), x39 = some r42 ∧ H r42 = some (.map es42 ck42) ∧ ∃ (x42 : Option Addr) (x42n x42c : Nat), LookIs Tryz.prog 61 r42 es42 ck42 (.int .i64 (i : Int)) false (.slice x42 x42n x42c) ∧ (∀ (b44 : Nat) (hp4 : Heap), Al H (.cells #[.slice s.p s.n s.c] 35 (0, 0)) b44 hp4 → (SemOk Tryz.prog (Builtin.append_ #[37, 37] 37 #[.slice x42 x42n x42c, .slice (some ⟨b44, 0, none⟩) 1 1]) hp4 (fun v hp5 => ∃ (x45 : Option Addr) (x45n x45c : Nat), v = .slice x45 x45n x45c ∧ (Cells hp5 b37 (o37 + 2) [.map x39] ∧ Cells hp5 b31 (o31 + 2) [.map x33] ∧ SemOk Tryz.prog (Instr.mapUpdate 61 (.map x33) (.int .i64 (i : Int)) (.slice x45 x45n x45c)) hp5 (fun _ hp6 => K hp6))))))))) := by
  obtain ⟨mp, mn, mc, r, ml, es, ck, h1, h2, h3, h4, h5, h6, h7, h8, h9⟩ := h.ex
  obtain ⟨q, n, c, l, l1, l2, l3, l4, l5⟩ := look_cache h6 h7 h8 h9 (i : Int)
  have hll := l2.own.len
  have hl3 := l3.len
  refine ⟨pb, 0, rfl, _, Cells.of h1 rfl, pb, 0, rfl, _, Cells.of h1 rfl, r, es, ck, rfl, h6, q, n, c, l1, fun b44 hp4 ha => ?_⟩
  have htoN : ((i : Int)).toNat = i := by simp
  rw [htoN] at l2
  refine appT (S := SpC e i) (inf := Tryz.t35) (zero := .slice none 0 0) (x := s) (enc := Sec.cs) Tryz.underlying37 (by kernel_rfl) (by kernel_rfl) rfl (by decide) rfl ha rfl (by intro v hv; simp [Sec.cs, Sec.val] at hv; subst hv; rfl) hg l2 (.inr rfl) (by omega) fun p' c' H5 g5 hpn e5 o5 k5 => ⟨p', n + 1, c', rfl, ?_⟩
  have n12 : ¬ SpC e i (12, e) := fun h => by
    rcases h with h | h
    · cases h
    · have := congrArg Prod.fst h; simp at this; omega
  have n13 : ¬ SpC e i (13, e) := fun h => by
    rcases h with h | h
    · cases h
    · have := congrArg Prod.fst h; simp at this; omega
  have n0 : ¬ SpC e i (0, 0) := fun h => SpP.zero (h.le)
  have hpl5 := e5.get h.tp n12 h1
  refine ⟨Cells.of hpl5 rfl, Cells.of hpl5 rfl, ?_⟩
  -- the map stands through the append: its block is no array
  have h65 : H5 r = some (.map es ck) := k5 r _ h6 fun a ha' hab => by
    rcases l2.own.own with ⟨hq, _⟩ | ⟨b', o', arr, hq, hb', _⟩
    · rw [hq] at ha'; cases ha'
    · rw [hq] at ha'; cases ha'; simp only at hab; rw [hab, h6] at hb'; cases hb'
  refine semOk_mapUpdate Tryz.underlying61 Tryz.underlying2 h65 h7.1 fun H6 hw6 => ?_
  obtain ⟨es', ck', he', hok', hget', hmem', _, _⟩ := mput_ok (n := (i : Int)) (v := .slice p' (n + 1) c') h7
  rw [he'] at hw6
  have g5r : g5 r = some (14, e) := e5.tag _ _ h5
  have e6 : Ev (SpC e i) H5 g5 H6 g5 := Ev.wr e5.ok hw6 fun tg htg => by rw [g5r] at htg; cases htg; exact .inl rfl
  have e56 := e5.trans e6
  have n14 : ∀ j : Nat, ¬ (fun tg => tg = ((14 : Nat), e)) ((100 + j : Nat), e) := fun j h => by
    have := congrArg Prod.fst h; simp at this; omega
  have o6 : OwnT H6 g5 (100 + i, e) 35 1 Sec.cs p' (n + 1) c' (l ++ [s]) :=
    o5.ev (Ev.wr (S := fun tg => tg = (14, e)) e5.ok hw6 fun tg htg => by rw [g5r] at htg; cases htg; rfl) (n14 i)
  refine hK H6 g5 (e56.mono fun _ h => h.le) ⟨h.ssb, h.nsb, e56.tag _ _ h.tp, mp, mn, mc, r, ml, es', ck', e56.get h.tp n12 h1, h2.ev e56 n13, h3.ev e56 n0, h4, g5r, hw6.same, hok', fun en hen => ?_, fun j hj => ?_⟩
  · by_cases hk : keyN en.key = (i : Int)
    · have hval : en.val = .slice p' (n + 1) c' := by
        have h10 := iget_of_mem hok'.2.1 hen
        rw [hk, hget', if_pos rfl] at h10
        exact (Option.some.inj h10).symm
      unfold CacheE
      rw [hk, htoN]
      simp only [Pl.put, if_true]
      refine ⟨by omega, by omega, by simp; omega, by simp, fun v hv => ?_, p', n + 1, c', l ++ [s], hval, o6, (l3.ev e56 n0).snoc ?_⟩
      · rcases List.mem_append.1 hv with h11 | h11
        · exact l4 v h11
        · rw [List.mem_singleton.1 h11]; simp
      · exact SecV.ev (v := some bs) hs e56 n0
    · have hold : en ∈ es.toList := by
        rcases hmem' en hen with ⟨h11, _⟩ | h11
        · exact absurd h11 hk
        · exact h11
      have hE := h8 en hold
      have hnt : ¬ SpC e i (100 + (keyN en.key).toNat, e) := fun h => by
        rcases h with h | h
        · have := congrArg Prod.fst h; simp at this; omega
        · have := congrArg Prod.fst h
          simp at this
          have := hE.1
          omega
      obtain ⟨k1, k2, k3, k4, k5', rest⟩ := hE.ev e56 n0 hnt
      unfold CacheE
      simp only [Pl.put, if_neg hk]
      exact ⟨k1, k2, by omega, k4, k5', rest⟩
  · rw [hget'] at hj
    by_cases hji : j = (i : Int)
    · rw [if_pos hji] at hj; cases hj
    · rw [if_neg hji] at hj
      simp only [Pl.put, if_neg hji]
      exact h9 j hj

end

end Go.Proofs.Qxb6500695aGreatFmt
