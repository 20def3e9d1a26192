/-
  PICKERS.
-/
import Derived.Test.Qxb6500695aGreatFmtXq
namespace Go.Proofs.Qxb6500695aGreatFmt
open Go Go.Eng Go.Proofs
set_option maxRecDepth 100000
set_option linter.unusedVariables false
set_option linter.unusedSimpArgs false
set_option linter.unusedSectionVars false

/-- A question of a crash and its answer: the place (area, object, sector), the n, the choice. -/
abbrev Ask := (Int × Int × Int) × Nat × Nat

/-- A picker behind a tally at block tb. Pk: what it has been asked. -/
structure Picker (tb : Nat) (Pk : List Ask → Heap → Gh → Prop) : Prop where
  ev : ∀ tr H g H' g' (S : Nat × Int → Prop), Pk tr H g → Ev S H g H' g' → (∀ tg, Spk tg → ¬ S tg) → ¬ S (0, 0) → Pk tr H' g'
  pick : ∀ tr, tr.length < 2 ^ 50 → ∀ H g, GOk H g → Pk tr H g → ∀ (a o s : Int) (n : Nat), 0 < n → n < 2 ^ 32 → HT Tryz.prog 272 [.pointer (some ⟨tb, 0, none⟩), .agg #[.int .u8 a, .int .u64 o, .int .i64 s], .int .i64 (n : Int)] H
    fun v H' => ∃ (k : Nat) (g' : Gh), v = .int .i64 (k : Int) ∧ k ≤ n ∧ Ev Spk H g H' g' ∧ Pk (tr ++ [((a, o, s), n, k)]) H' g'

section
variable {H : Heap} {g : Gh}

/-- An answer, brought into 0..n. -/
theorem f144_ht (v : Int) {n : Nat} (hn : n < 2 ^ 32) : HT Tryz.prog 144 [.int .i64 v, .int .i64 (n : Int)] H fun r H' => H' = H ∧ ∃ k : Nat, r = .int .i64 (k : Int) ∧ k ≤ n ∧ (0 ≤ v → v ≤ (n : Int) → (k : Int) = v) := by
  apply f144_of
  have hw : IntKind.wrap .i64 ((n : Int) + 1) = ((n + 1 : Nat) : Int) := wrapS (by omega)
  unfold f144_pre
  rw [hw]
  have hne : ((n + 1 : Nat) : Int) ≠ 0 := by omega
  have hlt := Int.tmod_lt_of_pos v (b := ((n + 1 : Nat) : Int)) (by omega)
  have hgt : -((n + 1 : Nat) : Int) < Int.tmod v ((n + 1 : Nat) : Int) := by
    rcases Int.lt_or_le v 0 with h | h
    · have h1 : Int.tmod v ((n + 1 : Nat) : Int) = -(Int.tmod (-v) ((n + 1 : Nat) : Int)) := by rw [Int.neg_tmod]; omega
      have h2 := Int.tmod_lt_of_pos (-v) (b := ((n + 1 : Nat) : Int)) (by omega)
      omega
    · have := Int.tmod_nonneg (a := v) ((n + 1 : Nat) : Int) h
      omega
  refine ⟨_, binIs_rem (P := Tryz.prog) (t := 3) (x := .tmp 8) (y := .tmp 9) hne, fun hd => ?_, fun hd => ?_⟩
  · have hd := of_decide_eq_true hd
    have hw2 : IntKind.wrap .i64 (Int.tmod v ((n + 1 : Nat) : Int) + ((n + 1 : Nat) : Int)) = Int.tmod v ((n + 1 : Nat) : Int) + ((n + 1 : Nat) : Int) := by rw [wrapI] <;> omega
    rw [hw2]
    apply f144_L1_of
    refine ⟨rfl, (Int.tmod v ((n + 1 : Nat) : Int) + ((n + 1 : Nat) : Int)).toNat, ?_, by omega, fun h0 _ => ?_⟩
    · congr 1; omega
    · have := Int.tmod_nonneg (a := v) ((n + 1 : Nat) : Int) h0
      omega
  · have hd := of_decide_eq_false hd
    apply f144_L1_of
    refine ⟨rfl, (Int.tmod v ((n + 1 : Nat) : Int)).toNat, ?_, by omega, fun h0 h1 => ?_⟩
    · congr 1; omega
    · rw [Int.tmod_eq_of_lt h0 (by omega)] at *
      omega

theorem SpP.n40 {e z : Int} : ¬ SpP e (40, z) := fun h => by
  rcases h.2 with h | h | h | h | h <;> simp at h
theorem SpP.n41 {e z : Int} : ¬ SpP e (41, z) := fun h => by
  rcases h.2 with h | h | h | h | h <;> simp at h
theorem Spk.n40 {z : Int} : ¬ Spk (40, z) := fun h => by have := h.2; simp at this
theorem Spk.n41 {z : Int} : ¬ Spk (41, z) := fun h => by have := h.2; simp at this

/-- The device's question. -/
def InvD (tb cap : Nat) (Pk : List Ask → Heap → Gh → Prop) (tr0 : List Ask) (tr : List (Int × Nat × Nat)) (H : Heap) (g : Gh) : Prop :=
  GOk H g ∧ g cap = some (40, 0) ∧ H cap = some (.cells #[.iface 178 (.pointer (some ⟨tb, 0, none⟩))] 140 (0, 0)) ∧ Pk (tr0 ++ tr.map fun x => ((0, 0, x.1), x.2.1, x.2.2)) H g

theorem InvD.ev {tb cap : Nat} {Pk : List Ask → Heap → Gh → Prop} (hP : Picker tb Pk) {tr0 : List Ask} {e : Int} : ∀ tr H g H' g', InvD tb cap Pk tr0 tr H g → Ev (SpP e) H g H' g' → InvD tb cap Pk tr0 tr H' g' := by
  intro tr H g H' g' ⟨h0, h1, h2, h3⟩ ev
  exact ⟨ev.ok, ev.tag _ _ h1, ev.get h1 SpP.n40 h2, hP.ev _ _ _ _ _ _ h3 ev (fun tg ht hs => Spk.nP hs ht) SpP.zero⟩

theorem f143_ht {tb cap : Nat} {Pk : List Ask → Heap → Gh → Prop} (hP : Picker tb Pk) {tr0 : List Ask} (htr0 : tr0.length < 2 ^ 40) : ∀ tr, tr.length < 2 ^ 20 → ∀ H g, InvD tb cap Pk tr0 tr H g → ∀ i n : Nat, 0 < n → n < 2 ^ 32 →
    HT Tryz.prog 143 [.int .i64 (i : Int), .int .i64 (n : Int), .pointer (some ⟨cap, 0, none⟩)] H fun v H' => ∃ (k : Nat) (g' : Gh), v = .int .i64 (k : Int) ∧ k ≤ n ∧ Ev Spk H g H' g' ∧ InvD tb cap Pk tr0 (tr ++ [((i : Int), n, k)]) H' g' := by
  intro tr htr H g ⟨h0, h1, h2, h3⟩ i n hn0 hn
  apply f143_of
  refine ⟨_, Cells.of h2 rfl, ?_⟩
  refine (hP.pick _ (by rw [List.length_append, List.length_map]; omega) H g h0 h3 0 0 (i : Int) n hn0 hn).mono fun v H1 ⟨k, g1, hv, hk, e1, hp1⟩ => ⟨_, hv, ?_⟩
  refine (f144_ht (k : Int) hn).mono fun v H2 ⟨he, k2, hv2, hk2, heq⟩ => ⟨_, hv2, k2, g1, rfl, hk2, ?_⟩
  subst he
  have : k2 = k := by have := heq (by omega) (by omega); omega
  subst this
  refine ⟨e1, e1.ok, e1.tag _ _ h1, e1.get h1 Spk.n40 h2, ?_⟩
  rw [List.map_append, ← List.append_assoc]
  exact hp1

/-- An object's question on a sector. -/
def InvO (tb cap cap2 ob : Nat) (oid z : Int) (Pk : List Ask → Heap → Gh → Prop) (tr0 : List Ask) (tr : List (Int × Nat × Nat)) (H : Heap) (g : Gh) : Prop :=
  GOk H g ∧ g cap = some (40, 0) ∧ H cap = some (.cells #[.pointer (some ⟨ob, 0, none⟩)] 152 (0, 0)) ∧ g cap2 = some (40, 0) ∧ H cap2 = some (.cells #[.iface 178 (.pointer (some ⟨tb, 0, none⟩))] 140 (0, 0)) ∧
    g ob = some (11, z) ∧ Cells H ob 0 [.int .u64 oid] ∧ Pk (tr0 ++ tr.map fun x => ((3, oid, x.1), x.2.1, x.2.2)) H g

theorem SpP.n11 {e z : Int} : ¬ SpP e (11, z) := fun h => by
  rcases h.2 with h | h | h | h | h <;> simp at h
theorem Spk.n11 {z : Int} : ¬ Spk (11, z) := fun h => by have := h.1; simp at this

theorem Cells.ev {S : Nat × Int → Prop} {H H' : Heap} {g g' : Gh} {b o : Nat} {vs : List Value} {tg : Nat × Int} (h : Cells H b o vs) (hb : g b = some tg) (ev : Ev S H g H' g') (hn : ¬ S tg) : Cells H' b o vs := by
  obtain ⟨c, T, fr, h1, h2⟩ := h
  exact ⟨c, T, fr, ev.get hb hn h1, h2⟩

theorem InvO.ev {tb cap cap2 ob : Nat} {oid z : Int} {Pk : List Ask → Heap → Gh → Prop} (hP : Picker tb Pk) {tr0 : List Ask} {e : Int} : ∀ tr H g H' g', InvO tb cap cap2 ob oid z Pk tr0 tr H g → Ev (SpP e) H g H' g' → InvO tb cap cap2 ob oid z Pk tr0 tr H' g' := by
  intro tr H g H' g' ⟨h0, h1, h2, h3, h4, h5, h6, h7⟩ ev
  exact ⟨ev.ok, ev.tag _ _ h1, ev.get h1 SpP.n40 h2, ev.tag _ _ h3, ev.get h3 SpP.n40 h4, ev.tag _ _ h5, Cells.ev h6 h5 ev SpP.n11, hP.ev _ _ _ _ _ _ h7 ev (fun tg ht hs => Spk.nP hs ht) SpP.zero⟩

theorem f188_ht {tb cap cap2 ob : Nat} {oid z : Int} {Pk : List Ask → Heap → Gh → Prop} (hP : Picker tb Pk) {tr0 : List Ask} (htr0 : tr0.length < 2 ^ 40) : ∀ tr, tr.length < 2 ^ 20 → ∀ H g, InvO tb cap cap2 ob oid z Pk tr0 tr H g → ∀ i n : Nat, 0 < n → n < 2 ^ 32 →
    HT Tryz.prog 188 [.int .i64 (i : Int), .int .i64 (n : Int), .pointer (some ⟨cap, 0, none⟩), .pointer (some ⟨cap2, 0, none⟩)] H fun v H' => ∃ (k : Nat) (g' : Gh), v = .int .i64 (k : Int) ∧ k ≤ n ∧ Ev Spk H g H' g' ∧ InvO tb cap cap2 ob oid z Pk tr0 (tr ++ [((i : Int), n, k)]) H' g' := by
  intro tr htr H g ⟨h0, h1, h2, h3, h4, h5, h6, h7⟩ i n hn0 hn
  apply f188_of
  refine ⟨_, Cells.of h2 rfl, ob, 0, rfl, oid, h6, fun _ => ⟨_, Cells.of h4 rfl, ?_⟩⟩
  refine (hP.pick _ (by rw [List.length_append, List.length_map]; omega) H g h0 h7 3 oid (i : Int) n hn0 hn).mono fun v H1 ⟨k, g1, hv, hk, e1, hp1⟩ => ⟨_, hv, ?_⟩
  refine (f144_ht (k : Int) hn).mono fun v H2 ⟨he, k2, hv2, hk2, heq⟩ => ⟨_, hv2, k2, g1, rfl, hk2, ?_⟩
  subst he
  have : k2 = k := by have := heq (by omega) (by omega); omega
  subst this
  refine ⟨e1, e1.ok, e1.tag _ _ h1, e1.get h1 Spk.n40 h2, e1.tag _ _ h3, e1.get h3 Spk.n40 h4, e1.tag _ _ h5, Cells.ev h6 h5 e1 Spk.n11, ?_⟩
  rw [List.map_append, ← List.append_assoc]
  exact hp1

/-- The picker that answers from a list. -/
def PkL (tb lb : Nat) (_ : List Ask) (H : Heap) (g : Gh) : Prop :=
  g tb = some (30, 0) ∧ g lb = some (31, 0) ∧ (∃ a b c : Int, H tb = some (.cells #[.iface 94 (.pointer (some ⟨lb, 0, none⟩)), .int .i64 a, .int .i64 b, .int .i64 c] 180 (0, 0))) ∧
    ∃ (p : Option Addr) (n c nx : Nat) (xs : List Int) (T : TypeId), H lb = some (.cells #[.slice p n c, .int .i64 (nx : Int)] T (0, 0)) ∧ nx ≤ n ∧ n < 2 ^ 32 ∧ ReadL H 1 I64.cs p n xs ∧ ∀ a, p = some a → g a.block = some (0, 0)

theorem ReadL.ev {α : Type} {S : Nat × Int → Prop} {H H' : Heap} {g g' : Gh} {sz : Nat} {enc : α → List Value} {p : Option Addr} {n : Nat} {xs : List α} {tg : Nat × Int} (h : ReadL H sz enc p n xs) (ht : ∀ a, p = some a → g a.block = some tg) (he : Ev S H g H' g') (hn : ¬ S tg) : ReadL H' sz enc p n xs :=
  ⟨h.len, fun i hi => let ⟨b, o, h1, c, T, fr, h2, h3⟩ := h.cells i hi; ⟨b, o, h1, c, T, fr, he.get (ht _ h1) hn h2, h3⟩⟩

theorem PkL.ev {tb lb : Nat} : ∀ tr H g H' g' (S : Nat × Int → Prop), PkL tb lb tr H g → Ev S H g H' g' → (∀ tg, Spk tg → ¬ S tg) → ¬ S (0, 0) → PkL tb lb tr H' g' := by
  intro tr H g H' g' S ⟨h1, h2, ⟨a, b, c, h3⟩, p, n, cc, nx, xs, T, h4, h5, h6, h7, h8⟩ ev hS h0
  exact ⟨ev.tag _ _ h1, ev.tag _ _ h2, ⟨a, b, c, ev.get h1 (hS _ ⟨by decide, by decide⟩) h3⟩, p, n, cc, nx, xs, T, ev.get h2 (hS _ ⟨by decide, by decide⟩) h4, h5, h6, h7.ev h8 ev h0, fun a ha => ev.tag _ _ (h8 a ha)⟩

end

end Go.Proofs.Qxb6500695aGreatFmt
