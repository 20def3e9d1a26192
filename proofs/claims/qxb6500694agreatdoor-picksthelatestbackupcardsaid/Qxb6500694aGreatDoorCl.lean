/-
  CONTRACTS, PART L: known, Lineage.
-/
import Derived.Test.Qxb6500694aGreatDoorCk
namespace Go.Proofs.Qxb6500694aGreatDoor
open Go Go.Eng Go.Proofs
set_option maxRecDepth 100000
set_option linter.unusedVariables false
set_option linter.unusedSimpArgs false
set_option linter.unusedSectionVars false

theorem com_one (x : Com) : ∀ v ∈ Com.cs x, v.oneCell' = true := by simp [Com.cs, Value.oneCell']

theorem ReadL.flat {α : Type} {H : Heap} {sz : Nat} {enc : α → List Value} {p : Option Addr} {n : Nat} {xs : List α} (h : ReadL H sz enc p n xs) (hz : ∀ x, (enc x).length = sz) (hn : 0 < n) : ∃ b o, p = some ⟨b, o, none⟩ ∧ Cells H b o (xs.flatMap enc) := by
  have hlen := h.len
  obtain ⟨b, o, hp, _⟩ := h.cells 0 (by omega)
  refine ⟨b, o, hp, flat_cells hz (by omega) fun i hi => ?_⟩
  obtain ⟨b', o', hp', hc⟩ := h.cells i hi
  rw [hp] at hp'
  simp at hp'
  obtain ⟨rfl, rfl⟩ := hp'
  exact hc

section
variable {H0 H H1 : Heap} {p q : Option Addr} {n c m mc ty : Nat} {K : Value → Heap → Prop}

theorem appN_com {xs ys : List Com} (hs : Coms H1 p n c xs) (hr : ReadL H1 4 Com.cs q m ys) (hn : n + m < 2 ^ 34) (h0 : Sub H0 H1) (hnew : New H0 p)
    (h3 : ∀ p' c' H', Sub H0 H' → New H0 p' → Coms H' p' (n + m) c' (xs ++ ys) → (∀ b' o', H1 b' = some o' → (∀ a, p = some a → a.block ≠ b') → H' b' = some o') → K (.slice p' (n + m) c') H') :
    SemOk Tryz.prog (Builtin.append_ #[72, 72] ty #[.slice p n c, .slice q m mc]) H1 K :=
  appN (enc := Com.cs) (inf := Tryz.t77) (zero := .agg #[.int .u64 0, .int .i64 0, .slice none 0 0, .slice none 0 0]) Tryz.underlying72 (by kernel_rfl) (by kernel_rfl) rfl (by decide) rfl hs hr.len (fun h => hr.flat Com.size h) com_one hn h0 hnew h3

end

section
variable {H : Heap} {ba : Nat} {esM esL esH : Array MapEntry}

def knownPost (H : Heap) (qn : Nat) (v : Value) (H' : Heap) : Prop :=
  ∃ p n c reach g zs, v = .tuple #[.slice p n c, .int .u64 reach, .bool g] ∧ inU reach ∧ Sub H H' ∧ Coms H' p n c zs ∧ (∀ x ∈ zs, x.ok H) ∧ n ≤ qn * 65536

theorem f42_L1_ht (hA : Arch H ba esM esL esH) (hG : Globs H) {q : Option Addr} {qn qc : Nat} {line : List Hist} (hr : ReadL H 3 Hist.cs q qn line) (hn : qn < 131072) (hbr : ∀ h ∈ line, inU h.br) :
    ∀ (k i : Nat) (p : Option Addr) (n c : Nat) (zs : List Com) (reach : Int) (h : Heap), i + k = qn → Sub H h → New H p → Coms h p n c zs → (∀ x ∈ zs, x.ok H) → n ≤ i * 65536 → inU reach →
      f42_L1 (some ⟨ba, 0, none⟩) q qn qc p n c reach q qn qc (qn : Int) (i : Int) h (knownPost H qn) := by
  have hlen := hr.len
  intro k
  induction k with
  | zero =>
    intro i p n c zs reach h hi hs hnew ho hok hni hre
    apply f42_L1_of
    refine ⟨fun hd => absurd (of_decide_eq_true hd) (by omega), fun _ => ⟨p, n, c, reach, false, zs, rfl, hre, hs, ho, hok, ?_⟩⟩
    have : i = qn := by omega
    rw [← this]; exact hni
  | succ k ih =>
    intro i p n c zs reach h hi hs hnew ho hok hni hre
    apply f42_L1_of
    refine ⟨fun _ => ?_, fun hd => absurd (of_decide_eq_false hd) (by simp; omega)⟩
    obtain ⟨b, o, hp, hc⟩ := (hr.sub hs).cells i (by omega)
    refine ⟨b, o, hp, by omega, by omega, _, _, _, hc, fun _ => ?_⟩
    refine (f69_ht (hA.sub hs) _).mono fun v h1 ⟨he, x, hx, hv⟩ => ?_
    subst he
    refine ⟨x, hv, ?_⟩
    refine (f70_ht (c := qc) (hr.sub hs) (by omega) (i := i) (by omega)).mono fun v h2 ⟨he2, hv2⟩ => ?_
    subst he2
    obtain ⟨ex, bex, hex, hexu⟩ : ∃ ex bex, leavesV line i = .tuple #[.int .u64 ex, .bool bex] ∧ inU ex := by
      unfold leavesV
      by_cases hl : i + 1 < line.length
      · rw [List.getElem?_eq_getElem hl]
        exact ⟨_, _, rfl, hbr _ (List.getElem_mem _)⟩
      · rw [List.getElem?_eq_none (by omega)]
        exact ⟨0, false, rfl, by simp [inU]⟩
    have l3 : ∀ r, inU r → f42_L3 (some ⟨ba, 0, none⟩) q qn qc p n c r line[i].tl line[i].par line[i].br ex bex q qn qc (qn : Int) (i : Int) h2 (knownPost H qn) := by
      intro r hru
      apply f42_L3_of
      refine (f71_ht hA hG hs _ _ _).mono fun v h3 ⟨p', n', c', ys, e, he, hv3, hs3, hnew3, ho3, hok3, hn3⟩ => ⟨p', n', c', e, hv3, ?_⟩
      have hmul : (i + 1) * 65536 = i * 65536 + 65536 := by rw [Nat.add_mul]
      have hib : i * 65536 ≤ 131072 * 65536 := Nat.mul_le_mul_right _ (by omega)
      refine appN_com (H0 := H) (ho.sub hs3) (ReadL.of ho3) (by omega) (hs.trans hs3) hnew fun p4 c4 h4 a1 a2 a3 _ => ⟨p4, n + n', c4, rfl, ?_⟩
      have hok' : ∀ x ∈ zs ++ ys, x.ok H := by
        intro x hx
        rcases List.mem_append.1 hx with h5 | h5
        · exact hok x h5
        · exact hok3 x h5
      have l4 : ∀ bb, f42_L4 (some ⟨ba, 0, none⟩) q qn qc p4 (n + n') c4 r q qn qc (qn : Int) (i : Int) bb h4 (knownPost H qn) := by
        intro bb
        apply f42_L4_of
        refine ⟨fun _ => ⟨p4, n + n', c4, r, true, zs ++ ys, rfl, hru, a1, a3, hok', ?_⟩, fun _ => ?_⟩
        · have : (i + 1) * 65536 ≤ qn * 65536 := Nat.mul_le_mul_right _ (by omega)
          omega
        · rw [wrapS (by omega)]
          exact ih (i + 1) p4 (n + n') c4 _ r h4 (by omega) a1 a2 a3 hok' (by omega) hru
      exact ⟨fun _ => l4 _, fun _ => l4 _⟩
    have l2 : ∀ bb, f42_L2 (some ⟨ba, 0, none⟩) q qn qc p n c x line[i].tl line[i].par line[i].br ex bex q qn qc (qn : Int) (i : Int) bb h2 (knownPost H qn) := by
      intro bb
      apply f42_L2_of
      exact ⟨fun _ => l3 ex hexu, fun _ => l3 x hx⟩
    exact ⟨ex, bex, hv2.trans hex, fun _ => l2 _, fun _ => l2 _⟩

theorem f42_ht (hA : Arch H ba esM esL esH) (hG : Globs H) {q : Option Addr} {qn qc : Nat} {line : List Hist} (hr : ReadL H 3 Hist.cs q qn line) (hn : qn < 131072) (hbr : ∀ h ∈ line, inU h.br) :
    HT Tryz.prog 42 [.pointer (some ⟨ba, 0, none⟩), .slice q qn qc] H (knownPost H qn) := by
  apply f42_of
  exact f42_L1_ht hA hG hr hn hbr qn 0 none 0 0 [] 0 H (by omega) (Sub.refl _) (New.none _) (OwnL.nil Com.size) (by simp) (by omega) (by simp [inU])

def linePost (H : Heap) (t : Int) (v : Value) (H' : Heap) : Prop :=
  ∃ p n c zs, v = .slice p n c ∧ Sub H H' ∧ New H p ∧ Coms H' p n c zs ∧ (∀ x ∈ zs, x.ok H) ∧ n ≤ t.toNat * 65536

theorem f27_L3_ht (hA : Arch H ba esM esL esH) {t : Int} {p : Option Addr} {n c : Nat} {zs : List Com} {h : Heap} (hs : Sub H h) (hnew : New H p) (ho : Coms h p n c zs) (hok : ∀ x ∈ zs, x.ok H) (hn : n + 65536 ≤ t.toNat * 65536) (ht : t < 131072) :
    f27_L3 (some ⟨ba, 0, none⟩) t p n c h (linePost H t) := by
  obtain ⟨rm, rl, rh, cM, cL, cH, mp, h1, h2, h3, h4, h5, h6, h7⟩ := hA.ex
  apply f27_L3_of
  obtain ⟨p2, n2, c2, xs, hl, hr, hok2, hn2⟩ := look_log hA (rm := rl) h6 t
  have htn : t.toNat * 65536 ≤ 131072 * 65536 := Nat.mul_le_mul_right _ (by omega)
  refine ⟨ba, 0, rfl, _, Cells.of (hs _ _ h1) rfl, rl, esL, cL, rfl, hs _ _ h3, p2, n2, c2, hl, ?_⟩
  refine appN_com (H0 := H) ho (hr.sub hs) (by omega) hs hnew fun p4 c4 h4 a1 a2 a3 _ => ⟨p4, n + n2, c4, rfl, p4, n + n2, c4, zs ++ xs, rfl, a1, a2, a3, ?_, by omega⟩
  intro x hx
  rcases List.mem_append.1 hx with h5 | h5
  · exact hok x h5
  · exact hok2 x h5

theorem f27_ht (hA : Arch H ba esM esL esH) : ∀ (f : Nat) (t : Int), t.toNat < f → HT Tryz.prog 27 [.pointer (some ⟨ba, 0, none⟩), .int .u32 t] H (linePost H t) := by
  intro f
  induction f with
  | zero => intro t ht; omega
  | succ f ih =>
    intro t ht
    obtain ⟨rm, rl, rh, cM, cL, cH, mp, h1, h2, h3, h4, h5, h6, h7⟩ := hA.ex
    apply f27_of
    refine ⟨ba, 0, rfl, _, Cells.of h1 rfl, rh, esH, cH, rfl, h4, ?_⟩
    rcases look_his hA (rm := rh) h7 t with ⟨m, hg, hgood, hl, _⟩ | ⟨hg, hl, _⟩
    · obtain ⟨g1, g2, g3, g4, g5, g6⟩ := hgood
      refine ⟨m.tl, m.par, m.br, true, hl, fun _ => ⟨(fun h => by cases h), fun _ => ⟨fun hp => ?_, fun hp => ?_⟩⟩⟩
      · have hp : m.par ≠ 0 := by simpa using hp
        refine (ih m.par (by omega)).mono fun v h1 ⟨q, qn, qc, xs, hv, hs1, hnew1, ho1, hok1, hn1⟩ => ⟨q, qn, qc, hv, ?_⟩
        have hlen := ho1.len
        have hmt : m.par.toNat + 1 ≤ t.toNat := by omega
        have hmul : (m.par.toNat + 1) * 65536 ≤ t.toNat * 65536 := Nat.mul_le_mul_right _ hmt
        rw [Nat.add_mul] at hmul
        have htb : t.toNat * 65536 ≤ 131072 * 65536 := Nat.mul_le_mul_right _ (by omega)
        have loop : ∀ (k i : Nat) (p : Option Addr) (n c : Nat) (zs : List Com) (h : Heap), i + k = qn → Sub h1 h → New h1 p → Coms h p n c zs → (∀ x ∈ zs, x.ok H) → n ≤ i →
            f27_L1 (some ⟨ba, 0, none⟩) t m.tl m.par m.br p n c q qn qc (qn : Int) (i : Int) h (linePost H t) := by
          intro k
          induction k with
          | zero =>
            intro i p n c zs h hi hs hnew ho hok hni
            apply f27_L1_of
            refine ⟨fun hd => absurd (of_decide_eq_true hd) (by omega), fun _ => ?_⟩
            refine f27_L3_ht hA (hs1.trans hs) (fun a ha => ?_) ho hok (by omega) (by omega)
            cases hc : H a.block with
            | none => rfl
            | some y => have := hs1 _ _ hc; rw [hnew a ha] at this; cases this
          | succ k ihk =>
            intro i p n c zs h hi hs hnew ho hok hni
            apply f27_L1_of
            refine ⟨fun _ => ?_, fun hd => absurd (of_decide_eq_false hd) (by simp; omega)⟩
            obtain ⟨b, o, hp, hc⟩ := (ho1.sub hs).cells (i := i) (by omega)
            refine ⟨b, o, hp, by omega, by omega, _, _, _, _, _, _, _, _, hc, fun _ => ⟨fun _ => ?_, fun _ => ?_⟩⟩
            · intro b' h2 ha
              refine app_com xs[i] ha ho (by omega) hs hnew fun p' c' h3 a1 a2 a3 _ => ⟨p', n + 1, c', rfl, ?_⟩
              apply f27_L2_of
              unfold f27_L2_pre
              rw [wrapS (by omega)]
              refine ihk (i + 1) p' (n + 1) c' _ h3 (by omega) a1 a2 a3 (fun x hx => ?_) (by omega)
              rcases List.mem_append.1 hx with h5 | h5
              · exact hok x h5
              · rw [List.mem_singleton.1 h5]; exact hok1 _ (List.getElem_mem _)
            · apply f27_L2_of
              unfold f27_L2_pre
              rw [wrapS (by omega)]
              exact ihk (i + 1) p n c zs h (by omega) hs hnew ho hok (by omega)
        exact loop qn 0 none 0 0 [] h1 (by omega) (Sub.refl _) (New.none _) (OwnL.nil Com.size) (by simp) (by omega)
      · refine f27_L3_ht hA (Sub.refl _) (New.none _) (OwnL.nil Com.size) (by simp) ?_ (by omega)
        have hmt : 1 ≤ t.toNat := by omega
        have hmul : 1 * 65536 ≤ t.toNat * 65536 := Nat.mul_le_mul_right _ hmt
        omega
    · exact ⟨0, 0, 0, false, hl, fun _ => ⟨fun _ => ⟨none, 0, 0, [], rfl, Sub.refl _, New.none _, OwnL.nil Com.size, by simp, by omega⟩, (fun h => by cases h)⟩⟩

end

end Go.Proofs.Qxb6500694aGreatDoor
