/-
  CONTRACTS, PART M: the model's Restore.
-/
import Derived.Test.Qxb6500694aGreatDoorCl
import Derived.Test.Qxb6500694aGreatDoorVc
namespace Go.Proofs.Qxb6500694aGreatDoor
open Go Go.Eng Go.Proofs
set_option maxRecDepth 100000
set_option linter.unusedVariables false
set_option linter.unusedSimpArgs false
set_option linter.unusedSectionVars false

/-- An outcome without an error: the new timeline, its parent, its branch, eight values. -/
def outC (a b c : Int) (g : Nat → Int) : Array Value :=
  #[.nilIface, .int .u32 a, .int .u32 b, .int .u64 c, .int .u64 (g 0), .int .u64 (g 1), .int .u64 (g 2), .int .u64 (g 3), .int .u64 (g 4), .int .u64 (g 5), .int .u64 (g 6), .int .u64 (g 7)]

theorem outC_set {a b c : Int} {g : Nat → Int} {k x : Int} (h0 : 0 ≤ k) (h1 : k < 8) : ∃ g', setAll (outC a b c g) (4 + k.toNat * 1) [.int .u64 x] = outC a b c g' := by
  obtain rfl | rfl | rfl | rfl | rfl | rfl | rfl | rfl : k = 0 ∨ k = 1 ∨ k = 2 ∨ k = 3 ∨ k = 4 ∨ k = 5 ∨ k = 6 ∨ k = 7 := by omega
  · exact ⟨fun j => if j = 0 then x else g j, rfl⟩
  · exact ⟨fun j => if j = 1 then x else g j, rfl⟩
  · exact ⟨fun j => if j = 2 then x else g j, rfl⟩
  · exact ⟨fun j => if j = 3 then x else g j, rfl⟩
  · exact ⟨fun j => if j = 4 then x else g j, rfl⟩
  · exact ⟨fun j => if j = 5 then x else g j, rfl⟩
  · exact ⟨fun j => if j = 6 then x else g j, rfl⟩
  · exact ⟨fun j => if j = 7 then x else g j, rfl⟩

/-- What Restore hands back. -/
def restPost (H : Heap) (esH : Array MapEntry) (v : Value) (H' : Heap) : Prop :=
  ∃ (e : Value) (a b c : Int) (g : Nat → Int), v = .agg #[e, .int .u32 a, .int .u32 b, .int .u64 c, .int .u64 (g 0), .int .u64 (g 1), .int .u64 (g 2), .int .u64 (g 3), .int .u64 (g 4), .int .u64 (g 5), .int .u64 (g 6), .int .u64 (g 7)] ∧ IsI e ∧ Sub H H' ∧
    (e = .nilIface → inU c ∧ (∃ m : Hist, iget esH.toList b = some m.val) ∧ (∀ x ∈ esH.toList, keyN x.key < a) ∧ ∃ x ∈ esH.toList, a = keyN x.key + 1)

section
variable {H : Heap} {ba : Nat} {esM esL esH : Array MapEntry}

theorem errRest {h : Heap} (hs : Sub H h) {t : TypeId} {x : Value} : restPost H esH (.agg #[.iface t x, .int .u32 0, .int .u32 0, .int .u64 0, .int .u64 0, .int .u64 0, .int .u64 0, .int .u64 0, .int .u64 0, .int .u64 0, .int .u64 0, .int .u64 0]) h :=
  ⟨_, 0, 0, 0, fun _ => 0, rfl, IsI.some _ _, hs, fun h => by cases h⟩

variable {x41 x42 x43 x44 x45 x46 x47 x48 x49 x410 x411 : Int}

theorem wrapT32 {x : Int} (h1 : 0 ≤ x) (h2 : x < 4294967296) : IntKind.wrap .u32 x = x := by
  simp only [IntKind.wrap, IntKind.bits, IntKind.signed]
  simp
  omega

theorem f12_L13_ht (hA : Arch H ba esM esL esH) {b c : Int} {g : Nat → Int} {ob : Nat} (hob : H ob = none) (hc : inU c) (hb : ∃ m : Hist, iget esH.toList b = some m.val) {h : Heap} (hs : Sub H h) (hout : h ob = some (.cells (outC 0 b c g) 42 (0, 0))) :
    f12_L13 (some ⟨ba, 0, none⟩) .nilIface x41 x42 x43 x44 x45 x46 x47 x48 x49 x410 x411 ob h (restPost H esH) := by
  apply f12_L13_of
  refine (f44_ht (hA.sub hs)).mono fun v h1 ⟨p, n, cc, ys, hv, hs1, hnew, hpn, ho, hperm, hn⟩ => ⟨p, n, cc, hv, ?_⟩
  have hlen := ho.len
  have hmem : ∀ y, y ∈ ys ↔ ∃ e ∈ esH.toList, keyN e.key = y := by
    intro y
    rw [hperm.mem_iff, List.mem_map]
  have hrange : ∀ y ∈ ys, 0 < y ∧ y < 131072 := by
    intro y hy
    obtain ⟨e, he, hk⟩ := (hmem y).1 hy
    obtain ⟨m, hm, g1, g2, g3, g4, g5, g6⟩ := hA.his e he
    omega
  have hn0 : 0 < n := by
    obtain ⟨m, hm⟩ := hb
    obtain ⟨e, he, _⟩ := iget_mem hm
    have : 0 < esH.toList.length := List.length_pos_of_mem he
    simp at this
    omega
  have hsz := hA.sizeH
  have loop : ∀ (k i : Nat) (a : Int) (h2 : Heap), i + k = n → Sub H h2 → Tls h2 p n cc ys → h2 ob = some (.cells (outC a b c g) 42 (0, 0)) → (∀ j (hj : j < ys.length), j < i → ys[j] < a) → (0 < i → ∃ y ∈ ys, a = y + 1) → (i = 0 → a = 0) →
      f12_L14 .nilIface x41 x42 x43 x44 x45 x46 x47 x48 x49 x410 x411 ob p n cc (n : Int) (i : Int) h2 (restPost H esH) := by
    intro k
    induction k with
    | zero =>
      intro i a h2 hi hs2 ho2 hout2 hall hex h0
      apply f12_L14_of
      refine ⟨fun hd => absurd (of_decide_eq_true hd) (by omega), fun _ => ⟨_, _, _, _, _, _, _, _, _, _, _, _, Cells.of hout2 rfl, rfl, _, a, b, c, g, rfl, IsI.nil, hs2, fun _ => ⟨hc, hb, fun x hx => ?_, ?_⟩⟩⟩
      · obtain ⟨j, hj, he⟩ := List.mem_iff_getElem.1 ((hmem (keyN x.key)).2 ⟨x, hx, rfl⟩)
        rw [← he]
        exact hall j hj (by omega)
      · obtain ⟨y, hy, he⟩ := hex (by omega)
        obtain ⟨e, he', hk⟩ := (hmem y).1 hy
        exact ⟨e, he', by rw [hk]; exact he⟩
    | succ k ih =>
      intro i a h2 hi hs2 ho2 hout2 hall hex h0
      apply f12_L14_of
      refine ⟨fun _ => ?_, fun hd => absurd (of_decide_eq_false hd) (by simp; omega)⟩
      obtain ⟨bb, oo, hp, hcell⟩ := ho2.cells (i := i) (by omega)
      have hr := hrange _ (List.getElem_mem (l := ys) (n := i) (by omega))
      refine ⟨bb, oo, hp, by omega, by omega, ys[i], hcell, a, Cells.of hout2 rfl, _, _, hout2, by simp [outC], fun h3 hw3 => ?_⟩
      rw [wrapT32 (by omega) (by omega)] at hw3
      rw [wrapS (by omega)]
      have hne : ∀ a', p = some a' → a'.block ≠ ob := own_ne ho2 hout2 (by intro arr h; cases h)
      refine ih (i + 1) (if ys[i] + 1 > a then ys[i] + 1 else a) h3 (by omega) (hs2.wr hw3 hob) (ho2.keep fun a' ha' => hw3.other (hne a' ha')) hw3.same ?_ ?_ (by omega)
      · intro j hj hji
        by_cases hji' : j < i
        · have := hall j hj hji'
          split <;> omega
        · obtain rfl : j = i := by omega
          split <;> omega
      · intro _
        by_cases hgt : ys[i] + 1 > a
        · rw [if_pos hgt]; exact ⟨_, List.getElem_mem _, rfl⟩
        · rw [if_neg hgt]
          rcases Nat.eq_zero_or_pos i with hz | hz
          · have := h0 hz; omega
          · exact hex hz
  exact loop n 0 0 h1 (by omega) (hs.trans hs1) ho (hs1 _ _ hout) (fun j hj h => by omega) (by omega) (by omega)

theorem f12_L11_ht (hA : Arch H ba esM esL esH) {at_ c : Int} {g : Nat → Int} {ob : Nat} (hob : H ob = none) (hc : inU c) {h : Heap} (hs : Sub H h) (hout : h ob = some (.cells (outC 0 0 c g) 42 (0, 0)))
    {q : Option Addr} {qn qc : Nat} {line : List Hist} (hr : Hists h q qn qc line) (hq : qn < 131072) (hq0 : 0 < qn) (hl : ∀ m ∈ line, iget esH.toList m.tl = some m.val) :
    ∀ (i : Nat), i < qn → f12_L11 (some ⟨ba, 0, none⟩) .nilIface x41 x42 x43 x44 x45 x46 x47 x48 x49 x410 x411 q qn qc at_ ob (i : Int) h (restPost H esH) := by
  have hlen := hr.len
  intro i
  induction i with
  | zero =>
    intro hi
    apply f12_L11_of
    refine ⟨fun _ => ⟨fun _ => ?_, fun h => by cases h⟩, fun hd => by cases hd⟩
    apply f12_L12_of
    obtain ⟨b, o, hp, hcell⟩ := hr.cells (i := 0) (by omega)
    refine ⟨fun _ => ⟨b, o, hp, by omega, by omega, _, hcell.part 0 rfl (by simp [Hist.cs]), _, _, hout, by simp [outC], fun h2 hw2 => ?_⟩, fun h => by cases h⟩
    exact f12_L13_ht hA (g := g) hob hc ⟨_, hl _ (List.getElem_mem (l := line) (n := 0) (by omega))⟩ (hs.wr hw2 hob) hw2.same
  | succ i ih =>
    intro hi
    apply f12_L11_of
    obtain ⟨b, o, hp, hcell⟩ := hr.cells (i := i + 1) (by omega)
    refine ⟨fun _ => ⟨fun h => ?_, fun _ => ⟨b, o, hp, by omega, by omega, _, hcell.part 2 rfl (by simp [Hist.cs]), ?_⟩⟩, fun hd => absurd (of_decide_eq_false hd) (by simp; omega)⟩
    · simp at h; omega
    · apply f12_L12_of
      refine ⟨fun _ => ⟨b, o, hp, by omega, by omega, _, hcell.part 0 rfl (by simp [Hist.cs]), _, _, hout, by simp [outC], fun h2 hw2 => ?_⟩, fun _ => ?_⟩
      · exact f12_L13_ht hA (g := g) hob hc ⟨_, hl _ (List.getElem_mem (l := line) (n := i + 1) (by omega))⟩ (hs.wr hw2 hob) hw2.same
      · rw [wrapP (by omega) (by omega)]
        exact ih (by omega)

end

end Go.Proofs.Qxb6500694aGreatDoor
