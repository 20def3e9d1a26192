/-
  THE PLANE, PART O: dirty.
-/
import Derived.Test.Qxb6500695aGreatFmtXn
namespace Go.Proofs.Qxb6500695aGreatFmt
open Go Go.Eng Go.Proofs
set_option maxRecDepth 100000
set_option linter.unusedVariables false
set_option linter.unusedSimpArgs false
set_option linter.unusedSectionVars false

section
variable {H : Heap} {g : Gh} {e : Int} {pb ss ns bd : Nat} {P : Pl}

/-- The dirty sectors, each once. -/
def Dirty0 (P : Pl) (ns : Nat) (ks : List Int) : Prop := ks.Nodup ∧ ks.length ≤ ns ∧ (∀ k ∈ ks, 0 ≤ k ∧ k < (ns : Int)) ∧ ∀ k, k ∈ ks ↔ P.cache k ≠ []

/-- The same, sorted. -/
def Dirty (P : Pl) (ns : Nat) (ks : List Int) : Prop := (ks.Nodup ∧ SrtTo ks.length ks) ∧ ks.length ≤ ns ∧ (∀ k ∈ ks, 0 ≤ k ∧ k < (ns : Int)) ∧ ∀ k, k ∈ ks ↔ P.cache k ≠ []

def dirtyPost (H : Heap) (P : Pl) (ns : Nat) (v : Value) (H' : Heap) : Prop :=
  Sub H H' ∧ ∃ p n c ks, v = .slice p n c ∧ New H p ∧ OwnL H' 2 1 I64.cs p n c ks ∧ Dirty P ns ks

theorem bounded_len {l : List Int} {n : Nat} (hn : l.Nodup) (hb : ∀ k ∈ l, 0 ≤ k ∧ k < (n : Int)) : l.length ≤ n := by
  have h1 : (l.map Int.toNat).Nodup := by
    unfold List.Nodup
    rw [List.pairwise_map]
    refine List.pairwise_iff_getElem.2 fun i j hi hj hij he => ?_
    have h3 := List.pairwise_iff_getElem.1 hn i j hi hj hij
    have := hb _ (List.getElem_mem hi)
    have := hb _ (List.getElem_mem hj)
    exact h3 (by omega)
  have h2 : l.map Int.toNat ⊆ List.range n := by
    intro x hx
    obtain ⟨k, hk, rfl⟩ := List.mem_map.1 hx
    have := hb k hk
    exact List.mem_range.2 (by omega)
  have := h1.length_le_of_subset h2
  simpa using this

theorem own_ne {α : Type} {T sz : Nat} {enc : α → List Value} {xs : List α} {p : Option Addr} {n c : Nat} (ho : OwnL H T sz enc p n c xs) {b : Nat} {o : Obj} (hb : H b = some o) (hne : ∀ arr, o ≠ .cells arr T (0, 0)) : ∀ a, p = some a → a.block ≠ b := by
  intro a ha hab
  rcases ho.own with ⟨hp, _⟩ | ⟨b', o', arr, hp, hbb, _⟩
  · rw [hp] at ha; cases ha
  · rw [hp] at ha
    simp at ha
    subst ha
    simp only at hab
    rw [hab, hb] at hbb
    simp at hbb
    exact hne arr hbb

theorem f186_L1_ht (h : PlOk H g e pb ss ns bd P) {r ck : Nat} {es : Array MapEntry} (hr : H r = some (.map es ck)) (hok : MapOk .i64 es ck) (hD : Dirty0 P ns (es.toList.map fun en => keyN en.key)) (hvals : ∀ en ∈ es.toList, ∃ q n c, en.val = .slice q n c) {bi : Nat} (hbi : H bi = none) :
    ∀ (k : Nat) (vs : List MapEntry) (seen : Array Nat) (ys : List Int) (p : Option Addr) (n c : Nat) (h1 : Heap), vs.length + k = es.size + 1 → Met es seen vs → Sub H h1 → New H p → p ≠ none → OwnL h1 2 1 I64.cs p n c ys → ys = vs.map (fun en => keyN en.key) → h1 bi = some (.mapIter (some r) ck seen ck) →
      f186_L1 p n c (some ⟨bi, 0, none⟩) h1 (dirtyPost H P ns) := by
  have hnb := h.nsb
  have hesz : es.size ≤ ns := by have := hD.2.1; simpa using this
  intro k
  induction k with
  | zero =>
    intro vs seen ys p n c h1 hk hmet
    have := hmet.len
    omega
  | succ k ih =>
    intro vs seen ys p n c h1 hk hmet hs hnew hpn ho hys hhi
    have hmlen := hmet.len
    have hlen := ho.len
    have hyl : ys.length = vs.length := by rw [hys]; simp
    apply f186_L1_of
    refine semOk_next hhi (hs _ _ hr) hok (fun hall => .inl ⟨rfl, ?_⟩) (fun en hen hns h2 hw2 => .inr ⟨en.key, en.val, rfl, ?_⟩)
    · apply f186_L2_of
      refine ⟨(fun h => by cases h), fun _ => ?_⟩
      obtain ⟨a, ha⟩ : ∃ a, p = some a := by cases p with | none => exact absurd rfl hpn | some a => exact ⟨a, rfl⟩
      have hpb : ∃ o, p = some ⟨a.block, o, none⟩ := by
        rcases ho.own with ⟨h9, _⟩ | ⟨b', o', arr, h9, _⟩
        · exact absurd h9 hpn
        · rw [ha] at h9; cases h9; exact ⟨o', ha⟩
      refine (f204_ht hpb (by omega) ho).mono fun v h3 ⟨hv, zs, ⟨hperm, hsrt⟩, ho3, hkeep⟩ => ⟨hv, ?_, p, n, c, zs, rfl, hnew, ho3, ?_⟩
      · intro x ob hx
        rw [hkeep x]
        · exact hs _ _ hx
        · intro hxa
          rw [hxa, hnew a ha] at hx; cases hx
      · have hp2 : zs.Perm (es.toList.map fun en => keyN en.key) := by
          refine hperm.trans ?_
          rw [hys]
          exact (hmet.perm hok.2.2.2 hall).map _
        refine ⟨⟨(hp2.nodup_iff).2 hD.1, fun i j hi hj hij hm => hsrt i j hi hj hij (by have := ho3.len; omega)⟩, by rw [hp2.length_eq]; exact hD.2.1, fun x hx => hD.2.2.1 x ((hp2.mem_iff).1 hx), fun x => ?_⟩
        rw [hp2.mem_iff]
        exact hD.2.2.2 x
    · have hs2 : Sub H h2 := hs.wr hw2 hbi
      have ho2 : OwnL h2 2 1 I64.cs p n c ys := ho.keep fun a ha => hw2.other (own_ne ho hhi (by intro arr h; cases h) a ha)
      apply f186_L2_of
      refine ⟨fun _ => ?_, (fun h => by cases h)⟩
      refine semOk_entry hw2.same (hs2 _ _ hr) hok hen ?_
      obtain ⟨kn, hkn⟩ := hok.1 en hen
      obtain ⟨q, qn, qc, hval⟩ := hvals en hen
      refine ⟨kn, q, qn, qc, by rw [hkn, hval], fun b28 h3 ha => ?_⟩
      refine app1 (enc := I64.cs) (x := kn) (H0 := H) (inf := Tryz.t2) (zero := .int .i64 0) Tryz.underlying60 (by kernel_rfl) (by kernel_rfl) rfl (by decide) rfl ha rfl (by simp [I64.cs, Value.oneCell']) ho2 (by omega) hs2 hnew fun p' c' h4 a1 a2 a3 a4 => ⟨p', n + 1, c', rfl, ?_⟩
      refine ih (vs ++ [en]) (seen.push en.born) (ys ++ [kn]) p' (n + 1) c' h4 (by simp; omega) (hmet.push hen hns) a1 a2 ?_ a3 ?_ ?_
      · obtain ⟨b, o', hb⟩ := a3.isSome (by simp)
        rw [hb]; simp
      · rw [hys]; simp [hkn, keyN]
      · exact a4 bi _ hw2.same (own_ne ho2 hw2.same (by intro arr h; cases h))

theorem f186_ht (h : PlOk H g e pb ss ns bd P) : HT Tryz.prog 186 [.pointer (some ⟨pb, 0, none⟩)] H (dirtyPost H P ns) := by
  have hnb := h.nsb
  obtain ⟨mp, mn, mc, r, ml, es, ck, h1, h2, h3, h4, h5, h6, h7, h8, h9⟩ := h.ex
  have hkeys : ∀ k, k ∈ (es.toList.map fun en => keyN en.key) ↔ P.cache k ≠ [] := by
    intro k
    constructor
    · intro hk
      obtain ⟨en, hen, rfl⟩ := List.mem_map.1 hk
      have := (h8 en hen).2.2.2.1
      intro h0
      rw [h0] at this
      simp at this
    · intro hne
      cases hg : iget es.toList k with
      | none => exact absurd (h9 k hg) hne
      | some v =>
        obtain ⟨en, hen, hk, _⟩ := iget_mem hg
        exact List.mem_map.2 ⟨en, hen, hk⟩
  have hb : ∀ k ∈ (es.toList.map fun en => keyN en.key), 0 ≤ k ∧ k < (ns : Int) := by
    intro k hk
    obtain ⟨en, hen, rfl⟩ := List.mem_map.1 hk
    exact ⟨(h8 en hen).1, (h8 en hen).2.1⟩
  have hD : Dirty0 P ns (es.toList.map fun en => keyN en.key) := ⟨h7.2.1, bounded_len h7.2.1 hb, hb, hkeys⟩
  have hesz : es.size ≤ ns := by have := hD.2.1; simpa using this
  apply f186_of
  refine ⟨pb, 0, rfl, _, Cells.of h1 rfl, ?_⟩
  refine semOk_lenM Tryz.underlying61 h6 ⟨_, rfl, fun h0 => ?_, fun h0 => ?_⟩
  · have h0 : es.size = 0 := by have := beq_iff_eq.1 h0; omega
    have hnil : es.toList = [] := List.eq_nil_of_length_eq_zero (by simpa using h0)
    rw [hnil] at hD
    exact ⟨Sub.refl _, none, 0, 0, [], rfl, New.none _, OwnL.nil I64.size, ⟨hD.1, fun i j hi => by simp at hi⟩, hD.2⟩
  · refine ⟨pb, 0, rfl, _, Cells.of h1 rfl, ?_⟩
    refine semOk_lenM Tryz.underlying61 h6 ⟨_, rfl, ?_⟩
    have hmk := semOk_make (P := Tryz.prog) (t := 60) (T := 2) (inf := Tryz.t2) (z := .int .i64 0) (l := 0) (c := es.size) (h := H) (K := fun v hp3 => ∃ (x16 : Option Addr) (x16n x16c : Nat), v = .slice x16 x16n x16c ∧ (∃ (b18 o18 : Nat), (some ⟨pb, 0, none⟩ : Option Addr) = some ⟨b18, o18, none⟩ ∧ (∃ (x20 : Option Nat), Cells hp3 b18 (o18 + 2) [.map x20] ∧ (SemOk Tryz.prog (Instr.range 61 (.map x20)) hp3 (fun v hp4 => ∃ (x21 : Option Addr), v = .pointer x21 ∧ (f186_L1 x16 x16n x16c x21 hp4 (dirtyPost H P ns)))))))
      Tryz.underlying60 (by kernel_rfl) (by kernel_rfl) rfl (by kernel_rfl) (Nat.zero_le _) (by omega) (by decide) fun b H1 ha => ⟨_, _, _, rfl, pb, 0, rfl, _, Cells.of (ha.keep h1) rfl, ?_⟩
    · exact hmk
    · refine semOk_range Tryz.underlying61 (ha.keep h6) fun bi H2 ha2 => ⟨_, rfl, ?_⟩
      have hs2 : Sub H H2 := ha.sub.al ha2
      have hbi : H bi = none := by
        cases hc : H bi with
        | none => rfl
        | some o => have := ha.keep hc; rw [ha2.fresh] at this; cases this
      have ho : OwnL H1 2 1 I64.cs (some ⟨b, 0, none⟩) 0 es.size [] := ⟨rfl, I64.size, .inr ⟨b, 0, _, rfl, ha.same, Nat.zero_le _, by simp, by simp⟩⟩
      exact f186_L1_ht h h6 h7 hD (fun en hen => let ⟨_, _, _, _, _, q, n, c, _, hv, _⟩ := h8 en hen; ⟨q, n, c, hv⟩) hbi (es.size + 1) [] #[] [] _ 0 es.size H2 (by simp) (Met.start es) hs2 (fun a ha' => by cases ha'; exact ha.fresh) (by simp) (ho.sub ha2.sub) rfl ha2.same

end

end Go.Proofs.Qxb6500695aGreatFmt
