/-
  CONTRACTS, PART N: the model's Restore, whole.
-/
import Derived.Test.Qxb6500694aGreatDoorCm
namespace Go.Proofs.Qxb6500694aGreatDoor
open Go Go.Eng Go.Proofs
set_option maxRecDepth 100000
set_option linter.unusedVariables false
set_option linter.unusedSimpArgs false
set_option linter.unusedSectionVars false

theorem RTmono {P : Program} {fn : FuncId} {todo : List Item} {tmps : List Value} {loc : Eng.Loc} {H : Heap} {R R' : Value → Heap → Prop} (h : RT P fn todo tmps loc H R) (hr : ∀ v H', R v H' → R' v H') : RT P fn todo tmps loc H R' := by
  intro w hw hl cs
  obtain ⟨v, w', fr, H', h1, h2, h3, h4, h5⟩ := h w hw hl cs
  exact ⟨v, w', fr, H', h1, h2, h3, hr _ _ h4, h5⟩

theorem outC_start (c : Int) : setAll #[.nilIface, .int .u32 0, .int .u32 0, .int .u64 0, .int .u64 0, .int .u64 0, .int .u64 0, .int .u64 0, .int .u64 0, .int .u64 0, .int .u64 0, .int .u64 0] 0
    [.nilIface, .int .u32 0, .int .u32 0, .int .u64 c, .int .u64 0, .int .u64 0, .int .u64 0, .int .u64 0, .int .u64 0, .int .u64 0, .int .u64 0, .int .u64 0] = outC 0 0 c (fun _ => 0) := by
  simp [setAll, outC]

section
variable {H : Heap} {ba : Nat} {esM esL esH : Array MapEntry}
variable {x41 x42 x43 x44 x45 x46 x47 x48 x49 x410 x411 : Int}
variable {t tl tt bk : Int} {tb : Bool}

section
variable {q : Option Addr} {qn qc : Nat} {line : List Hist} {p : Option Addr} {n c : Nat} {zs : List Com} {at_ : Int}



theorem f12_L8_ht (hA : Arch H ba esM esL esH) (hG : Globs H) (hr : Hists H q qn qc line) (hq : qn < 131072) (hq0 : 0 < qn) (hl : ∀ m ∈ line, iget esH.toList m.tl = some m.val) (hz : Coms H p n c zs) (hok : ∀ x ∈ zs, x.ok H) (hn : n < 2 ^ 34) (hat : inU at_) {ob : Nat} (hob : H ob = none) :
    ∀ (k i : Nat) (g : Nat → Int) (h : Heap), i + k = n → Sub H h → h ob = some (.cells (outC 0 0 at_ g) 42 (0, 0)) →
      f12_L8 (some ⟨ba, 0, none⟩) .nilIface x41 x42 x43 x44 x45 x46 x47 x48 x49 x410 x411 q qn qc at_ ob p n c (n : Int) (i : Int) h (restPost H esH) := by
  have hlen := hz.len
  intro k
  induction k with
  | zero =>
    intro i g h hi hs hout
    apply f12_L8_of
    refine ⟨fun hd => absurd (of_decide_eq_true hd) (by omega), fun _ => ?_⟩
    rw [wrapP (by omega) hq0]
    exact f12_L11_ht hA hob hat hs hout (hr.sub hs) hq hq0 hl (qn - 1) (by omega)
  | succ k ih =>
    intro i g h hi hs hout
    apply f12_L8_of
    refine ⟨fun _ => ?_, fun hd => absurd (of_decide_eq_false hd) (by simp; omega)⟩
    obtain ⟨b, o, hp, hc⟩ := (hz.sub hs).cells (i := i) (by omega)
    have next : ∀ g h, Sub H h → h ob = some (.cells (outC 0 0 at_ g) 42 (0, 0)) → f12_L10 (some ⟨ba, 0, none⟩) .nilIface x41 x42 x43 x44 x45 x46 x47 x48 x49 x410 x411 q qn qc at_ ob p n c (n : Int) (i : Int) h (restPost H esH) := by
      intro g h hs hout
      apply f12_L10_of
      unfold f12_L10_pre
      rw [wrapS (by omega)]
      exact ih (i + 1) g h (by omega) hs hout
    refine ⟨b, o, hp, by omega, by omega, _, _, _, _, _, _, _, _, hc, fun _ => ⟨fun _ => ?_, fun _ => next g h hs hout⟩⟩
    obtain ⟨_, hsn, ss, hss, hkeys⟩ := hok _ (List.getElem_mem (l := zs) (n := i) (by omega))
    have hsl := hss.len
    have inner : ∀ (k2 j : Nat) (g : Nat → Int) (h : Heap), j + k2 = zs[i].sn → Sub H h → h ob = some (.cells (outC 0 0 at_ g) 42 (0, 0)) →
        f12_L9 (some ⟨ba, 0, none⟩) .nilIface x41 x42 x43 x44 x45 x46 x47 x48 x49 x410 x411 q qn qc at_ ob p n c (n : Int) (i : Int) zs[i].sp zs[i].sn zs[i].sc (zs[i].sn : Int) (j : Int) h (restPost H esH) := by
      intro k2
      induction k2 with
      | zero =>
        intro j g h hj hs hout
        apply f12_L9_of
        exact ⟨fun hd => absurd (of_decide_eq_true hd) (by omega), fun _ => next g h hs hout⟩
      | succ k2 ih2 =>
        intro j g h hj hs hout
        apply f12_L9_of
        refine ⟨fun _ => ?_, fun hd => absurd (of_decide_eq_false hd) (by simp; omega)⟩
        obtain ⟨b2, o2, hp2, hc2⟩ := (hss.sub hs).cells j (by omega)
        have hk := hkeys _ (List.getElem_mem (l := ss) (n := j) (by omega))
        obtain ⟨g', hg'⟩ := outC_set (a := 0) (b := 0) (c := at_) (g := g) (x := ss[j].val) hk.1 hk.2
        refine ⟨b2, o2, hp2, by omega, by omega, _, _, hc2, fun _ => ⟨hk.1, hk.2, _, _, hout, ?_, fun h3 hw3 => ?_⟩⟩
        · simp [outC]; omega
        · rw [hg'] at hw3
          rw [wrapS (by omega)]
          exact ih2 (j + 1) g' h3 (by omega) (hs.wr hw3 hob) hw3.same
    exact inner zs[i].sn 0 g h (by omega) hs hout

theorem f12_L5_ht (hA : Arch H ba esM esL esH) (hG : Globs H) (hr : Hists H q qn qc line) (hq : qn < 131072) (hq0 : 0 < qn) (hl : ∀ m ∈ line, iget esH.toList m.tl = some m.val) (hz : Coms H p n c zs) (hok : ∀ x ∈ zs, x.ok H) (hn : n < 2 ^ 34) (hat : inU at_) {mp : Option Addr} {mn mc : Nat} {ms : List Man} {h0 : Heap} (hs0 : Sub H h0) (hm : ReadL h0 6 Man.cs mp mn ms) (hmn : mn ≤ 131072) :
    ∀ (k i : Nat) (fd : Bool) (h : Heap), i + k = mn → Sub h0 h →
      f12_L5 (some ⟨ba, 0, none⟩) t tb tl tt bk .nilIface x41 x42 x43 x44 x45 x46 x47 x48 x49 x410 x411 q qn qc p n c at_ fd mp mn mc (mn : Int) (i : Int) h (restPost H esH) := by
  have hlen := hm.len
  intro k
  induction k with
  | zero =>
    intro i fd h hi hs
    apply f12_L5_of
    have hsH := hs0.trans hs
    refine ⟨fun hd => absurd (of_decide_eq_true hd) (by omega), fun _ => ⟨fun _ => ?_, fun _ => ?_⟩⟩
    · obtain ⟨tt, x, hx⟩ := (hG.sub hsH) 2 (by simp)
      exact ⟨tt, x, hx, errRest hsH⟩
    · intro b16 h1 ha1
      refine ⟨_, _, ha1.same, by simp, fun h2 hw2 => ?_⟩
      rw [outC_start] at hw2
      have hob : H b16 = none := by
        cases hc : H b16 with
        | none => rfl
        | some x => have := hsH _ _ hc; rw [ha1.fresh] at this; cases this
      exact f12_L8_ht hA hG hr hq hq0 hl hz hok hn hat hob n 0 (fun _ => 0) h2 (by omega) ((hsH.al ha1).wr hw2 hob) hw2.same
  | succ k ih =>
    intro i fd h hi hs
    apply f12_L5_of
    refine ⟨fun _ => ?_, fun hd => absurd (of_decide_eq_false hd) (by simp; omega)⟩
    obtain ⟨b, o, hp, hc⟩ := (hm.sub hs).cells i (by omega)
    have next : ∀ fd h, Sub h0 h → f12_L7 (some ⟨ba, 0, none⟩) t tb tl tt bk .nilIface x41 x42 x43 x44 x45 x46 x47 x48 x49 x410 x411 q qn qc p n c at_ fd mp mn mc (mn : Int) (i : Int) h (restPost H esH) := by
      intro fd h hs
      apply f12_L7_of
      unfold f12_L7_pre
      rw [wrapS (by omega)]
      exact ih (i + 1) fd h (by omega) hs
    have main : ∀ bb, f12_L6 (some ⟨ba, 0, none⟩) t tb tl tt bk .nilIface x41 x42 x43 x44 x45 x46 x47 x48 x49 x410 x411 q qn qc p n c at_ fd ms[i].id ms[i].par ms[i].tl ms[i].start ms[i].stop ms[i].pp ms[i].pn ms[i].pc mp mn mc (mn : Int) (i : Int) bb h (restPost H esH) := by
      intro bb
      apply f12_L6_of
      refine ⟨fun _ => ⟨fun _ => next true h hs, fun _ => ?_⟩, fun _ => next fd h hs⟩
      have hsH := hs0.trans hs
      refine (f36_ht (hA.sub hsH)).mono fun v h2 ⟨p2, n2, c2, ys, hv2, hs2, hnew2, hpn2, ho2, hperm2, hn2⟩ => ⟨p2, n2, c2, hv2, ?_⟩
      have hsz := hA.sizeM
      have hsH2 := hsH.trans hs2
      refine (f43_ht (hA.sub hsH2) (hG.sub hsH2) (ReadL.of (hr.sub hsH2)) (by omega) n2 (by omega) _ _).mono fun v h3 ⟨he3, hv3⟩ => ?_
      subst he3
      exact ⟨_, hv3, next _ h3 (hs.trans hs2)⟩
    exact ⟨b, o, hp, by omega, by omega, _, _, _, _, _, _, _, _, hc, fun _ => ⟨fun _ => main _, fun _ => main _⟩⟩

theorem f12_L4_ht (hA : Arch H ba esM esL esH) (hG : Globs H) (hr : Hists H q qn qc line) (hq : qn < 131072) (hq0 : 0 < qn) (hl : ∀ m ∈ line, iget esH.toList m.tl = some m.val) (hz : Coms H p n c zs) (hok : ∀ x ∈ zs, x.ok H) (hn : n < 2 ^ 34) (hat : inU at_) {reach : Int} {h : Heap} (hs : Sub H h) :
    f12_L4 (some ⟨ba, 0, none⟩) t tb tl tt bk .nilIface x41 x42 x43 x44 x45 x46 x47 x48 x49 x410 x411 q qn qc p n c reach at_ h (restPost H esH) := by
  apply f12_L4_of
  refine ⟨fun _ => ?_, fun _ => ?_⟩
  · obtain ⟨tt, x, hx⟩ := (hG.sub hs) 1 (by simp)
    exact ⟨tt, x, hx, errRest hs⟩
  · refine (f36_ht (hA.sub hs)).mono fun v h2 ⟨p2, n2, c2, ys, hv2, hs2, hnew2, hpn2, ho2, hperm2, hn2⟩ => ⟨p2, n2, c2, hv2, ?_⟩
    have hsz := hA.sizeM
    exact f12_L5_ht hA hG hr hq hq0 hl hz hok hn hat (hs.trans hs2) (ReadL.of ho2) (by omega) n2 0 false h2 (by omega) (Sub.refl _)

theorem f12_L2_ht (hA : Arch H ba esM esL esH) (hG : Globs H) (hr : Hists H q qn qc line) (hq : qn < 131072) (hq0 : 0 < qn) (hl : ∀ m ∈ line, iget esH.toList m.tl = some m.val) (hz : Coms H p n c zs) (hok : ∀ x ∈ zs, x.ok H) (hn : n < 2 ^ 34) (hat : inU at_) {reach : Int} {gap later : Bool} {h : Heap} (hs : Sub H h) :
    f12_L2 (some ⟨ba, 0, none⟩) t tb tl tt bk .nilIface x41 x42 x43 x44 x45 x46 x47 x48 x49 x410 x411 q qn qc p n c reach gap at_ later h (restPost H esH) := by
  apply f12_L2_of
  have l3 : ∀ bb, f12_L3 (some ⟨ba, 0, none⟩) t tb tl tt bk .nilIface x41 x42 x43 x44 x45 x46 x47 x48 x49 x410 x411 q qn qc p n c reach at_ bb h (restPost H esH) := by
    intro bb
    apply f12_L3_of
    refine ⟨fun _ => ?_, fun _ => f12_L4_ht hA hG hr hq hq0 hl hz hok hn hat hs⟩
    obtain ⟨tt, x, hx⟩ := (hG.sub hs) 1 (by simp)
    exact ⟨tt, x, hx, errRest hs⟩
  exact ⟨fun _ => l3 _, fun _ => l3 _⟩

end

theorem f12_L1_ht (hA : Arch H ba esM esL esH) (hG : Globs H) {q : Option Addr} {qn qc : Nat} {line : List Hist} (hr : Hists H q qn qc line) (hq : qn < 131072) (hq0 : 0 < qn) (hl : ∀ m ∈ line, iget esH.toList m.tl = some m.val)
    {p : Option Addr} {n c : Nat} {zs : List Com} (hz : Coms H p n c zs) (hok : ∀ x ∈ zs, x.ok H) (hn : n < 2 ^ 34) {reach : Int} {gap later : Bool} :
    ∀ (k i : Nat) (at_ : Int), i + k = n → inU at_ →
      f12_L1 (some ⟨ba, 0, none⟩) t tb tl tt bk .nilIface x41 x42 x43 x44 x45 x46 x47 x48 x49 x410 x411 q qn qc p n c reach gap at_ later p n c (n : Int) (i : Int) H (restPost H esH) := by
  have hlen := hz.len
  intro k
  induction k with
  | zero =>
    intro i at_ hi hat
    apply f12_L1_of
    exact ⟨fun hd => absurd (of_decide_eq_true hd) (by omega), fun _ => f12_L2_ht hA hG hr hq hq0 hl hz hok hn hat (Sub.refl _)⟩
  | succ k ih =>
    intro i at_ hi hat
    apply f12_L1_of
    refine ⟨fun _ => ?_, fun hd => absurd (of_decide_eq_false hd) (by simp; omega)⟩
    obtain ⟨b, o, hp, hc⟩ := hz.cells (i := i) (by omega)
    refine ⟨b, o, hp, by omega, by omega, _, _, _, _, _, _, _, _, hc, fun _ => ⟨fun _ => f12_L2_ht hA hG hr hq hq0 hl hz hok hn hat (Sub.refl _), fun _ => ?_⟩⟩
    rw [wrapS (by omega)]
    exact ih (i + 1) _ (by omega) (hok _ (List.getElem_mem _)).1

theorem restPost.up {H G : Heap} (hs : Sub H G) {v : Value} {H' : Heap} (h : restPost G esH v H') : restPost H esH v H' := by
  obtain ⟨e, a, b, c, g, h1, h2, h3, h4⟩ := h
  exact ⟨e, a, b, c, g, h1, h2, hs.trans h3, h4⟩

theorem f12_ht (hA : Arch H ba esM esL esH) (hG : Globs H) (hl : inU tl) :
    HT Tryz.prog 12 [.pointer (some ⟨ba, 0, none⟩), .agg #[.int .u32 t, .bool tb, .int .u64 tl, .int .i64 tt, .int .u64 bk]] H (restPost H esH) := by
  apply f12_of
  intro _ _
  refine (f41_ht hA hG (t.toNat + 1) t (by omega)).mono fun v h1 ⟨q, qn, qc, hv, hs1, hcase⟩ => ⟨q, qn, qc, hv, _, nilSlice Tryz.underlying106, ?_⟩
  rcases hcase with ⟨hnone, rfl, rfl⟩ | ⟨line, hanc, hnew, hqn, hr⟩
  · refine ⟨fun _ => ?_, (fun h => by cases h)⟩
    obtain ⟨tt, x, hx⟩ := (hG.sub hs1) 0 (by simp)
    exact ⟨tt, x, hx, errRest hs1⟩
  · have hok := ancF_ok hA _ t line hanc
    have hlen := hr.len
    have hle := hok.len
    have hpos := hok.pos
    have htl : t < 131072 := by
      obtain ⟨x, hx⟩ : ∃ x, line.getLast? = some x := by
        rw [List.getLast?_eq_getElem?]
        exact ⟨_, List.getElem?_eq_getElem (by omega)⟩
      have h1 := hok.last x hx
      have h2 := (hok.all x (List.mem_of_getLast? hx)).2.1.2.2.2.2.1
      omega
    refine ⟨fun hd => absurd (Option.isNone_iff_eq_none.1 hd) hqn, fun _ => ?_⟩
    refine (f42_ht (hA.sub hs1) (hG.sub hs1) (qc := qc) (ReadL.of hr) (by omega) (fun h hh => (hok.all h hh).2.1.2.1)).mono fun v h2 ⟨p, n, c, reach, g, zs, hv2, hre, hs2, hz, hzok, hn⟩ => ⟨p, n, c, reach, g, hv2, ?_⟩
    have hsH := hs1.trans hs2
    have hb : qn * 65536 ≤ 131072 * 65536 := Nat.mul_le_mul_right _ (by omega)
    have hzok' : ∀ x ∈ zs, x.ok h2 := fun x hx => (hzok x hx).sub hs2
    have hll : ∀ m ∈ line, iget esH.toList m.tl = some m.val := fun m hm => (hok.all m hm).1
    have up : ∀ v H', restPost h2 esH v H' → restPost H esH v H' := fun v H' h => h.up hsH
    refine ⟨fun _ => ?_, fun _ => ?_⟩
    · intro d B
      exact RTmono (f12_L1_ht (hA.sub hsH) (hG.sub hsH) (hr.sub hs2) (by omega) (by omega) hll hz hzok' (by omega) n 0 0 (by omega) (by simp [inU]) d B) up
    · intro d B
      exact RTmono (f12_L4_ht (hA.sub hsH) (hG.sub hsH) (hr.sub hs2) (by omega) (by omega) hll hz hzok' (by omega) hl (Sub.refl _) d B) up

end

end Go.Proofs.Qxb6500694aGreatDoor
