/-
  THE PLANE, PART Q: settle, asked by function 188.
-/
import Derived.Test.Qxb6500695aGreatFmtXp
namespace Go.Proofs.Qxb6500695aGreatFmt
open Go Go.Eng Go.Proofs
set_option maxRecDepth 100000
set_option linter.unusedVariables false
set_option linter.unusedSimpArgs false
set_option linter.unusedSectionVars false

section
variable {H : Heap} {g : Gh} {e : Int} {pb ss ns bd : Nat} {P : Pl}

theorem f142b_L1_ht {cap cap2 : Nat} {Inv : List (Int × Nat × Nat) → Heap → Gh → Prop}
    (hinv : ∀ tr H g H' g', Inv tr H g → Ev (SpP e) H g H' g' → Inv tr H' g')
    (hask : ∀ tr, tr.length < 2 ^ 20 → ∀ H g, Inv tr H g → ∀ i n : Nat, 0 < n → n < 2 ^ 32 → HT Tryz.prog 188 [.int .i64 (i : Int), .int .i64 (n : Int), .pointer (some ⟨cap, 0, none⟩), .pointer (some ⟨cap2, 0, none⟩)] H fun v H' => ∃ (k : Nat) (g' : Gh), v = .int .i64 (k : Int) ∧ k ≤ n ∧ Ev Spk H g H' g' ∧ Inv (tr ++ [((i : Int), n, k)]) H' g')
    {H0 : Heap} {g0 : Gh} {P0 : Pl} {p : Option Addr} {n c : Nat} {ks : List Int} (hbd : bd < 2 ^ 32) (hD : Dirty P0 ns ks) (tr0 : List (Int × Nat × Nat)) (htr : tr0.length < 2 ^ 10) :
    ∀ (k j : Nat) (H : Heap) (g : Gh) (P : Pl) (ch : Int → Nat), j + k = n → Ev (SpS e) H0 g0 H g → PlOk H g e pb ss ns bd P → P.cache = P0.cache → OwnT H g (0, 0) 2 1 I64.cs p n c ks →
      Inv (tr0 ++ (ks.take j).map fun i => (i, (P0.cache i).length, ch i)) H g → (∀ i, ch i ≤ (P0.cache i).length) → (∀ i ∈ ks.drop j, ch i = 0) → (∀ i, i ∉ ks → ch i = 0) → (∀ i : Nat, P.dur i = settled P0 ch i) →
      f142b_L1 (some ⟨pb, 0, none⟩) cap cap2 p n c (n : Int) (j : Int) H (setPost H0 g0 e pb ss ns bd P0 Inv tr0) := by
  intro k
  induction k with
  | zero =>
    intro j H g P ch hj hE h hPc ho hI hch hz hz2 hdur
    have hlen := ho.own.len
    apply f142b_L1_of
    refine ⟨fun hd => absurd (of_decide_eq_true hd) (by omega), fun _ => ?_⟩
    obtain ⟨mp, mn, mc, r, ml, es, ck, k1, k2, k3, k4, k5, k6, k7, k8, k9⟩ := h.ex
    refine ⟨pb, 0, rfl, _, Cells.of k1 rfl, ?_⟩
    refine semOk_clearM Tryz.underlying61 k6 fun H' hw => ⟨rfl, ?_⟩
    obtain ⟨e2, h2⟩ := h.cleared hE.ok k1 hw
    have e2' : Ev (SpP e) H g H' g := e2.mono fun tg htg => by rw [htg]; exact ⟨rfl, .inr (.inr (.inl rfl))⟩
    rw [List.take_of_length_le (by omega)] at hI
    exact ⟨g, _, ch, ks, rfl, hE.trans (e2'.mono fun _ h => .inl h), h2, fun _ => rfl, hD, hch, hz2, hdur, hinv _ _ _ _ _ hI e2'⟩
  | succ k ih =>
    intro j H g P ch hj hE h hPc ho hI hch hz hz2 hdur
    have hlen := ho.own.len
    have hnb := h.nsb
    have hDl := hD.2.1
    apply f142b_L1_of
    refine ⟨fun _ => ?_, fun hd => absurd (of_decide_eq_false hd) (by simp; omega)⟩
    obtain ⟨b, o, hp, hc⟩ := ho.own.cells (i := j) (by omega)
    have hmem : ks[j] ∈ ks := List.getElem_mem _
    obtain ⟨hk0, hk1⟩ := hD.2.2.1 _ hmem
    have hne := (hD.2.2.2 _).1 hmem
    have htk : ks.take (j + 1) = ks.take j ++ [ks[j]] := by
      rw [List.take_add_one, List.getElem?_eq_getElem (by omega)]; rfl
    have hdr : ks.drop j = ks[j] :: ks.drop (j + 1) := List.drop_eq_getElem_cons (by omega)
    have hnotin : ks[j] ∉ ks.take j := by
      have := hD.1.1
      rw [← List.take_append_drop j ks, List.nodup_append] at this
      intro hin
      exact this.2.2 _ hin _ (by rw [hdr]; exact List.mem_cons_self) rfl
    have hnotin2 : ks[j] ∉ ks.drop (j + 1) := by
      have := hD.1.1
      rw [← List.take_append_drop j ks, List.nodup_append, hdr, List.nodup_cons] at this
      exact this.2.1.1
    have hchj : ch ks[j] = 0 := hz _ (by rw [hdr]; exact List.mem_cons_self)
    generalize hkj : ks[j] = kj at *
    obtain ⟨kk, rfl⟩ : ∃ kk : Nat, kj = (kk : Int) := ⟨kj.toNat, by omega⟩
    obtain ⟨mp, mn, mc, r, ml, es, ck, k1, k2, k3, k4, k5, k6, k7, k8, k9⟩ := h.ex
    obtain ⟨q, qn, qc, l, l1, l2, l3, l4, l5⟩ := look_cache k6 k7 k8 k9 (kk : Int)
    have hql := l2.own.len
    have hq3 := l3.len
    rw [hPc] at l3 l4 l5 hq3
    have hqpos : 0 < (P0.cache (kk : Int)).length := by
      cases hcc : P0.cache (kk : Int) with
      | nil => exact absurd hcc hne
      | cons a t => simp
    refine ⟨b, o, hp, by omega, by omega, (kk : Int), by simpa [I64.cs] using hc, pb, 0, rfl, _, Cells.of k1 rfl, r, es, ck, rfl, k6, q, qn, qc, l1, ?_⟩
    refine (hask _ (by rw [List.length_append, List.length_map, List.length_take]; omega) H g hI kk qn (by omega) (by omega)).mono fun v H1 ⟨ans, g1, hv, hans, e1, hI1⟩ => ⟨_, hv, ?_⟩
    have h1 := h.ev e1 Spk.n0 fun tg htg => Spk.nP htg
    have e1' : Ev (SpS e) H g H1 g1 := e1.mono fun _ h => .inr h
    have ho1 := ho.ev e1 Spk.n0
    -- the choice, noted
    have next : ∀ (H2 : Heap) (g2 : Gh) (P2 : Pl), Ev (SpS e) H0 g0 H2 g2 → PlOk H2 g2 e pb ss ns bd P2 → P2.cache = P0.cache → OwnT H2 g2 (0, 0) 2 1 I64.cs p n c ks → Inv ((tr0 ++ (ks.take j).map fun i => (i, (P0.cache i).length, ch i)) ++ [((kk : Int), qn, ans)]) H2 g2 →
        (∀ i : Nat, P2.dur i = settled P0 (chSet ch kk ans) i) → f142b_L2 (some ⟨pb, 0, none⟩) cap cap2 p n c (n : Int) (j : Int) H2 (setPost H0 g0 e pb ss ns bd P0 Inv tr0) := by
      intro H2 g2 P2 hE2 h2 hc2 ho2 hI2 hd2
      apply f142b_L2_of
      unfold f142b_L2_pre
      rw [wrapS (by omega)]
      refine ih (j + 1) H2 g2 P2 (chSet ch kk ans) (by omega) hE2 h2 hc2 ho2 ?_ (fun i => ?_) (fun i hi => ?_) (fun i hi => ?_) hd2
      · rw [htk, List.map_append, List.map_cons, List.map_nil, ← List.append_assoc]
        have hmap : (ks.take j).map (fun i => (i, (P0.cache i).length, chSet ch kk ans i)) = (ks.take j).map fun i => (i, (P0.cache i).length, ch i) := by
          apply List.map_congr_left
          intro x hx
          unfold chSet
          rw [if_neg]
          intro hxk
          rw [hxk] at hx
          exact hnotin hx
        have hself : chSet ch kk ans (kk : Int) = ans := by unfold chSet; rw [if_pos rfl]
        rw [hmap, hself]
        have hqn : (P0.cache (kk : Int)).length = qn := by omega
        rw [hqn]
        exact hI2
      · show (if i = (kk : Int) then ans else ch i) ≤ _
        by_cases hi : i = (kk : Int)
        · rw [if_pos hi, hi]; omega
        · rw [if_neg hi]; exact hch i
      · show (if i = (kk : Int) then ans else ch i) = 0
        rw [if_neg]
        · exact hz i (by rw [hdr]; exact List.mem_cons_of_mem _ hi)
        · intro hik
          rw [hik] at hi
          exact hnotin2 hi
      · show (if i = (kk : Int) then ans else ch i) = 0
        rw [if_neg]
        · exact hz2 i hi
        · intro hik
          rw [hik] at hi
          exact hi hmem
    refine ⟨fun hpos => ?_, fun hpos => ?_⟩
    · have hpos := of_decide_eq_true hpos
      obtain ⟨qb, qo, hqp, hqc⟩ := (l2.ev e1 (fun h => by have := h.2; simp at this; omega)).own.cells (i := ans - 1) (by omega)
      have hwa : IntKind.wrap .i64 ((ans : Int) - 1) = ((ans - 1 : Nat) : Int) := by rw [wrapI] <;> omega
      rw [hwa]
      refine ⟨qb, qo, hqp, by omega, by omega, _, _, _, by simpa [Sec.cs, Sec.val] using hqc, ?_⟩
      have hsv := (l3.ev e1 Spk.n0).get (ans - 1) (by omega) (by omega)
      obtain ⟨bs, hbs⟩ : ∃ bs, (P0.cache (kk : Int))[ans - 1]'(by omega) = some bs := by
        cases hx : (P0.cache (kk : Int))[ans - 1]'(by omega) with
        | none => exact absurd hx (l4 _ (List.getElem_mem _))
        | some bs => exact ⟨bs, rfl⟩
      rw [hbs] at hsv
      refine (f174_ht e1.ok h1 (i := kk) (by omega) hsv).mono fun v H2 ⟨g2, hv2, e2, h2⟩ => ⟨hv2, ?_⟩
      refine next H2 g2 _ ((hE.trans e1').trans (e2.mono fun _ h => .inl h.le)) h2 (by rw [← hPc]; rfl) (ho1.ev e2 (fun h => SpP.zero h.le)) (hinv _ _ _ _ _ hI1 (e2.mono fun _ h => h.le)) fun i => ?_
      rw [Pl.eng_dur, hdur i, settled_set]
      by_cases hi : i = kk
      · rw [if_pos hi, if_pos hi, if_neg (by omega), hi, List.getElem?_eq_getElem (by omega), hbs]
        rfl
      · rw [if_neg hi, if_neg hi]
    · have hpos := of_decide_eq_false hpos
      have ha0 : ans = 0 := by omega
      refine next H1 g1 P (hE.trans e1') h1 hPc ho1 hI1 fun i => ?_
      rw [hdur i, settled_set]
      by_cases hi : i = kk
      · rw [if_pos hi, if_pos ha0]
        unfold settled
        rw [hi, if_pos hchj]
      · rw [if_neg hi]

theorem f142b_ht {cap cap2 : Nat} {Inv : List (Int × Nat × Nat) → Heap → Gh → Prop}
    (hinv : ∀ tr H g H' g', Inv tr H g → Ev (SpP e) H g H' g' → Inv tr H' g')
    (hask : ∀ tr, tr.length < 2 ^ 20 → ∀ H g, Inv tr H g → ∀ i n : Nat, 0 < n → n < 2 ^ 32 → HT Tryz.prog 188 [.int .i64 (i : Int), .int .i64 (n : Int), .pointer (some ⟨cap, 0, none⟩), .pointer (some ⟨cap2, 0, none⟩)] H fun v H' => ∃ (k : Nat) (g' : Gh), v = .int .i64 (k : Int) ∧ k ≤ n ∧ Ev Spk H g H' g' ∧ Inv (tr ++ [((i : Int), n, k)]) H' g')
    (hg : GOk H g) (h : PlOk H g e pb ss ns bd P) (hbd : bd < 2 ^ 32) {tr0 : List (Int × Nat × Nat)} (htr : tr0.length < 2 ^ 10) (hI : Inv tr0 H g) :
    HT Tryz.prog 142 [.pointer (some ⟨pb, 0, none⟩), .func (.func 188) #[] #[.pointer (some ⟨cap, 0, none⟩), .pointer (some ⟨cap2, 0, none⟩)]] H (setPost H g e pb ss ns bd P Inv tr0) := by
  apply f142b_of
  refine (f186_ht h).mono fun v H1 ⟨hs1, p, n, c, ks, hv, hnew, ho, hD⟩ => ⟨p, n, c, hv, ?_⟩
  obtain ⟨g1, e1, ho1⟩ : ∃ g1, Ev (fun _ => False) H g H1 g1 ∧ OwnT H1 g1 (0, 0) 2 1 I64.cs p n c ks := by
    rcases ho.own with ⟨q1, _⟩ | ⟨b, o, arr, q1, q2, _⟩
    · exact ⟨g, Ev.sub hg hs1, ho, fun a ha => by rw [q1] at ha; cases ha⟩
    · exact ⟨_, Ev.roNew hg hs1 (hnew _ q1) q2, ho, fun a ha => by rw [q1] at ha; cases ha; simp [gset]⟩
  have e1P : Ev (SpP e) H g H1 g1 := e1.mono fun _ h => h.elim
  exact f142b_L1_ht hinv hask hbd hD tr0 htr n 0 H1 g1 P (fun _ => 0) (by omega) (e1.mono fun _ h => h.elim) (h.ev e1 (fun h => h) fun _ _ h => h) rfl ho1 (by simpa using hinv _ _ _ _ _ hI e1P) (fun _ => Nat.zero_le _) (fun _ _ => rfl) (fun _ _ => rfl) (fun i => by simp [settled])

end

end Go.Proofs.Qxb6500695aGreatFmt
