/-
  CONTRACTS, PART J: the trial of ChainIsSound.
-/
import Derived.Test.Qxb6500694aGreatDoorCi
import Derived.Test.Qxb6500694aGreatDoorVd
namespace Go.Proofs.Qxb6500694aGreatDoor
open Go Go.Eng Go.Proofs
set_option maxRecDepth 100000
set_option linter.unusedVariables false
set_option linter.unusedSimpArgs false
set_option linter.unusedSectionVars false

section
variable {H : Heap} {ba bs bw : Nat} {d : Addr} {esM esL esH : Array MapEntry}

theorem f32_L5_ht {t' stop ow : Int} {p p2 : Option Addr} {n c n2 c2 : Nat} {zs : List Leg} {h : Heap} (hsub : Sub H h) (hd : Cells H bs 1 [.pointer (some d)]) (hz : Legs h p2 n2 c2 zs) (hn2 : n2 ≤ 131072) :
    ∀ (k i : Nat) (at_ : Int), i + k = n2 → joins at_ (zs.drop i) stop →
      f32_L5 (some ⟨bs, 0, none⟩) t' stop ow p n c p2 n2 c2 at_ p2 n2 c2 (n2 : Int) (i : Int) h fun v H' => v = .pointer (some d) ∧ Sub H H' := by
  intro k
  induction k with
  | zero =>
    intro i at_ hi hj
    apply f32_L5_of
    refine ⟨fun hd => absurd (of_decide_eq_true hd) (by omega), fun _ => ⟨fun hd2 => ?_, fun _ => ?_⟩⟩
    · rw [List.drop_eq_nil_of_le (by have := hz.len; omega)] at hj
      simp only [joins] at hj
      rw [hj] at hd2; simp at hd2
    · exact ⟨bs, 0, rfl, _, hsub.cells hd, rfl, hsub⟩
  | succ k ih =>
    intro i at_ hi hj
    apply f32_L5_of
    refine ⟨fun _ => ?_, fun hd => absurd (of_decide_eq_false hd) (by simp; omega)⟩
    have hlen := hz.len
    obtain ⟨b, o, hp, hc⟩ := hz.cells (i := i) (by omega)
    rw [List.drop_eq_getElem_cons (by omega)] at hj
    obtain ⟨h1, h2, h3⟩ := hj
    refine ⟨b, o, hp, by omega, by omega, _, _, _, hc, fun _ => ⟨fun hd2 => ?_, fun _ => ?_⟩⟩
    · rw [h1] at hd2; simp at hd2
    · apply f32_L6_of
      refine ⟨fun hd2 => absurd (of_decide_eq_true hd2) (by omega), fun _ => ?_⟩
      rw [wrapS (by omega)]
      exact ih (i + 1) _ (by omega) h3

theorem f32_L2_ht (hA : Arch H ba esM esL esH) (hG : Globs H) (hw : Cells H bs 0 [.pointer (some ⟨bw, 0, none⟩)]) (hd : Cells H bs 1 [.pointer (some d)]) (ha : Cells H bw 0 [.pointer (some ⟨ba, 0, none⟩)])
    {t' stop ow : Int} {p p2 : Option Addr} {n c n2 c2 : Nat} {xs : List Man} {zs : List Leg} {m : Man} {h : Heap} (hsub : Sub H h) (ho : Mans h p n c xs) (hz : Legs h p2 n2 c2 zs) (hn1 : n ≤ 131072) (hn2 : n2 ≤ 131072) (hn0 : 0 < n) (hup : UpOk xs)
    (hall : ∀ x ∈ xs, iget esM.toList x.id = some x.val ∧ x.start ≤ x.stop) (hlast : xs.getLast? = some m) (hj : joins m.start zs stop) :
    ∀ (k i : Nat), i + k = n → f32_L2 (some ⟨bs, 0, none⟩) t' stop ow p n c p2 n2 c2 p n c (n : Int) (i : Int) h fun v H' => v = .pointer (some d) ∧ Sub H H' := by
  have hlen := ho.len
  intro k
  induction k with
  | zero =>
    intro i hi
    apply f32_L2_of
    refine ⟨fun hd => absurd (of_decide_eq_true hd) (by omega), fun _ => ?_⟩
    obtain ⟨b, o, hp, hc⟩ := ho.cells (i := n - 1) (by omega)
    rw [wrapP (by omega) hn0]
    refine ⟨b, o, hp, by omega, by omega, _, hc.part 3 rfl (by simp [Man.cs]), ?_⟩
    have hgl : xs.getLast? = some xs[n - 1] := by
      rw [List.getLast?_eq_getElem?, List.getElem?_eq_getElem (by omega)]
      congr 2
      omega
    rw [hgl] at hlast
    cases hlast
    exact f32_L5_ht hsub hd hz hn2 n2 0 _ (by omega) (by simpa using hj)
  | succ k ih =>
    intro i hi
    apply f32_L2_of
    refine ⟨fun _ => ?_, fun hd => absurd (of_decide_eq_false hd) (by simp; omega)⟩
    obtain ⟨b, o, hp, hc⟩ := ho.cells (i := i) (by omega)
    have hmem := hall _ (List.getElem_mem (l := xs) (n := i) (by omega))
    have good : f32_L4 (some ⟨bs, 0, none⟩) t' stop ow p n c p2 n2 c2 p n c (n : Int) (i : Int) false h fun v H' => v = .pointer (some d) ∧ Sub H H' := by
      apply f32_L4_of
      refine ⟨(fun h => by cases h), fun _ => ?_⟩
      rw [wrapS (by omega)]
      exact ih (i + 1) (by omega)
    have step : f32_L3 (some ⟨bs, 0, none⟩) t' stop ow p n c p2 n2 c2 (i : Int) xs[i].id xs[i].par xs[i].tl xs[i].start xs[i].stop xs[i].pp xs[i].pn xs[i].pc .nilIface p n c (n : Int) (i : Int) h fun v H' => v = .pointer (some d) ∧ Sub H H' := by
      apply f32_L3_of
      refine ⟨_, neqErr IsI.nil, (fun h => by cases h), fun _ => ⟨fun hpos => ?_, fun _ => good⟩⟩
      have hpos := of_decide_eq_true hpos
      rw [wrapP (by omega) (by omega)]
      obtain ⟨b2, o2, hp2, hc2⟩ := ho.cells (i := i - 1) (by omega)
      have hu := hup (i - 1) (by omega)
      have he : i - 1 + 1 = i := by omega
      simp only [he] at hu
      refine ⟨b2, o2, hp2, by omega, by omega, _, hc2.part 0 rfl (by simp [Man.cs]), fun hd2 => ?_, fun _ => ⟨b2, o2, hp2, by omega, by omega, _, hc2.part 4 rfl (by simp [Man.cs]), ?_⟩⟩
      · rw [hu.1] at hd2; simp at hd2
      · rw [decide_eq_false (by omega)]; exact good
    refine ⟨b, o, hp, by omega, by omega, _, _, _, _, _, _, _, _, hc, fun _ => ⟨bs, 0, rfl, _, hsub.cells hw, bw, 0, rfl, _, hsub.cells ha, ?_, fun _ => ?_⟩⟩
    · refine (f33_ht (hA.sub hsub) (hG.sub hsub) _).mono fun v h1 ⟨he, hv⟩ => ?_
      subst he
      rcases hv with ⟨m', hg, hid, rfl⟩ | ⟨hg, _⟩
      · exact ⟨m'.id, m'.par, m'.tl, m'.start, m'.stop, m'.pp, m'.pn, m'.pc, _, rfl, hsub.cells hw, fun _ => step⟩
      · rw [hmem.1] at hg; cases hg
    · refine (f33_ht (hA.sub hsub) (hG.sub hsub) _).mono fun v h1 ⟨he, hv⟩ => ?_
      subst he
      rcases hv with ⟨m', hg, hid, rfl⟩ | ⟨hg, _⟩
      · exact ⟨m'.id, m'.par, m'.tl, m'.start, m'.stop, m'.pp, m'.pn, m'.pc, _, rfl, hsub.cells hw, step⟩
      · rw [hmem.1] at hg; cases hg

theorem f32_ht (hA : Arch H ba esM esL esH) (hG : Globs H) (hw : Cells H bs 0 [.pointer (some ⟨bw, 0, none⟩)]) (hd : Cells H bs 1 [.pointer (some d)]) (ha : Cells H bw 0 [.pointer (some ⟨ba, 0, none⟩)])
    {job op0_0 op0_1 op0_2 op0_3 : Int} {op0_4 : Bool} {op0_5 : Int} {op0_6 : Option Addr} {op0_6n op0_6c : Nat} {op0_7 : Option Addr} {op0_7n op0_7c : Nat} {op0_8 : Option Addr} {op0_8n op0_8c : Nat} (hat : inU op0_2) :
    HT Tryz.prog 32 [.pointer (some ⟨bs, 0, none⟩), .int .u64 job, .agg #[.int .u8 op0_0, .int .u32 op0_1, .int .u64 op0_2, .int .i64 op0_3, .bool op0_4, .int .i64 op0_5, .slice op0_6 op0_6n op0_6c, .slice op0_7 op0_7n op0_7c, .slice op0_8 op0_8n op0_8c]] H
      fun v H' => v = .pointer (some d) ∧ Sub H H' := by
  apply f32_of
  intro _
  refine ⟨bs, 0, rfl, _, hw, bw, 0, rfl, _, ha, bs, 0, rfl, _, hd, ?_⟩
  refine f13_ht.mono fun v h1 ⟨he, bk, hv⟩ => ?_
  subst he
  refine ⟨op0_1, op0_4, op0_2, op0_3, bk, hv, hd, ha, hw, ?_⟩
  refine (f30_ht hA hG (f := op0_1.toNat + 1) (by omega) hat).mono fun v h2 ⟨r, e, hv, he, hs2, hpost⟩ => ⟨r, e, hv, hs2.cells hd, hs2.cells ha, hs2.cells hw, _, neqErr he, fun _ => ?_, fun hnil => ?_⟩
  · exact ⟨bs, 0, rfl, _, hs2.cells hd, rfl, hs2⟩
  · obtain ⟨br, a, d', j, t', stop, ow, p, n, c, p2, n2, c2, hr, hbr, hplan⟩ := hpost (isNilOf he hnil)
    subst hr
    refine (f31_ht hbr).mono fun v h3 ⟨he3, hv3⟩ => ?_
    subst he3
    obtain ⟨t'', stop', ow', p', n', c', p2', n2', c2', e', hveq, _, _, hgood⟩ := hplan
    simp at hveq
    obtain ⟨⟨rfl, rfl, rfl, ⟨rfl, rfl, rfl⟩, ⟨rfl, rfl, rfl⟩⟩, rfl⟩ := hveq
    obtain ⟨hs, xs, zs, m, hanc, hst, ho, hz, hn1, hn2, hn0, hup, hall, hhead, hlast, hwi, hj, _⟩ := hgood rfl
    refine ⟨t', stop, ow, p, n, c, p2, n2, c2, hv3, fun _ => ⟨fun h0 => ?_, fun _ => ?_⟩⟩
    · simp at h0; omega
    · have hlen := ho.len
      obtain ⟨b, o, hp, hc⟩ := ho.cells (i := 0) (by omega)
      have hh : xs.head? = some xs[0] := by rw [List.head?_eq_getElem?, List.getElem?_eq_getElem]
      obtain ⟨hpar, hpn⟩ := hhead _ hh
      refine ⟨b, o, hp, by omega, by omega, _, hc.part 1 rfl (by simp [Man.cs]), fun h0 => ?_, fun _ => ⟨b, o, hp, by omega, by omega, _, _, _, hc.part 5 rfl (by simp [Man.cs]), ?_⟩⟩
      · rw [hpar] at h0; simp at h0
      · apply f32_L1_of
        refine ⟨fun h0 => ?_, fun _ => f32_L2_ht hA hG hw hd ha hs2 ho hz hn1 hn2 hn0 hup hall hlast hj n 0 (by omega)⟩
        rw [hpn] at h0; simp at h0

end

end Go.Proofs.Qxb6500694aGreatDoor
