/-
  CONTRACTS, PART P: the trial of PicksTheLatestBackup.
-/
import Derived.Test.Qxb6500694aGreatDoorCi
import Derived.Test.Qxb6500694aGreatDoorCk
import Derived.Test.Qxb6500694aGreatDoorVe
namespace Go.Proofs.Qxb6500694aGreatDoor
open Go Go.Eng Go.Proofs
set_option maxRecDepth 100000
set_option linter.unusedVariables false
set_option linter.unusedSimpArgs false
set_option linter.unusedSectionVars false

theorem minle {a b c : Int} : decide (a ≤ if b < c then b else c) = true ↔ a ≤ b ∧ a ≤ c := by
  rw [decide_eq_true_iff]
  split <;> omega

theorem onp_skip {m : Man} : ∀ (hs : List Hist) (acc : Bool), (∀ h ∈ hs, h.tl ≠ m.tl) → onp m hs acc = acc
  | [], _, _ => rfl
  | h :: r, acc, hn => by
    unfold onp
    rw [if_neg (by simpa using hn h List.mem_cons_self)]
    exact onp_skip r acc fun x hx => hn x (List.mem_cons_of_mem _ hx)

theorem onp_br {m : Man} : ∀ (hs : List Hist), onp m hs false = true → ∃ h ∈ hs, h.br ≤ m.start := by
  intro hs
  have key : ∀ (hs : List Hist) (acc : Bool), onp m hs acc = true → acc = true ∨ ∃ h ∈ hs, h.br ≤ m.start := by
    intro hs
    induction hs with
    | nil => intro acc h; exact .inl h
    | cons h r ih =>
      intro acc ha
      unfold onp at ha
      rcases ih _ ha with h1 | ⟨x, hx, hb⟩
      · split at h1
        · simp at h1
          exact .inr ⟨h, List.mem_cons_self, h1.1⟩
        · exact .inl h1
      · exact .inr ⟨x, List.mem_cons_of_mem _ hx, hb⟩
  intro h
  rcases key hs false h with h1 | h1
  · cases h1
  · exact h1

/-- A path in order: timelines rise; the branches do not fall. -/
def Rise : List Hist → Prop
  | [] => True
  | h :: r => (∀ x ∈ r, h.tl < x.tl ∧ h.br ≤ x.br) ∧ Rise r

theorem rise_of_links : ∀ (hs : List Hist), (∀ i (h : i + 1 < hs.length), hs[i].tl < hs[i + 1].tl ∧ hs[i].br ≤ hs[i + 1].br) → Rise hs
  | [], _ => trivial
  | [x], _ => ⟨by simp, trivial⟩
  | x :: y :: r, hl => by
    have ih := rise_of_links (y :: r) fun i hi => by
      have := hl (i + 1) (by simp at hi ⊢; omega)
      simpa using this
    have h0 := hl 0 (by simp)
    simp at h0
    refine ⟨fun z hz => ?_, ih⟩
    rcases List.mem_cons.1 hz with rfl | hz
    · exact h0
    · have := ih.1 z hz
      omega

theorem AncOk.rise {esH : Array MapEntry} {t : Int} {hs : List Hist} (h : AncOk esH t hs) : Rise hs :=
  rise_of_links hs fun i hi => by
    have h1 := h.link i hi
    have h2 := (h.all _ (List.getElem_mem (l := hs) (n := i + 1) hi)).2.1.2.2.2.1
    omega

theorem within_onp {m : Man} {at_ : Int} (hat : inU at_) (hst : m.start ≤ m.stop) : ∀ (hs : List Hist), Rise hs → (withinL m (cutL at_ (legsOf hs)) = true ↔ m.stop ≤ at_ ∧ onp m hs false = true)
  | [], _ => by simp [legsOf, cutL, withinL, onp]
  | h :: r, hr => by
    have ih := within_onp hat hst r hr.2
    unfold inU at hat
    unfold legsOf cutL onp
    by_cases hb : h.br > at_
    · rw [if_pos hb]
      simp only [withinL]
      refine ⟨(fun h => by cases h), fun ⟨h1, h2⟩ => ?_⟩
      exfalso
      by_cases ht : h.tl = m.tl
      · rw [if_pos (by simpa using ht), onp_skip] at h2
        · simp at h2; omega
        · intro x hx; have := hr.1 x hx; omega
      · rw [if_neg (by simpa using ht)] at h2
        obtain ⟨x, hx, hb2⟩ := onp_br r h2
        have := hr.1 x hx
        omega
    · rw [if_neg hb]
      unfold withinL
      by_cases ht : h.tl = m.tl
      · have e1 : (h.tl == m.tl) = true := by simpa using ht
        simp only [e1, if_true]
        rw [onp_skip]
        · cases r with
          | nil =>
            rw [Bool.and_eq_true, minle, Bool.and_eq_true, decide_eq_true_iff]
            simp only [toOf, exitOk, and_true]
            omega
          | cons h2 r =>
            rw [Bool.and_eq_true, minle, Bool.and_eq_true, decide_eq_true_iff]
            simp only [toOf, exitOk, decide_eq_true_eq]
            omega
        · intro x hx; have := hr.1 x hx; omega
      · have e1 : (h.tl == m.tl) = false := by simpa using ht
        simp only [e1]
        exact ih

theorem ChL.all {esM : Array MapEntry} {id : Int} {l : List Man} (h : ChL esM id l) : ∀ x ∈ l, iget esM.toList x.id = some x.val ∧ x.start ≤ x.stop := by
  intro x hx
  obtain ⟨j, hj, rfl⟩ := List.getElem_of_mem hx
  have h1 := ChL.drop _ _ h j hj
  obtain ⟨m, r, h2, h3, h4⟩ := h1.head
  rw [List.drop_eq_getElem_cons hj] at h2
  simp only [List.cons.injEq] at h2
  obtain ⟨h5, _⟩ := h2
  rw [← h5] at h3 h4
  exact ⟨h3, h4⟩

theorem ChL.len {esM : Array MapEntry} {id : Int} {l : List Man} (h : ChL esM id l) : l.length ≤ esM.size := by
  refine ids_le ?_ h.all
  unfold List.Nodup
  rw [List.pairwise_iff_getElem]
  intro i j hi hj hij hne
  simp only [List.length_map] at hi hj
  simp only [List.getElem_map] at hne
  have h1 := ChL.drop _ _ h i (by omega)
  have h2 := ChL.drop _ _ h j hj
  rw [hne] at h1
  have h3 := congrArg List.length (ChL.uniq _ _ _ h1 h2)
  simp at h3
  omega

section
variable {esM : Array MapEntry} {hs : List Hist} {at_ : Int}

/-- usable: a sound chain, each member on the path and complete at or below the target. -/
theorem usF_iff (hat : inU at_) (hr : Rise hs) (hid : ∀ id v, iget esM.toList id = some v → ∃ m : Man, v = m.val ∧ m.id = id) : ∀ (d : Nat) (id before : Int),
    usF esM hs at_ d id before = true ↔ ∃ l, ChL esM id l ∧ l.length ≤ d ∧ (∀ y, l.head? = some y → y.stop ≤ before) ∧ ∀ x ∈ l, withinL x (cutL at_ (legsOf hs)) = true := by
  intro d
  induction d with
  | zero =>
    intro id before
    simp only [usF]
    refine ⟨(fun h => by cases h), fun ⟨l, h1, h2, _⟩ => ?_⟩
    obtain ⟨m, r, rfl, _⟩ := h1.head
    simp at h2
  | succ d ih =>
    intro id before
    unfold usF
    cases hg : iget esM.toList id with
    | none =>
      simp only [Option.bind_none]
      refine ⟨(fun h => by cases h), fun ⟨l, h1, _⟩ => ?_⟩
      obtain ⟨m, r, rfl, h2, _⟩ := h1.head
      rw [hg] at h2; cases h2
    | some v =>
      obtain ⟨m, hv, hmid⟩ := hid id v hg
      subst hv
      simp only [Option.bind_some, manOf_val]
      constructor
      · intro h
        split at h
        · cases h
        rename_i c1
        split at h
        · cases h
        rename_i c2
        split at h
        · cases h
        rename_i c3
        split at h
        · rename_i c4
          have hw : withinL m (cutL at_ (legsOf hs)) = true := (within_onp hat (by omega) hs hr).2 ⟨by omega, c4⟩
          split at h
          · rename_i c5
            refine ⟨[m], ⟨hg, hmid, by omega, by simpa using c5, ?_⟩, by simp, fun y hy => ?_, fun x hx => ?_⟩
            · have := of_decide_eq_true h; omega
            · cases hy; omega
            · rw [List.mem_singleton.1 hx]; exact hw
          · rename_i c5
            obtain ⟨l, h1, h2, h3, h4⟩ := (ih m.par m.start).1 h
            refine ⟨m :: l, (ChL.step hg hmid (by omega) (by simpa using c5)).2 ⟨l, rfl, h1, h3⟩, by simp; omega, fun y hy => ?_, fun x hx => ?_⟩
            · cases hy; omega
            · rcases List.mem_cons.1 hx with rfl | hx
              · exact hw
              · exact h4 x hx
        · cases h
      · rintro ⟨l, h1, h2, h3, h4⟩
        obtain ⟨m', r, rfl, h5, h6⟩ := h1.head
        have := man_uniq hg h5
        subst this
        have h7 := (within_onp hat h6 hs hr).1 (h4 m List.mem_cons_self)
        have h8 := h3 m rfl
        rw [if_neg (by omega), if_neg (by omega), if_neg (by omega), if_pos h7.2]
        by_cases hp : m.par = 0
        · rw [if_pos (by simpa using hp)]
          have := (h1.last hg hp).2
          simp [this]
        · rw [if_neg (by simpa using hp)]
          obtain ⟨l2, h9, h10, h11⟩ := (ChL.step hg hmid h6 hp).1 h1
          cases h9
          exact (ih m.par m.start).2 ⟨r, h10, by simp at h2; omega, h11, fun x hx => h4 x (List.mem_cons_of_mem _ hx)⟩

end

section
variable {H : Heap} {ba bs bw : Nat} {d : Addr} {esM esL esH : Array MapEntry}

theorem Arch.mid (hA : Arch H ba esM esL esH) : ∀ id v, iget esM.toList id = some v → ∃ m : Man, v = m.val ∧ m.id = id := by
  intro id v h
  obtain ⟨e, he, hk, hv⟩ := iget_mem h
  obtain ⟨m', h1, h2⟩ := hA.man e he
  exact ⟨m', by rw [← hv, h1], by rw [h2, hk]⟩

/-- Usable, as the statement wants it. -/
def usP (esM esH : Array MapEntry) (f : Nat) (t id at_ : Int) : Bool := match ancF esH f t with
  | none => false
  | some hs => usF esM hs at_ esM.size id at_

theorem usP_iff (hA : Arch H ba esM esL esH) {f : Nat} {t id at_ : Int} {hs : List Hist} (hanc : ancF esH f t = some hs) (hat : inU at_) :
    usP esM esH f t id at_ = true ↔ ∃ l, ChL esM id l ∧ ∀ x ∈ l, withinL x (cutL at_ (legsOf hs)) = true := by
  unfold usP
  rw [hanc]
  have hr := (ancF_ok hA f t hs hanc).rise
  rw [usF_iff hat hr hA.mid]
  constructor
  · rintro ⟨l, h1, _, _, h4⟩
    exact ⟨l, h1, h4⟩
  · rintro ⟨l, h1, h4⟩
    refine ⟨l, h1, h1.len, fun y hy => ?_, h4⟩
    have hy' : y ∈ l := List.mem_of_mem_head? hy
    exact ((within_onp hat (h1.all y hy').2 hs hr).1 (h4 y hy')).1

theorem f35_ht (hA : Arch H ba esM esL esH) (hG : Globs H) {f : Nat} {t id at_ : Int} (hf : t.toNat < f) :
    HT Tryz.prog 35 [.pointer (some ⟨ba, 0, none⟩), .int .u32 t, .int .u64 id, .int .u64 at_] H fun v H' => Sub H H' ∧ v = .bool (usP esM esH f t id at_) := by
  apply f35_of
  refine (f41_ht hA hG f t hf).mono fun v h1 ⟨p, n, c, hv, hs1, hcase⟩ => ⟨p, n, c, hv, _, nilNeq Tryz.underlying106, ?_⟩
  unfold usP
  rcases hcase with ⟨hanc, rfl, rfl⟩ | ⟨hs, hanc, hnew, hpn, ho⟩
  · rw [hanc]
    exact ⟨(fun h => by cases h), fun _ => ⟨hs1, rfl⟩⟩
  · rw [hanc]
    refine ⟨fun _ => ?_, fun h => ?_⟩
    · refine (f36_ht (hA.sub hs1)).mono fun v h2 ⟨p2, n2, c2, ys, hv2, hs2, hnew2, hpn2, ho2, hperm, hn2⟩ => ⟨p2, n2, c2, hv2, ?_⟩
      have hsz := hA.sizeM
      have hok := ancF_ok hA f t hs hanc
      have hlen := ho.len
      have hle := hok.len
      have hpos := hok.pos
      have htl : t < 131072 := by
        obtain ⟨x, hx⟩ : ∃ x, hs.getLast? = some x := by
          rw [List.getLast?_eq_getElem?]
          exact ⟨_, List.getElem?_eq_getElem (by omega)⟩
        have h1 := hok.last x hx
        have h2 := (hok.all x (List.mem_of_getLast? hx)).2.1.2.2.2.2.1
        omega
      rw [hn2]
      refine (f43_ht ((hA.sub hs1).sub hs2) ((hG.sub hs1).sub hs2) (qc := c) ((ReadL.of ho).sub hs2) (by omega) esM.size (by omega) id at_).mono fun v h3 ⟨he3, hv3⟩ => ⟨_, hv3, ?_, rfl⟩
      subst he3
      exact hs1.trans hs2
    · cases p with
      | none => exact absurd rfl hpn
      | some a => cases h

theorem f13_ex {op0_0 op0_1 op0_2 op0_3 : Int} {op0_4 : Bool} {op0_5 : Int} {op0_6 : Option Addr} {op0_6n op0_6c : Nat} {op0_7 : Option Addr} {op0_7n op0_7c : Nat} {op0_8 : Option Addr} {op0_8n op0_8c : Nat} {H : Heap} :
    HT Tryz.prog 13 [.agg #[.int .u8 op0_0, .int .u32 op0_1, .int .u64 op0_2, .int .i64 op0_3, .bool op0_4, .int .i64 op0_5, .slice op0_6 op0_6n op0_6c, .slice op0_7 op0_7n op0_7c, .slice op0_8 op0_8n op0_8c]] H fun v H' =>
      H' = H ∧ v = .agg #[.int .u32 op0_1, .bool op0_4, .int .u64 op0_2, .int .i64 op0_3, .int .u64 (IntKind.wrap .u64 (if (0 : Int) > op0_5 then (0 : Int) else op0_5))] := by
  apply f13_of
  intro b1 b2
  exact ⟨rfl, rfl⟩

theorem f34_L1_ht (hA : Arch H ba esM esL esH) (hG : Globs H) (hw : Cells H bs 0 [.pointer (some ⟨bw, 0, none⟩)]) (hd : Cells H bs 1 [.pointer (some d)]) (ha : Cells H bw 0 [.pointer (some ⟨ba, 0, none⟩)])
    {op0_0 op0_1 op0_2 op0_3 : Int} {op0_4 : Bool} {op0_5 : Int} {op0_6 : Option Addr} {op0_6n op0_6c : Nat} {op0_7 : Option Addr} {op0_7n op0_7c : Nat} {op0_8 : Option Addr} {op0_8n op0_8c : Nat}
    {t' stop ow : Int} {p p2 p6 : Option Addr} {n c n2 c2 n6 c6 : Nat} {m : Man} {hs : List Hist} {ys : List Man} {h6 : Heap} (hs06 : Sub H h6) (ho6 : Mans h6 p6 n6 c6 ys) (hn6 : n6 ≤ 131072)
    (hin : ∀ x ∈ ys, iget esM.toList x.id = some x.val) (hanc : ancF esH (op0_1.toNat + 1) op0_1 = some hs) (hst : inU stop)
    (hlate : ∀ x : Man, iget esM.toList x.id = some x.val → m.stop < x.stop → ∀ l, ChL esM x.id l → ∃ y ∈ l, withinL y (cutL stop (legsOf hs)) = false) :
    ∀ (k i : Nat) (h : Heap), i + k = n6 → Sub h6 h →
      f34_L1 (some ⟨bs, 0, none⟩) op0_0 op0_1 op0_2 op0_3 op0_4 op0_5 op0_6 op0_6n op0_6c op0_7 op0_7n op0_7c op0_8 op0_8n op0_8c t' stop ow p n c p2 n2 c2 m.id m.par m.tl m.start m.stop m.pp m.pn m.pc p6 n6 c6 (n6 : Int) (i : Int) h
        fun v H' => v = .pointer (some d) ∧ Sub H H' := by
  have hlen6 := ho6.len
  intro k
  induction k with
  | zero =>
    intro i h hi hsh
    apply f34_L1_of
    have hsH := hs06.trans hsh
    exact ⟨fun hd' => absurd (of_decide_eq_true hd') (by omega), fun _ => ⟨bs, 0, rfl, _, hsH.cells hd, rfl, hsH⟩⟩
  | succ k ih =>
    intro i h hi hsh
    apply f34_L1_of
    have hsH := hs06.trans hsh
    refine ⟨fun _ => ?_, fun hd' => absurd (of_decide_eq_false hd') (by simp; omega)⟩
    obtain ⟨b7, o7, hp7, hc7⟩ := (ho6.sub hsh).cells (i := i) (by omega)
    have hmy := hin _ (List.getElem_mem (l := ys) (n := i) (by omega))
    generalize hyi : ys[i] = y at hc7 hmy
    have next : ∀ h', Sub h6 h' → f34_L2 (some ⟨bs, 0, none⟩) op0_0 op0_1 op0_2 op0_3 op0_4 op0_5 op0_6 op0_6n op0_6c op0_7 op0_7n op0_7c op0_8 op0_8n op0_8c t' stop ow p n c p2 n2 c2 m.id m.par m.tl m.start m.stop m.pp m.pn m.pc p6 n6 c6 (n6 : Int) (i : Int) false h'
        fun v H' => v = .pointer (some d) ∧ Sub H H' := by
      intro h' hs'
      apply f34_L2_of
      refine ⟨(fun h => by cases h), fun _ => ?_⟩
      rw [wrapS (by omega)]
      exact ih (i + 1) h' (by omega) hs'
    refine ⟨b7, o7, hp7, by omega, by omega, _, _, _, _, _, _, _, _, hc7, fun _ => ⟨fun hlt => ?_, fun _ => next h hsh⟩⟩
    refine ⟨bs, 0, rfl, _, hsH.cells hw, bw, 0, rfl, _, hsH.cells ha, ?_⟩
    have huf : usP esM esH (op0_1.toNat + 1) op0_1 y.id stop = false := by
      cases hc : usP esM esH (op0_1.toNat + 1) op0_1 y.id stop with
      | false => rfl
      | true =>
        obtain ⟨l, h8, h9⟩ := (usP_iff hA hanc hst).1 hc
        obtain ⟨z, hz, hzf⟩ := hlate _ hmy (of_decide_eq_true hlt) l h8
        rw [h9 z hz] at hzf; cases hzf
    refine (f35_ht (hA.sub hsH) (hG.sub hsH) (f := op0_1.toNat + 1) (by omega)).mono fun v h8 ⟨hs8, hv8⟩ => ⟨_, hv8, hs8.cells (hsH.cells hw), ?_⟩
    rw [huf]
    exact next h8 (hsh.trans hs8)

theorem f34_ht (hA : Arch H ba esM esL esH) (hG : Globs H) (hw : Cells H bs 0 [.pointer (some ⟨bw, 0, none⟩)]) (hd : Cells H bs 1 [.pointer (some d)]) (ha : Cells H bw 0 [.pointer (some ⟨ba, 0, none⟩)])
    {job op0_0 op0_1 op0_2 op0_3 : Int} {op0_4 : Bool} {op0_5 : Int} {op0_6 : Option Addr} {op0_6n op0_6c : Nat} {op0_7 : Option Addr} {op0_7n op0_7c : Nat} {op0_8 : Option Addr} {op0_8n op0_8c : Nat} (hat : inU op0_2) :
    HT Tryz.prog 34 [.pointer (some ⟨bs, 0, none⟩), .int .u64 job, .agg #[.int .u8 op0_0, .int .u32 op0_1, .int .u64 op0_2, .int .i64 op0_3, .bool op0_4, .int .i64 op0_5, .slice op0_6 op0_6n op0_6c, .slice op0_7 op0_7n op0_7c, .slice op0_8 op0_8n op0_8c]] H
      fun v H' => v = .pointer (some d) ∧ Sub H H' := by
  apply f34_of
  intro _
  refine ⟨bs, 0, rfl, _, hw, bw, 0, rfl, _, ha, bs, 0, rfl, _, hd, ?_⟩
  refine f13_ex.mono fun v h1 ⟨he, hv⟩ => ?_
  subst he
  generalize hbk : IntKind.wrap .u64 (if (0 : Int) > op0_5 then (0 : Int) else op0_5) = bk at hv
  refine ⟨op0_1, op0_4, op0_2, op0_3, bk, hv, hd, ha, hw, ?_⟩
  refine (f30_ht hA hG (f := op0_1.toNat + 1) (by omega) hat).mono fun v h2 ⟨r, e, hv, he, hs2, hpost⟩ => ⟨r, e, hv, hs2.cells hd, hs2.cells ha, hs2.cells hw, _, neqErr he, fun _ => ?_, fun hnil => ?_⟩
  · exact ⟨bs, 0, rfl, _, hs2.cells hd, rfl, hs2⟩
  · obtain ⟨br, a, d', j, t', stop, ow, p, n, c, p2, n2, c2, hr, hbr, hplan⟩ := hpost (isNilOf he hnil)
    subst hr
    refine (f31_ht hbr).mono fun v h3 ⟨he3, hv3⟩ => ?_
    subst he3
    obtain ⟨t'', stop', ow', p', n', c', p2', n2', c2', e', hveq, _, _, hgood⟩ := hplan
    simp at hveq
    obtain ⟨⟨rfl, rfl, rfl, ⟨rfl, rfl, rfl⟩, ⟨rfl, rfl, rfl⟩⟩, rfl⟩ := hveq
    obtain ⟨hs, xs, zs, m, hanc, hst, ho, hz, hn1, hn2, hn0, hup, hall, hhead, hlast, hwi, hj, hch, hnamed, hlate⟩ := hgood rfl
    have hlen := ho.len
    refine ⟨t', stop, ow, p, n, c, p2, n2, c2, hv3, fun _ => ?_⟩
    obtain ⟨b, o, hp, hc⟩ := ho.cells (i := n - 1) (by omega)
    have hgl : xs.getLast? = some xs[n - 1] := by
      rw [List.getLast?_eq_getElem?, List.getElem?_eq_getElem (by omega)]
      congr 2
      omega
    rw [hgl] at hlast
    cases hlast
    rw [wrapP (by omega) (by omega)]
    have hA3 := hA.sub hs2
    have hG3 := hG.sub hs2
    refine ⟨b, o, hp, by omega, by omega, _, _, _, _, _, _, _, _, hc, fun _ => ⟨bs, 0, rfl, _, hs2.cells hw, bw, 0, rfl, _, hs2.cells ha, ?_⟩⟩
    have hus : usP esM esH (op0_1.toNat + 1) op0_1 (xs[n - 1]).id stop = true :=
      (usP_iff hA hanc hst).2 ⟨xs.reverse, hch, fun x hx => hwi x (List.mem_reverse.1 hx)⟩
    refine (f35_ht hA3 hG3 (f := op0_1.toNat + 1) (by omega)).mono fun v h4 ⟨hs4, hv4⟩ => ⟨_, hv4, hs4.cells (hs2.cells hw), fun hf => ?_, fun _ => ?_⟩
    · rw [hus] at hf; cases hf
    · refine f13_ex.mono fun v h5 ⟨he5, hv5⟩ => ?_
      subst he5
      rw [hbk] at hv5
      have hs05 := hs2.trans hs4
      refine ⟨op0_1, op0_4, op0_2, op0_3, bk, hv5, fun hb => ⟨fun hne => ?_, fun _ => ?_⟩, fun hb => ?_⟩
      · have := hnamed (by simpa using hb)
        rw [this] at hne; simp at hne
      · exact ⟨bs, 0, rfl, _, hs05.cells hd, rfl, hs05⟩
      · have hb0 : bk = 0 := by simpa using hb
        refine ⟨bs, 0, rfl, _, hs05.cells hw, bw, 0, rfl, _, hs05.cells ha, ?_⟩
        refine (f36_ht (hA.sub hs05)).mono fun v h6 ⟨p6, n6, c6, ys, hv6, hs6, hnew6, hpn6, ho6, hperm, hn6⟩ => ⟨p6, n6, c6, hv6, ?_⟩
        have hsz := hA.sizeM
        have hlen6 := ho6.len
        have hs06 := hs05.trans hs6
        exact f34_L1_ht hA hG hw hd ha hs06 ho6 (by omega) (fun x hx => man_in hA hperm (List.Perm.refl _) hx) hanc hst (fun x hx hlt l hl => hlate hb0 x hx hlt l hl) n6 0 h6 (by omega) (Sub.refl _)

end

end Go.Proofs.Qxb6500694aGreatDoor
