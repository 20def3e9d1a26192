/-
  CONTRACTS, PART I: MakePlan, New, Plan.
-/
import Derived.Test.Qxb6500694aGreatDoorCh
namespace Go.Proofs.Qxb6500694aGreatDoor
open Go Go.Eng Go.Proofs
set_option maxRecDepth 100000
set_option linter.unusedVariables false
set_option linter.unusedSimpArgs false
set_option linter.unusedSectionVars false

section
variable {H : Heap} {ba : Nat} {esM esL esH : Array MapEntry}

theorem neNil {v : Value} (hv : IsI v) (h : (!(isNil v)) = true) : v ≠ .nilIface := by
  intro he; subst he; cases h

theorem isNilOf {v : Value} (hv : IsI v) (h : (!(isNil v)) = false) : v = .nilIface := by
  rcases hv with h1 | ⟨t, x, h1⟩
  · exact h1
  · rw [h1] at h; cases h

theorem nilNeq {x y : Operand} {p : Option Addr} {n c T E : Nat} (hu : Tryz.prog.underlying T = some (.slice E)) : BinIs Tryz.prog .neq T x y (.slice p n c) (.slice none 0 0) (.bool !p.isNone) :=
  binIs_slice_neq hu

theorem man_in (hA : Arch H ba esM esL esH) {ys zs : List Man} (hperm : (List.map Man.val ys).Perm (esM.toList.map (fun e => e.val))) (hp2 : zs.Perm ys) {x : Man} (hx : x ∈ zs) : iget esM.toList x.id = some x.val := by
  obtain ⟨rm, rl, rh, cM, cL, cH, mp, h1, h2, h3, h4, h5, h6, h7⟩ := hA.ex
  have h8 : x.val ∈ esM.toList.map (fun e => e.val) := (hperm.mem_iff).1 (List.mem_map.2 ⟨x, (hp2.mem_iff).1 hx, rfl⟩)
  obtain ⟨e, he, hev⟩ := List.mem_map.1 h8
  obtain ⟨m, hm, hid⟩ := hA.man e he
  have hmx : m = x := Man.val_inj (by rw [← hm]; exact hev)
  subst hmx
  rw [hid, iget_of_mem h5.2.1 he, hm]

theorem man_cov {ys zs : List Man} (hperm : (List.map Man.val ys).Perm (esM.toList.map (fun e => e.val))) (hp2 : zs.Perm ys) {x : Man} (hx : iget esM.toList x.id = some x.val) : x ∈ zs := by
  obtain ⟨e, he, hk, hv⟩ := iget_mem hx
  have h8 : x.val ∈ List.map Man.val ys := (hperm.mem_iff).2 (List.mem_map.2 ⟨e, he, hv⟩)
  obtain ⟨y, hy, hyx⟩ := List.mem_map.1 h8
  have := Man.val_inj hyx
  subst this
  exact (hp2.mem_iff).2 hy

section plan
variable {f : Nat} {t bk stop ow : Int} {q : Option Addr} {qn qc : Nat} {x40 x41 x42 : Int} {x43 : Option Addr} {x43n x43c : Nat} {x44 : Option Addr} {x44n x44c : Nat} {tb : Bool} {tl tt : Int} {hs : List Hist}



/-- A chain was found. -/
theorem f60_L7_some (hA : Arch H ba esM esL esH) (hG : Globs H) (hanc : ancF esH f t = some hs) (hst : inU stop) (hqn : qn ≤ 131072) {p : Option Addr} {n c : Nat} {xs : List Man} {h : Heap} (hsub : Sub H h) (hr : ReadL h 3 Leg.cs q qn (cutL stop (legsOf hs))) (hpn : p ≠ none) (ho : Mans h p n c xs) (hn1 : n ≤ 131072) (hn0 : 0 < n) (hup : UpOk xs)
    (hall : ∀ x ∈ xs, iget esM.toList x.id = some x.val ∧ x.start ≤ x.stop) (hhead : ∀ x, xs.head? = some x → x.par = 0 ∧ x.pn = 4) (hw : ∀ x ∈ xs, withinL x (cutL stop (legsOf hs)) = true) (hpk : ∀ m, xs.getLast? = some m → Picked esM hs stop bk xs m) :
    f60_L7 x40 x41 x42 x43 x43n x43c x44 x44n x44c q qn qc t stop ow p n c none 0 0 h (planPost H esM esH f t bk) := by
  apply f60_L7_of
  refine ⟨_, nilSlice Tryz.underlying92, fun hd => absurd (Option.isNone_iff_eq_none.1 hd) hpn, fun _ => ?_⟩
  have hlen := ho.len
  obtain ⟨b, o, hp, hc⟩ := ho.cells (i := n - 1) (by omega)
  rw [wrapP (by omega) (by omega)]
  refine ⟨b, o, hp, by omega, by omega, _, hc.part 3 rfl (by simp [Man.cs]), ?_⟩
  have hgl : xs.getLast? = some xs[n - 1] := by
    rw [List.getLast?_eq_getElem?, List.getElem?_eq_getElem (by omega)]
    congr 2
    omega
  have hmem := List.getElem_mem (l := xs) (n := n - 1) (by omega)
  have hok := ancF_ok hA f t hs hanc
  have hconn := hok.conn
  have hst' := hst
  unfold inU at hst'
  have hne : legsOf hs ≠ [] := by
    intro he
    have := legsOf_len hs
    rw [he] at this
    have := hok.pos
    simp at *
    omega
  have hcut := cut_conn (s := stop) (legsOf hs) 0 _ hconn (by omega) (by omega) (.inl hne)
  obtain ⟨l, hl, ht, h1, h2⟩ := within_le (hw _ hmem)
  obtain ⟨_, hb⟩ := conn_le _ _ _ hcut
  have hbl := hb l hl
  have hse := (hall _ hmem).2
  have hj := rep_joins (start := (xs[n - 1]).start) (s := stop) (by omega) _ 0 hcut
  have he0 : (if (xs[n - 1]).start > 0 then (xs[n - 1]).start else 0) = (xs[n - 1]).start := by
    split <;> omega
  rw [he0] at hj
  exact f60_L8_ht hsub hr hqn hanc hst ho hn1 hn0 hup hall hhead hgl hw hj (hpk _ hgl) qn 0 [] none 0 0 h (by omega) (Sub.refl _) (New.none _) (OwnL.nil Leg.size) (by omega) (by simp)

/-- No chain was found. -/
theorem f60_L7_none (hA : Arch H ba esM esL esH) (hG : Globs H) (hanc : ancF esH f t = some hs) (hst : inU stop) (hqn : qn ≤ 131072) {h : Heap} (hsub : Sub H h) :
    f60_L7 x40 x41 x42 x43 x43n x43c x44 x44n x44c q qn qc t stop ow none 0 0 none 0 0 h (planPost H esM esH f t bk) := by
  apply f60_L7_of
  obtain ⟨tt, x, hx⟩ := (hG.sub hsub) 2 (by simp)
  exact ⟨_, nilSlice Tryz.underlying92, fun _ => ⟨tt, x, hx, errPlan (IsI.some _ _) (by simp) hsub⟩, fun hd => by cases hd⟩

theorem f60_L4_ht (hA : Arch H ba esM esL esH) (hG : Globs H) (hanc : ancF esH f t = some hs) (hst : inU stop) (hqn : qn ≤ 131072) {cp : Option Addr} {cn cc : Nat} {cs : List Man} {h0 : Heap} (hsub : Sub H h0) (hr : ReadL h0 3 Leg.cs q qn (cutL stop (legsOf hs))) (hcs : ReadL h0 6 Man.cs cp cn cs) (hcn : cn ≤ 131072)
    (hin : ∀ x ∈ cs, iget esM.toList x.id = some x.val) (hcov : ∀ x : Man, iget esM.toList x.id = some x.val → x ∈ cs) (hsort : ∀ i j, i < j → (hj : j < cs.length) → (hi : i < cs.length) → ltStop cs[j] cs[i] = false) :
    ∀ (k i : Nat) (h : Heap), i + k = cn → Sub h0 h → (bk = 0 → ∀ j (hj : j < cs.length), j < i → ∀ l, ChL esM cs[j].id l → ∃ y ∈ l, withinL y (cutL stop (legsOf hs)) = false) →
      f60_L4 (some ⟨ba, 0, none⟩) t tb tl tt bk x40 x41 x42 x43 x43n x43c x44 x44n x44c q qn qc t stop ow none 0 0 none 0 0 cp cn cc (cn : Int) (i : Int) h (planPost H esM esH f t bk) := by
  intro k
  induction k with
  | zero =>
    intro i h hi hs2 hbefore
    apply f60_L4_of
    exact ⟨fun hd => absurd (of_decide_eq_true hd) (by omega), fun _ => f60_L7_none hA hG hanc hst hqn (hsub.trans hs2)⟩
  | succ k ih =>
    intro i h hi hs2 hbefore
    apply f60_L4_of
    refine ⟨fun _ => ?_, fun hd => absurd (of_decide_eq_false hd) (by simp; omega)⟩
    have hlen := hcs.len
    obtain ⟨b, o, hp, hc⟩ := (hcs.sub hs2).cells i (by omega)
    have next : ∀ h', Sub h0 h' → (bk = 0 → ∀ l, ChL esM cs[i].id l → ∃ y ∈ l, withinL y (cutL stop (legsOf hs)) = false) → f60_L6 (some ⟨ba, 0, none⟩) t tb tl tt bk x40 x41 x42 x43 x43n x43c x44 x44n x44c q qn qc t stop ow none 0 0 none 0 0 cp cn cc (cn : Int) (i : Int) h' (planPost H esM esH f t bk) := by
      intro h' hs' hthis
      apply f60_L6_of
      unfold f60_L6_pre
      rw [wrapS (by omega)]
      refine ih (i + 1) h' (by omega) hs' fun hbk j hj hji => ?_
      by_cases hji' : j < i
      · exact hbefore hbk j hj hji'
      · obtain rfl : j = i := by omega
        exact hthis hbk
    have main : ∀ bb, (bb = true → bk ≠ 0) → (bb = false → bk ≠ 0 → cs[i].id = bk) → f60_L5 (some ⟨ba, 0, none⟩) t tb tl tt bk x40 x41 x42 x43 x43n x43c x44 x44n x44c q qn qc t stop ow none 0 0 none 0 0 cs[i].id cs[i].par cs[i].tl cs[i].start cs[i].stop cs[i].pp cs[i].pn cs[i].pc cp cn cc (cn : Int) (i : Int) bb h (planPost H esM esH f t bk) := by
      intro bb hb1 hb2
      apply f60_L5_of
      refine ⟨fun hbb => next h hs2 (fun h0 => absurd h0 (hb1 hbb)), fun hbb => ?_⟩
      have hsH := hsub.trans hs2
      refine (f91_ht (hA.sub hsH) (hG.sub hsH) (qc := qc) (hr.sub hs2) (by omega) cs[i]).mono fun v h3 ⟨p, n, c, hv, hs3, hcase⟩ => ⟨p, n, c, hv, _, nilNeq Tryz.underlying92, ?_⟩
      have hmi := hin _ (List.getElem_mem (l := cs) (n := i) (by omega))
      rcases hcase with ⟨rfl, rfl, rfl, hno⟩ | ⟨xs, hnew, hpn, ho, hn1, hn0, hup, hall, hhead, hlast, hw, hch⟩
      · exact ⟨(fun h => by cases h), fun _ => next h3 (hs2.trans hs3) (fun _ => hno hmi)⟩
      · refine ⟨fun _ => ?_, fun hd => ?_⟩
        · exact f60_L7_some hA hG hanc hst hqn (hsH.trans hs3) (hr.sub (hs2.trans hs3)) hpn ho hn1 hn0 hup hall hhead hw fun m hm => by
            have hid := hlast m hm
            have hmm : m = cs[i] := by
              have h5 := (hall m (List.mem_of_getLast? hm)).1
              rw [hid] at h5
              exact man_uniq h5 hmi
            rw [hmm]
            refine ⟨hch, fun hbk => hb2 hbb hbk, fun hbk x hx hlt l hl => ?_⟩
            obtain ⟨j, hj, rfl⟩ := List.getElem_of_mem (hcov x hx)
            by_cases hji : j < i
            · exact hbefore hbk j hj hji l hl
            · exfalso
              by_cases hji2 : j = i
              · subst hji2; omega
              · have h6 := hsort i j (by omega) hj (by omega)
                unfold ltStop at h6
                simp at h6
                omega
        · cases p with
          | none => exact absurd rfl hpn
          | some a => cases hd
    exact ⟨b, o, hp, by omega, by omega, _, _, _, _, _, _, _, _, hc, fun _ => ⟨fun hb => main _ (fun _ => by simpa using hb) (fun h1 _ => by simpa using h1), fun hb => main _ (fun h => by cases h) (fun _ h2 => absurd (by simpa using hb) h2)⟩⟩

theorem f60_L3_ht (hA : Arch H ba esM esL esH) (hG : Globs H) (hanc : ancF esH f t = some hs) (hst : inU stop) (hqn : qn ≤ 131072) {h : Heap} (hsub : Sub H h) (hr : ReadL h 3 Leg.cs q qn (cutL stop (legsOf hs))) :
    f60_L3 (some ⟨ba, 0, none⟩) t tb tl tt bk x40 x41 x42 x43 x43n x43c x44 x44n x44c q qn qc t stop ow none 0 0 none 0 0 h (planPost H esM esH f t bk) := by
  apply f60_L3_of
  refine (f36_ht (hA.sub hsub)).mono fun v h1 ⟨p, n, c, ys, hv, hs1, hnew, hpn, ho, hperm, hn⟩ => ⟨p, n, c, hv, ?_⟩
  have hsz := hA.sizeM
  refine (f87_man (by omega) hpn ho).mono fun v h2 ⟨hv, zs, hperm2, hsort, ho2, hkeep⟩ => ⟨hv, ?_⟩
  have hs2 : Sub h h2 := by
    intro b o hb
    rw [hkeep b]
    · exact hs1 _ _ hb
    · intro a ha hab
      subst hab
      rw [hnew a ha] at hb; cases hb
  exact f60_L4_ht hA hG hanc hst hqn (hsub.trans hs2) (hr.sub hs2) (ReadL.of ho2) (by omega) (fun x hx => man_in hA hperm hperm2 hx) (fun x hx => man_cov hperm hperm2 hx) hsort n 0 h2 (by omega) (Sub.refl _) (fun _ j _ h => absurd h (by omega))

theorem f60_L2_ht (hA : Arch H ba esM esL esH) (hG : Globs H) (hanc : ancF esH f t = some hs) (hst : inU stop) (hqn : qn ≤ 131072) {h0 : Heap} (hsub : Sub H h0) (hr : ReadL h0 3 Leg.cs q qn (cutL stop (legsOf hs))) (hq0 : 0 < qn) :
    ∀ (k i : Nat), i + k = qn →
      f60_L2 (some ⟨ba, 0, none⟩) t tb tl tt bk 0 0 0 none 0 0 none 0 0 q qn qc stop q qn qc (qn : Int) (i : Int) h0 (planPost H esM esH f t bk) := by
  intro k
  induction k with
  | zero =>
    intro i hi
    apply f60_L2_of
    refine ⟨fun hd => absurd (of_decide_eq_true hd) (by omega), fun _ => ⟨?_, fun _ => ?_⟩⟩
    · exact (f86_ht hr (by omega) hq0).mono fun v h1 ⟨he, t', hv⟩ => by
        subst he
        exact ⟨t', hv, fun _ => f60_L3_ht hA hG hanc hst hqn hsub hr⟩
    · exact (f86_ht hr (by omega) hq0).mono fun v h1 ⟨he, t', hv⟩ => by
        subst he
        exact ⟨t', hv, f60_L3_ht hA hG hanc hst hqn hsub hr⟩
  | succ k ih =>
    intro i hi
    apply f60_L2_of
    refine ⟨fun _ => ?_, fun hd => absurd (of_decide_eq_false hd) (by simp; omega)⟩
    have hlen := hr.len
    obtain ⟨b, o, hp, hc⟩ := hr.cells i (by omega)
    refine ⟨b, o, hp, by omega, by omega, _, _, _, hc, fun _ => ?_⟩
    refine (f69_ht (hA.sub hsub) _).mono fun v h1 ⟨he, x, hx, hv⟩ => ⟨x, hv, fun _ => ?_, fun _ => ?_⟩
    · subst he
      obtain ⟨tt, x, hx⟩ := (hG.sub hsub) 1 (by simp)
      exact ⟨tt, x, hx, errPlan (IsI.some _ _) (by simp) hsub⟩
    · subst he
      rw [wrapS (by omega)]
      exact ih (i + 1) (by omega)

end plan

theorem f60_L1_ht {f : Nat} {t bk stop : Int} {q : Option Addr} {qn qc : Nat} {tb : Bool} {tl tt : Int} {hs : List Hist} (hA : Arch H ba esM esL esH) (hG : Globs H) (hanc : ancF esH f t = some hs) (hst : inU stop)
    {h : Heap} (hsub : Sub H h) (hr : ReadL h 3 Leg.cs q qn (legsOf hs)) :
    f60_L1 (some ⟨ba, 0, none⟩) t tb tl tt bk 0 0 0 none 0 0 none 0 0 q qn qc stop h (planPost H esM esH f t bk) := by
  have hok := ancF_ok hA f t hs hanc
  have hlen := hr.len
  rw [legsOf_len] at hlen
  have hle := hok.len
  have hpos := hok.pos
  have htl : t < 131072 := by
    obtain ⟨x, hx⟩ : ∃ x, hs.getLast? = some x := by
      rw [List.getLast?_eq_getElem?]
      exact ⟨_, List.getElem?_eq_getElem (by omega)⟩
    have h1 := hok.last x hx
    have h2 := (hok.all x (List.mem_of_getLast? hx)).2.1.2.2.2.2.1
    omega
  apply f60_L1_of
  refine (f85_ht (qc := qc) hr (by omega)).mono fun v h1 ⟨p, n, c, hv, hs1, hnew, ho⟩ => ⟨p, n, c, hv, ?_⟩
  have hcl := cutL_len stop (legsOf hs)
  rw [legsOf_len] at hcl
  have hn := ho.len
  have hn0 : 0 < n := by
    rw [hn]
    cases hs with
    | nil => simp at hpos
    | cons x r =>
      have h2 := hok.first x rfl
      have h3 := (hok.all x List.mem_cons_self).2.1.2.2.2.2.2 h2
      unfold inU at hst
      simp only [legsOf, cutL]
      rw [if_neg (by omega)]
      simp
  exact f60_L2_ht hA hG hanc hst (by omega) (hsub.trans hs1) (ReadL.of ho) hn0 n 0 (by omega)

theorem f60_ht (hA : Arch H ba esM esL esH) (hG : Globs H) {f : Nat} {t bk tl tt : Int} {tb : Bool} (hf : t.toNat < f) (hl : inU tl) :
    HT Tryz.prog 60 [.iface 44 (.pointer (some ⟨ba, 0, none⟩)), .agg #[.int .u32 t, .bool tb, .int .u64 tl, .int .i64 tt, .int .u64 bk]] H (planPost H esM esH f t bk) := by
  apply f60_of
  intro _ _
  refine (f83_ht hA hG hf).mono fun v h1 ⟨p, n, c, e, hv, he, hs1, hpost⟩ => ⟨p, n, c, e, hv, _, neqErr he, fun hd => ?_, fun hd => ?_⟩
  · exact errPlan he (neNil he hd) hs1
  · obtain ⟨hs, hanc, hnew, ho⟩ := hpost (isNilOf he hd)
    have hok := ancF_ok hA f t hs hanc
    have hlen := ho.len
    rw [legsOf_len] at hlen
    have hle := hok.len
    have hpos := hok.pos
    have htl : t < 131072 := by
      obtain ⟨x, hx⟩ : ∃ x, hs.getLast? = some x := by
        rw [List.getLast?_eq_getElem?]
        exact ⟨_, List.getElem?_eq_getElem (by omega)⟩
      have h1 := hok.last x hx
      have h2 := (hok.all x (List.mem_of_getLast? hx)).2.1.2.2.2.2.1
      omega
    refine ⟨fun _ => ?_, fun _ => ?_⟩
    · refine (f84_ht (hA.sub hs1) (hG.sub hs1) (ReadL.of ho) (by omega) tt).mono fun v h2 ⟨x, e2, hv2, hx, he2, hs2⟩ => ⟨x, e2, hv2, _, neqErr he2, fun hd2 => ?_, fun hd2 => ?_⟩
      · exact errPlan he2 (neNil he2 hd2) (hs1.trans hs2)
      · exact f60_L1_ht hA hG hanc hx (hs1.trans hs2) (ReadL.of (ho.sub hs2))
    · exact f60_L1_ht hA hG hanc hl hs1 (ReadL.of ho)

/-- What New hands back. -/
def newPost (H : Heap) (esM esH : Array MapEntry) (f : Nat) (t bk : Int) (v : Value) (H' : Heap) : Prop :=
  ∃ r e, v = .tuple #[.pointer r, e] ∧ IsI e ∧ Sub H H' ∧ (e = .nilIface → ∃ br a d j t' stop ow p n c p2 n2 c2, r = some ⟨br, 0, none⟩ ∧
    H' br = some (.cells #[a, d, j, .int .u32 t', .int .u64 stop, .int .u32 ow, .slice p n c, .slice p2 n2 c2] 157 (0, 0)) ∧
    planPost H esM esH f t bk (.tuple #[.agg #[.int .u32 t', .int .u64 stop, .int .u32 ow, .slice p n c, .slice p2 n2 c2], .nilIface]) H')

theorem f30_ht (hA : Arch H ba esM esL esH) (hG : Globs H) {f : Nat} {t bk tl tt job : Int} {tb : Bool} {d : Option Addr} (hf : t.toNat < f) (hl : inU tl) :
    HT Tryz.prog 30 [.iface 44 (.pointer (some ⟨ba, 0, none⟩)), .iface 35 (.pointer d), .int .u64 job, .agg #[.int .u32 t, .bool tb, .int .u64 tl, .int .i64 tt, .int .u64 bk]] H (newPost H esM esH f t bk) := by
  apply f30_of
  intro _
  refine (f60_ht hA hG hf hl).mono fun v h1 hp => ?_
  obtain ⟨t', stop, ow, p, n, c, p2, n2, c2, e, hv, he, hs1, hpost⟩ := hp
  refine ⟨t', stop, ow, p, n, c, p2, n2, c2, e, hv, fun _ => ⟨_, neqErr he, fun hd => ?_, fun hd => ?_⟩⟩
  · exact ⟨none, e, rfl, he, hs1, fun h => absurd h (neNil he hd)⟩
  · intro b26 h2 ha
    obtain ⟨hs, xs, zs, m, g1, g2, g3, g4, g5⟩ := hpost (isNilOf he hd)
    exact ⟨_, _, rfl, IsI.nil, hs1.al ha, fun _ => ⟨b26, _, _, _, t', stop, ow, p, n, c, p2, n2, c2, rfl, ha.same, t', stop, ow, p, n, c, p2, n2, c2, _, rfl, IsI.nil, hs1.al ha, fun _ => ⟨hs, xs, zs, m, g1, g2, g3.sub ha.sub, g4.sub ha.sub, g5⟩⟩⟩

theorem f31_ht {br : Nat} {a d j : Value} {t' stop ow : Int} {p p2 : Option Addr} {n c n2 c2 : Nat} (hb : H br = some (.cells #[a, d, j, .int .u32 t', .int .u64 stop, .int .u32 ow, .slice p n c, .slice p2 n2 c2] 157 (0, 0))) :
    HT Tryz.prog 31 [.pointer (some ⟨br, 0, none⟩)] H fun v H' => H' = H ∧ v = .agg #[.int .u32 t', .int .u64 stop, .int .u32 ow, .slice p n c, .slice p2 n2 c2] := by
  apply f31_of
  intro _
  exact ⟨br, 0, rfl, t', stop, ow, p, n, c, p2, n2, c2, Cells.of hb rfl, rfl, rfl⟩

end

end Go.Proofs.Qxb6500694aGreatDoor
