/-
  CrashKeeps: BEHIND A STEP, PART 3: a device's sync, a new object, a sync of all.
-/
import Derived.Test.Qxb6500695aGreatFmtKr
namespace Go.Proofs.Qxb6500695aGreatFmt
open Go Go.Eng Go.Proofs
set_option maxRecDepth 100000
set_option linter.unusedVariables false
set_option linter.unusedSimpArgs false
set_option linter.unusedSectionVars false

section
variable {S : Nat × Int → Prop} {H H1 H2 H' : Heap} {g g1 g2 g' : Gh} {E : Nat → Value} {sp : Option Addr} {sn : Nat} {ops : List OpV} {rb d4 o5 : Nat} {p : Nat → SlP} {mb : Nat → Nat} {bd M bk cn k nb pwb dvb sb : Nat} {nd : Nat → NdV} {hl : Nat → Nat → List Sv} {B : Nat → Int → Option Bk} {n' : NdV} {X : Heap → Prop}
variable {x70 : Option Addr} {x70n x70c : Nat} {x71 x72 : Int} {R : Value → Heap → Prop}

/-- The books of a device behind its sync. -/
theorem f3_L9_ht (h : AP E sp sn ops rb d4 o5 p mb H g bd M bk cn nd hl B k nb pwb dvb sb n' H2 g2) (hcl : Cl p mb H g bd bk cn k nb pwb dvb sb n' (f3_L13 (some ⟨rb, 0, none⟩) d4 o5 x70 x70n x70c x71 x72 · R))
    (hlast : ∀ j, j < shN k → (hl k j).drop ((hl k j).length - 1) = hs (shS k) n'.D j) (hop : ∀ b ∈ n'.s.T, ∃ y, B k (n'.s.O b).id = some y ∧ OP (shS k) (n'.s.O b) y.zs y.C) (hnx : ∀ i x, B k i = some x → i ≤ n'.s.nxt) :
    ∀ (d s : Nat) (H1 : Heap) (g1 : Gh) (h1 : Nat → List Sv), shN k - s = d → s ≤ shN k → Ev (UK k) H g H1 g1 → NdR H1 g1 (k : Int) nb pwb dvb sb (shS k) (shN k) (shC k) (bd + 80) n' → DvB H1 g1 k (shS k) (shN k) bk (p k) h1 → BkR H1 g1 k (mb k) (shS k) (shC k) bk cn (B k) →
      (∀ j, j < shN k → h1 j = if j < s then (hl k j).drop ((hl k j).length - 1) else hl k j) →
      f3_L9 (some ⟨rb, 0, none⟩) d4 o5 (k : Int) x70 x70n x70c x71 x72 (p k).1 (p k).2.1 (p k).2.2 ((p k).2.1 : Int) (s : Int) H1 R := by
  have hk := h.hk
  obtain ⟨s0, s16, sc12, sn12⟩ := sh_ok (k := k)
  have hbb := h.bb
  have hpn := h.D.len
  intro d
  induction d with
  | zero =>
    intro s H1 g1 h1 hd hs e1 N1 D1 B1 hh1
    have hsn : s = shN k := by omega
    subst hsn
    apply f3_L9_of
    refine ⟨fun hx => by have := of_decide_eq_true hx; omega, fun _ => ?_⟩
    exact hcl H1 g1 h1 (B k) cn e1 N1 (Nat.le_refl _) (D1.mono (by omega)) (B1.mono (by omega) (Nat.le_refl _)) ⟨fun j hj => by rw [hh1 j hj, if_pos hj, hlast j hj], hop, hnx, h.nm⟩
  | succ d ih =>
    intro s H1 g1 h1 hd hs e1 N1 D1 B1 hh1
    have hsn : s < shN k := by omega
    have hhs : h1 s = hl k s := by rw [hh1 s hsn, if_neg (by omega)]
    obtain ⟨b, o, sx, hp, hcx, hhi⟩ := D1.get hsn
    rw [hhs] at hhi
    have hlen := hhi.len
    have hnb := hhi.nb
    have hpos : 0 < (hl k s).length := List.length_pos_iff.2 hhi.ne
    apply f3_L9_of
    refine ⟨fun _ => ⟨b, o, hp, by omega, by omega, sx.p, sx.n, sx.c, by simpa [Sec.val] using hcx, by omega, by omega, _, _, _, h.dcell e1, ?_⟩, fun hx => by have := of_decide_eq_false hx; omega⟩
    have hw : IntKind.wrap .i64 ((sx.n : Int) - 1) = ((sx.n - 1 : Nat) : Int) := by rw [wrapI] <;> omega
    rw [hw]
    refine ⟨_, _, _, sliceIs_lo Tryz.underlying37 (by kernel_rfl) (inf := Tryz.t35) rfl (k := sx.n - 1) (by omega), ?_⟩
    have ht := hhi.tail (m := sx.n - 1) (by omega)
    obtain ⟨b2, o2, arr, z1, z2, z3, z4⟩ := D1.set (S := fun _ => False) hsn (Ev.refl e1.ok) (fun h => h) (fun h => h) (fun _ _ h => h) (Nat.le_refl _) ht
    refine ⟨b2, o2, z1, by omega, by omega, arr, 37, z2, by simpa using z3, fun H7 hw7 => ?_⟩
    obtain ⟨e7, D7⟩ := z4 H7 (by simpa using hw7)
    have e7' : Ev (SDv k) H1 g1 H7 g1 := e7.mono fun tg h => .inl h
    rw [wrapS (by omega)]
    refine ih (s + 1) H7 g1 _ (by omega) (by omega) (e1.trans (e7.mono fun tg h => .inr (.inr (.inr (.inr (.inl h)))))) (N1.evD hk h.I.pos e7' fun tg h => h) D7 (B1.evD e7' fun tg h => .inr h) fun j hj => ?_
    unfold hset
    by_cases hjs : j = s
    · subst hjs
      rw [if_pos rfl, if_pos (by omega), hlen]
    · rw [if_neg hjs, hh1 j hj]
      have : (j < s) ↔ (j < s + 1) := by omega
      simp only [this]

/-- A new object's past. -/
theorem f3_L10_ht {id i1 i2 i3 : Int} (h : AP E sp sn ops rb d4 o5 p mb H g bd M bk cn nd hl B k nb pwb dvb sb n' H2 g2) (hcl : Cl p mb H g bd bk cn k nb pwb dvb sb n' (f3_L13 (some ⟨rb, 0, none⟩) d4 o5 x70 x70n x70c x71 x72 · R))
    (hni : ∀ pb : Nat, NI (shS k) (shN k) n' (hl k) (Bset (B k) id ⟨pb, cn, [0], fun _ => []⟩)) :
    f3_L10 (some ⟨rb, 0, none⟩) d4 o5 (k : Int) id i1 i2 i3 x70 x70n x70c x71 x72 false H2 R := by
  have hk := h.hk
  have hbb := h.bb
  have go : ∀ {H5 : Heap} {g5 : Gh} {b : Nat}, Ev (fun _ => False) H2 g2 H5 g5 → PsR H5 g5 (cd k cn) b (shS k) (shC k) bk [0] (fun _ => []) → SemOk Tryz.prog (Instr.mapUpdate 28 (.map (some (mb k))) (.int .u64 id) (.pointer (some ⟨b, 0, none⟩))) H5 fun _ hp => f3_L13 (some ⟨rb, 0, none⟩) d4 o5 x70 x70n x70c x71 x72 hp R := by
    intro H5 g5 b e5 P5
    have B5 := h.B.ev e5 (fun h => h) (fun h => h) fun _ _ _ _ h => h
    refine B5.put e5.ok P5 fun H6 e6 b6 => ?_
    have D5 := h.D.ev e5 (fun h => h) (fun h => h) fun _ h => h
    have n52 : ∀ {j : Nat} {z : Int}, j ≠ 52 → ¬ ((fun tg : Nat × Int => tg = (52, (k : Int))) (j, z)) := fun hj hc => hj (by simpa using congrArg Prod.fst hc)
    have D6 := D5.ev e6 (n52 (by decide)) (n52 (by decide)) fun s => n52 (by omega)
    have N5 := h.N.off e5 none_offN
    have N6 := N5.off e6 fun tg ht hc => by rw [ht] at hc; simp at hc
    refine hcl H6 g5 (hl k) _ (cn + 1) ((h.ev.trans (e5.mono fun tg h => h.elim)).trans (e6.mono fun tg h => .inr (.inr (.inr (.inr (.inr (.inl h))))))) N6 (by omega) (D6.mono (by omega)) (b6.mono (by omega) (Nat.le_refl _)) (hni b)
  apply f3_L10_of
  refine ⟨(fun h => by cases h), fun _ => ⟨by omega, by omega, _, h.ocell h.ev, ?_, ?_⟩⟩
  · intro b216 H3 ha3 b217 H4 ha4 b219 H5 ha5
    obtain ⟨g5, e5, P5⟩ := PsR.new (e := cd k cn) (ss := shS k) (ns := shC k) (bd := bk) (n := 0) h.ev.ok ha3 ha4 ha5 hbb.2.2
    exact go e5 P5
  · intro b217 H3 ha3 b216 H4 ha4 b219 H5 ha5
    obtain ⟨g5, e5, P5⟩ := PsR.new' (e := cd k cn) (ss := shS k) (ns := shC k) (bd := bk) (n := 0) h.ev.ok ha3 ha4 ha5 hbb.2.2
    exact go e5 P5

/-- The books behind a sync of all. -/
theorem f3_L11_ht {np : Option Addr} {nn nc : Nat} (h : AP E sp sn ops rb d4 o5 p mb H g bd M bk cn nd hl B k nb pwb dvb sb n' H2 g2) (hcl : Cl p mb H g bd bk cn k nb pwb dvb sb n' (f3_L13 (some ⟨rb, 0, none⟩) d4 o5 x70 x70n x70c x71 x72 · R)) (hup : n'.pw.down = false) (hM : M + 4 < 2 ^ 28)
    (hsy : ∀ x b, n'.s.m x = some b → ∃ y, B k (n'.s.O b).id = some y ∧ OP (shS k) (n'.s.O b) [lastZ y.zs] (syncC y.C)) (hre : ∀ b ∈ n'.s.T, (∀ x, n'.s.m x ≠ some b) → ∃ y, B k (n'.s.O b).id = some y ∧ OP (shS k) (n'.s.O b) y.zs y.C) (hdev : ∀ i, i < shN k → hl k i = hs (shS k) n'.D i) (hnx : ∀ i x, B k i = some x → i ≤ n'.s.nxt) (hnn : nn = n'.s.xs.length) :
    ∀ (d j : Nat) (H1 : Heap) (g1 : Gh) (B1 : Int → Option Bk), n'.s.xs.length - j = d → j ≤ n'.s.xs.length → Ev (UK k) H g H1 g1 → NdR H1 g1 (k : Int) nb pwb dvb sb (shS k) (shN k) (shC k) (bd + 80) n' → DvB H1 g1 k (shS k) (shN k) bk (p k) (hl k) → BkR H1 g1 k (mb k) (shS k) (shC k) bk cn B1 → OwnT H1 g1 (0, 0) 9 1 Str.cs np nn nc n'.s.xs →
      (∀ x b, x ∈ n'.s.xs.take j → n'.s.m x = some b → ∃ y old, B1 (n'.s.O b).id = some y ∧ B k (n'.s.O b).id = some old ∧ y.zs = [lastZ old.zs] ∧ y.C = syncC old.C) → (∀ i, (∀ x b, x ∈ n'.s.xs.take j → n'.s.m x = some b → (n'.s.O b).id ≠ i) → B1 i = B k i) →
      f3_L11 (some ⟨rb, 0, none⟩) d4 o5 (k : Int) (some ⟨sb, 0, none⟩) x70 x70n x70c x71 x72 np nn nc (nn : Int) (j : Int) H1 R := by
  have hk := h.hk
  have hbb := h.bb
  have hI := h.I
  have hlenI := hI.len
  have hin : ∀ x b, n'.s.m x = some b → x ∈ n'.s.xs := fun x b hx => (hI.mem x).2 (by rw [hx]; simp)
  intro d
  induction d with
  | zero =>
    intro j H1 g1 B1 hd hj e1 N1 D1 b1 o1 hdone hrest
    have hjl : j = n'.s.xs.length := by omega
    subst hjl
    rw [List.take_length] at hdone hrest
    apply f3_L11_of
    refine ⟨fun hx => by have := of_decide_eq_true hx; omega, fun _ => ?_⟩
    refine hcl H1 g1 (hl k) B1 cn e1 N1 (Nat.le_refl _) (D1.mono (by omega)) (b1.mono (by omega) (Nat.le_refl _)) ⟨hdev, fun b hb => ?_, fun i y hy => ?_, h.nm⟩
    · by_cases hv : ∃ x, n'.s.m x = some b
      · obtain ⟨x, hx⟩ := hv
        obtain ⟨y, old, h1, h2, h3, h4⟩ := hdone x b (hin x b hx) hx
        obtain ⟨old', h5, h6⟩ := hsy x b hx
        rw [h2] at h5
        cases h5
        exact ⟨y, h1, by rw [h3, h4]; exact h6⟩
      · have hv : ∀ x, n'.s.m x ≠ some b := fun x hx => hv ⟨x, hx⟩
        obtain ⟨y, h1, h2⟩ := hre b hb hv
        refine ⟨y, ?_, h2⟩
        rw [hrest _ fun x c _ hx hid => ?_]
        · exact h1
        · have := ids_inj hI.idn (hI.mT x c hx) hb hid
          exact hv x (this ▸ hx)
    · by_cases hv : ∃ x b, n'.s.m x = some b ∧ (n'.s.O b).id = i
      · obtain ⟨x, b, hx, hi⟩ := hv
        rw [← hi]
        exact (hI.idp b (hI.mT x b hx)).2
      · rw [hrest i fun x b _ hx hid => hv ⟨x, b, hx, hid⟩] at hy
        exact hnx i y hy
  | succ d ih =>
    intro j H1 g1 B1 hd hj e1 N1 D1 b1 o1 hdone hrest
    have hjl : j < n'.s.xs.length := by omega
    obtain ⟨b38, o38, hnp, hnc⟩ := o1.own.cells (i := j) hjl
    obtain ⟨ob, hob⟩ : ∃ ob, n'.s.m n'.s.xs[j] = some ob := by
      cases hc : n'.s.m n'.s.xs[j] with
      | none => exact absurd hc ((hI.mem _).1 (List.getElem_mem _))
      | some b => exact ⟨b, rfl⟩
    have hf : fnd n'.s n'.s.xs[j] = some ob := fnd_of (h.nm.m hI (by rw [hob]; simp)) hob
    have hobT := hI.mT _ _ hob
    have hfresh : ∀ x b, x ∈ n'.s.xs.take j → n'.s.m x = some b → (n'.s.O b).id ≠ (n'.s.O ob).id := by
      intro x b hx hb hid
      have hbb' := ids_inj hI.idn (hI.mT _ _ hb) hobT hid
      subst hbb'
      have hxx := hI.minj _ _ _ hb hob
      subst hxx
      obtain ⟨m, hm, hme⟩ := List.getElem_of_mem hx
      rw [List.getElem_take] at hme
      rw [List.length_take] at hm
      exact List.pairwise_iff_getElem.1 hI.xnd m j (by omega) hjl (by omega) hme
    obtain ⟨y, hy, hyop⟩ := hsy _ _ hob
    have hy1 : B1 (n'.s.O ob).id = some y := by rw [hrest _ hfresh]; exact hy
    apply f3_L11_of
    refine ⟨fun _ => ⟨b38, o38, hnp, by omega, by omega, _, hnc, ?_⟩, fun hx => by have := of_decide_eq_false hx; omega⟩
    have G1 := h.F.gl.ev e1 (UK.zero hk)
    refine (f21_ht G1 N1.st N1.pw hI.mT (nm := n'.s.xs[j])).mono fun v G2 ⟨he2, hv2⟩ => ?_
    subst he2
    rcases hv2 with ⟨hd', _⟩ | ⟨_, ⟨hnf, _⟩ | ⟨ob', un, hf', hv2, _⟩⟩
    · rw [hup] at hd'; cases hd'
    · rw [hf] at hnf; cases hnf
    rw [hf] at hf'
    cases hf'
    refine ⟨_, _, _, _, _, hv2, fun _ => ⟨by omega, by omega, _, h.ocell e1, ?_⟩⟩
    obtain ⟨es, ck, hm, hlk⟩ := b1.look (n'.s.O ob).id
    rw [hy1] at hlk
    refine ⟨mb k, es, ck, rfl, hm, _, hlk, ?_⟩
    have hP := b1.ps _ _ hy1
    have hcd := cd_le (k := k) (c := y.c)
    refine (f25_ht e1.ok hP (by omega)).mono fun v H3 ⟨hv3, g3, e3, p3⟩ => ⟨hv3, ?_⟩
    have e03 : Ev (UK k) H g H3 g3 := e1.trans (e3.mono fun tg h => .inr (.inr (.inr (.inr (.inr (.inr (.inr ⟨_, h⟩)))))))
    refine ⟨h.ocell e03, ?_⟩
    rw [wrapS (by omega)]
    have N3 := N1.evG hI.pos e3 SpB.zero fun tg ht hc => by
      have h1 := ht.rng ⟨by omega, by omega⟩
      have h2 := hc.1
      have h3 := hc.2
      omega
    have D3 := D1.ev e3 SpB.zero (fun hc => by have := hc.2; simp at this) fun s hc => by have := hc.1; simp [eB] at this; omega
    have b3 := b1.upd (bd' := bk) hy1 e3 SpB.zero (fun hc => by have := hc.2; simp at this) (fun c _ hcc tg ht hc => hcc (cd_inj (ht.1.symm.trans hc.1))) (Nat.le_refl _) p3
    have htk : n'.s.xs.take (j + 1) = n'.s.xs.take j ++ [n'.s.xs[j]] := take_succ hjl
    refine ih (j + 1) H3 g3 _ (by omega) (by omega) e03 N3 D3 b3 (o1.ev e3 SpB.zero) (fun x b hx hb => ?_) (fun i hi => ?_)
    · rw [htk] at hx
      rcases List.mem_append.1 hx with hx | hx
      · obtain ⟨y1, old, h1, h2, h3, h4⟩ := hdone x b hx hb
        refine ⟨y1, old, ?_, h2, h3, h4⟩
        unfold Bset
        rw [if_neg (hfresh x b hx hb)]
        exact h1
      · rw [List.mem_singleton.1 hx] at hb
        rw [hob] at hb
        cases hb
        exact ⟨_, y, by unfold Bset; rw [if_pos rfl], hy, rfl, rfl⟩
    · have h1 : i ≠ (n'.s.O ob).id := fun hc => hi n'.s.xs[j] ob (by rw [htk]; exact List.mem_append_right _ (List.mem_singleton.2 rfl)) hob hc.symm
      unfold Bset
      rw [if_neg h1]
      exact hrest i fun x b hx hb => hi x b (by rw [htk]; exact List.mem_append_left _ hx) hb

end

end Go.Proofs.Qxb6500695aGreatFmt
