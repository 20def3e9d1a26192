/-
  CrashKeeps: BEHIND ANY STEP.
-/
import Derived.Test.Qxb6500695aGreatFmtKt
namespace Go.Proofs.Qxb6500695aGreatFmt
open Go Go.Eng Go.Proofs
set_option maxRecDepth 100000
set_option linter.unusedVariables false
set_option linter.unusedSimpArgs false
set_option linter.unusedSectionVars false

section
variable {S : Nat × Int → Prop} {H H1 H2 H' : Heap} {g g1 g2 g' : Gh} {E : Nat → Value} {sp : Option Addr} {sn : Nat} {ops : List OpV} {rb d4 o5 : Nat} {p : Nat → SlP} {mb : Nat → Nat} {bd M bk cn k nb pwb dvb sb wb : Nat} {nd : Nat → NdV} {hl : Nat → Nat → List Sv} {B : Nat → Int → Option Bk} {n' : NdV} {X : Heap → Prop}
variable {x70 : Option Addr} {x70n x70c : Nat} {x71 x72 : Int} {R : Value → Heap → Prop}
variable {m v4 v5 v6 v7 : Int} {v2 v3 p18 : Option Addr} {v2n v2c v3n v3c : Nat} {tr : List Ask} {op : OpV}

theorem fnd_same {s s' : StV} {x : ByteArray} (h : s'.m = s.m) : fnd s' x = fnd s x := by
  unfold fnd
  rw [h]

theorem f3_L6_ht (h : AP E sp sn ops rb d4 o5 p mb H g bd M bk cn nd hl B k nb pwb dvb sb n' H2 g2) (hcl : Cl p mb H g bd bk cn k nb pwb dvb sb n' (f3_L13 (some ⟨rb, 0, none⟩) d4 o5 x70 x70n x70c x71 x72 · R)) (hE : ENe E) (hM : M + 4 < 2 ^ 28)
    (hst : StepR E (shS k) (shN k) (shC k) op (nd k) .nilIface m n' tr) (h15 : op.kd ≠ 15) (h16 : op.kd ≠ 16) (hop : OpOk H2 g2 op) (hW : op.kd = 18 → WtM wb tr (fun _ => False) H2 g2)
    (hp18 : ∀ b y, n'.pw.down = false → fnd n'.s op.nm = some b → B k (n'.s.O b).id = some y → p18 = some ⟨y.pb, 0, none⟩) :
    f3_L6 (some ⟨rb, 0, none⟩) d4 o5 op.kd op.node op.nm op.to op.off op.n op.dp op.dn op.dc op.pp op.pn op.pc (k : Int) (some ⟨dvb, 0, none⟩) (some ⟨sb, 0, none⟩) (shS k : Int) (some ⟨wb, 0, none⟩) .nilIface m v2 v2n v2c v3 v3n v3c v4 v5 v6 v7 p18 x70 x70n x70c x71 x72 H2 R := by
  have hk := h.hk
  have hbb := h.bb
  obtain ⟨s0, s16, sc12, sn12⟩ := sh_ok (k := k)
  have hm : shC k * shS k ≤ 12 * 16 := Nat.mul_le_mul sc12 s16
  have hmn : shN k * shS k ≤ 12 * 16 := Nat.mul_le_mul sn12 s16
  have N0 := h.F.rk.nodeAt hk h.nat
  have I0 := h.F.ri k hk
  have ni := h.F.ni k hk
  obtain ⟨plb, qd, _, hpl⟩ := N0.dv.ex
  have hdl := hop.data.len
  have hob := hop.offb
  have hdb := hop.db
  by_cases k18 : op.kd = 18
  · rw [k18]
    exact f3_L6_18 h hcl (hst.k18 k18) (hW k18) hM
  by_cases k0 : op.kd = 0
  · obtain ⟨hup, hs, o, ho, hle, hD⟩ := hst.k0 k0 rfl
    rw [k0, ho]
    apply f3_L6_of
    refine ⟨fun _ => ⟨_, binIs_quo (P := Tryz.prog) (t := 2) (x := .tmp 127) (y := .tmp 128) (by omega), ?_⟩, fun h => absurd h (by decide)⟩
    have hdle : o / shS k ≤ o := Nat.div_le_self _ _
    have hq : IntKind.wrap .i64 (Int.tdiv (o : Int) (shS k : Int)) = ((o / shS k : Nat) : Int) := by
      have : Int.tdiv (o : Int) (shS k : Int) = ((o / shS k : Nat) : Int) := by simp [Int.ofNat_tdiv]
      rw [this]
      clear this
      generalize o / shS k = q at *
      exact wrapI (by omega) (by omega)
    rw [hq]
    refine f3_L7_ht (off := o) h hup hcl (by omega) (by omega) (fun j hj => ?_) (by rw [hs]; exact ni.op) (by rw [hs]; exact ni.nx) _ (o / shS k) H2 g2 (hl k) rfl (Nat.le_refl _) (.inl rfl) h.ev h.N (h.D.mono (by omega)) h.B (fun j hj => by rw [if_neg (by omega)])
    rw [hD, wrF_hs s0, ← hdl, ni.dev j hj]
  by_cases k2 : op.kd = 2
  · obtain ⟨hup, hsame, hcl2, hdur⟩ := hst.k2 k2 rfl hE
    rw [k2]
    apply f3_L6_of
    refine ⟨fun h => absurd h (by decide), fun _ => ⟨fun _ => ⟨by omega, by omega, _, _, _, h.dcell h.ev, ?_⟩, fun h => absurd h (by decide)⟩⟩
    refine f3_L9_ht h hcl (fun j hj => ?_) (by rw [hsame]; exact ni.op) (by rw [hsame]; exact ni.nx) _ 0 H2 g2 (hl k) rfl (Nat.zero_le _) h.ev h.N h.D h.B (fun j hj => by rw [if_neg (by omega)])
    rw [ni.dev j hj, hs_seen_clean hcl2]
    obtain ⟨x, hx1, hx2⟩ := drop_last (L := hs (shS k) (nd k).D j) (by unfold hs; simp)
    rw [hx2]
    have := hs_last (ss := shS k) hpl.ps j
    rw [hx1] at this
    rw [Option.some.inj this, seen_sO, seen_sO, lat_clean hcl2, hdur]
  by_cases k3 : op.kd = 3
  · obtain ⟨hup, hD, hvn, i, b, pb, hbT, hs⟩ := hst.k3 k3 rfl hE
    have hm' : n'.s.m op.nm = some b := by rw [hs]; exact mset_eq
    have hf : fnd n'.s op.nm = some b := fnd_of hvn hm'
    have hOb : n'.s.O b = newOb (((nd k).s.nxt + 1 : Nat) : Int) pb := by rw [hs]; exact oset_same
    have hOo : ∀ x, x ∈ (nd k).s.T → n'.s.O x = (nd k).s.O x := fun x hx => by
      rw [hs]
      show oset _ b _ x = _
      simp only [oset]
      rw [if_neg (fun hc : x = b => hbT (hc ▸ hx))]
    have hnxt : n'.s.nxt = (nd k).s.nxt + 1 := by rw [hs]; rfl
    have hT : n'.s.T = (nd k).s.T ++ [b] := by rw [hs]; rfl
    have hid : (n'.s.O b).id = (((nd k).s.nxt + 1 : Nat) : Int) := by rw [hOb]; rfl
    have hnone : B k (n'.s.O b).id = none := by
      cases hc : B k (n'.s.O b).id with
      | none => rfl
      | some y => have := ni.nx _ _ hc; rw [hid] at this; omega
    rw [k3]
    apply f3_L6_of
    refine ⟨fun h => absurd h (by decide), fun _ => ⟨fun h => absurd h (by decide), fun _ => ⟨fun _ => ?_, fun h => absurd h (by decide)⟩⟩⟩
    refine (f21_ht h.gl h.N.st h.N.pw h.I.mT (nm := op.nm)).mono fun v G ⟨he, hv⟩ => ?_
    subst he
    rcases hv with ⟨hd', _⟩ | ⟨_, ⟨hnf, _⟩ | ⟨b', un, hf', hv, _⟩⟩
    · rw [hup] at hd'; cases hd'
    · rw [hf] at hnf; cases hnf
    rw [hf] at hf'
    cases hf'
    refine ⟨_, _, _, _, _, hv, fun _ => ⟨_, binIs_if_neq (.inl rfl) Tryz.underlying48, (fun h => by cases h), fun _ => ⟨by omega, by omega, _, h.ocell h.ev, ?_⟩⟩⟩
    obtain ⟨es, ck, hmm, hlk⟩ := h.B.look (n'.s.O b).id
    rw [hnone] at hlk
    refine ⟨mb k, es, ck, rfl, hmm, _, hlk, _, binIs_ptr_neq Tryz.underlying56, ?_⟩
    refine f3_L10_ht h hcl fun pb' => ⟨fun i hi => by rw [hD]; exact ni.dev i hi, fun c hc => ?_, fun i y hy => ?_, h.nm⟩
    · rw [hT] at hc
      rcases List.mem_append.1 hc with hc | hc
      · obtain ⟨y, h1, h2⟩ := ni.op c hc
        rw [hOo c hc]
        refine ⟨y, ?_, h2⟩
        unfold Bset
        rw [if_neg (fun hx => ?_)]
        · exact h1
        · have := (I0.idp c hc).2
          rw [hid] at hx
          omega
      · rw [List.mem_singleton.1 hc]
        exact ⟨_, by unfold Bset; rw [if_pos rfl], by rw [hOb]; exact OP.new s0⟩
    · unfold Bset at hy
      rw [hnxt]
      split at hy
      · rename_i hi; rw [hi, hid]; exact Int.le_refl _
      · have := ni.nx i y hy; omega
  by_cases k4 : op.kd = 4
  · obtain ⟨hup, hD, b, o, ho, hf0, hput⟩ := hst.k4 k4 rfl hE
    obtain ⟨q1, q2, q3, q4, q5⟩ := put_O hput
    have hf : fnd n'.s op.nm = some b := by rw [fnd_same q2]; exact hf0
    have hb0 := fnd_T I0.mT hf0
    have hlast := (I0.num b (I0.mh _ _ (fnd_some hf0).2)).last
    obtain ⟨y, hy0, hopp⟩ := ni.op b hb0
    have hid : (n'.s.O b).id = ((nd k).s.O b).id := by
      rcases q5 with ⟨_, hs⟩ | ⟨_, _, r, hO⟩
      · rw [hs]
      · rw [hO]; unfold wrOb; split
        · exact setSize_id
        · rfl
    have hy : B k (n'.s.O b).id = some y := by rw [hid]; exact hy0
    rw [k4, hp18 b y hup hf hy, ho]
    have hw : IntKind.wrap .i64 ((o : Int) + (op.dn : Int)) = ((o + op.dn : Nat) : Int) := by
      rcases q5 with ⟨hd, _⟩ | ⟨_, hle, _⟩
      · rw [hd] at hdl; simp at hdl; rw [hdl, wrapI] <;> omega
      · rw [wrapI] <;> omega
    apply f3_L6_of
    refine ⟨fun h => absurd h (by decide), fun _ => ⟨fun h => absurd h (by decide), fun _ => ⟨fun h => absurd h (by decide), fun _ => ⟨fun _ => ?_, fun h => absurd h (by decide)⟩⟩⟩⟩
    rw [hw]
    refine h.note hcl hup hf hy (by omega) (fun hlt => ?_) ?_ (fun i hi => by rw [hD]; exact ni.dev i hi) (fun c hc hcb => by rw [q1] at hc; rw [q4 c hcb]; exact ni.op c hc) (fun i x hx => by rw [q3]; exact ni.nx i x hx)
    · rcases q5 with ⟨hd, _⟩ | ⟨_, hle, _⟩
      · rw [hd] at hdl; simp at hdl; omega
      · omega
    · rcases q5 with ⟨hd, hs⟩ | ⟨hd, hle, r, hO⟩
      · rw [hd] at hdl
        simp at hdl
        rw [hdl, Nat.add_zero, hs]
        exact hopp.same hlast
      · rw [hO, hdl]
        exact (hopp.res (r := r)).write s0 hlast (sized_ssz (N0.st.obs b hb0).pl.sized) hd
  by_cases k5 : op.kd = 5
  · obtain ⟨hup, hD, b, hf0, hme, hput⟩ := hst.k5 k5 rfl hE
    obtain ⟨q1, q2, q3, q4, q5⟩ := put_O hput
    have hf : fnd n'.s op.nm = some b := by rw [fnd_same q2]; exact hf0
    have hb0 := fnd_T I0.mT hf0
    have hfit := (N0.st.obs b hb0).fit.1
    have hlast := (I0.num b (I0.mh _ _ (fnd_some hf0).2)).last
    obtain ⟨y, hy0, hopp⟩ := ni.op b hb0
    have hid : (n'.s.O b).id = ((nd k).s.O b).id := by
      rcases q5 with ⟨_, hs⟩ | ⟨_, _, r, hO⟩
      · rw [hs]
      · rw [hO]; unfold wrOb; split
        · exact setSize_id
        · rfl
    have hy : B k (n'.s.O b).id = some y := by rw [hid]; exact hy0
    rw [k5, hp18 b y hup hf hy, hme]
    have hw : IntKind.wrap .i64 ((((nd k).s.O b).size : Int) + (op.dn : Int)) = ((((nd k).s.O b).size + op.dn : Nat) : Int) := by rw [wrapI] <;> omega
    apply f3_L6_of
    refine ⟨fun h => absurd h (by decide), fun _ => ⟨fun h => absurd h (by decide), fun _ => ⟨fun h => absurd h (by decide), fun _ => ⟨fun h => absurd h (by decide), fun _ => ⟨fun _ => ?_, fun h => absurd h (by decide)⟩⟩⟩⟩⟩
    rw [hw]
    refine h.note hcl hup hf hy (by omega) (fun hlt => ?_) ?_ (fun i hi => by rw [hD]; exact ni.dev i hi) (fun c hc hcb => by rw [q1] at hc; rw [q4 c hcb]; exact ni.op c hc) (fun i x hx => by rw [q3]; exact ni.nx i x hx)
    · rcases q5 with ⟨hd, _⟩ | ⟨_, hle, _⟩
      · rw [hd] at hdl; simp at hdl; omega
      · omega
    · rcases q5 with ⟨hd, hs⟩ | ⟨hd, hle, r, hO⟩
      · rw [hd] at hdl
        simp at hdl
        rw [hdl, Nat.add_zero, hs]
        exact hopp.same hlast
      · rw [hO, hdl]
        exact (hopp.res (r := r)).write s0 hlast (sized_ssz (N0.st.obs b hb0).pl.sized) hd
  by_cases k6 : op.kd = 6
  · obtain ⟨hup, hD, b, z, hz, hf0, htr⟩ := hst.k6 k6 rfl hE
    obtain ⟨q1, q2, q3, q4, q5, r, hO⟩ := trunc_O htr
    have hf : fnd n'.s op.nm = some b := by rw [fnd_same q2]; exact hf0
    have hb0 := fnd_T I0.mT hf0
    have hfit := (N0.st.obs b hb0).fit.1
    have hlast := (I0.num b (I0.mh _ _ (fnd_some hf0).2)).last
    obtain ⟨y, hy0, hopp⟩ := ni.op b hb0
    have hid : (n'.s.O b).id = ((nd k).s.O b).id := by
      rw [hO]
      unfold truncOb
      rw [setSize_id]
      split <;> rfl
    have hy : B k (n'.s.O b).id = some y := by rw [hid]; exact hy0
    have hlz : lastZ y.zs = ((nd k).s.O b).size := hopp.last hlast
    rw [k6, hp18 b y hup hf hy, hz]
    apply f3_L6_of
    refine ⟨fun h => absurd h (by decide), fun _ => ⟨fun h => absurd h (by decide), fun _ => ⟨fun h => absurd h (by decide), fun _ => ⟨fun h => absurd h (by decide), fun _ => ⟨fun h => absurd h (by decide), fun _ => ⟨fun _ => ?_, fun h => absurd h (by decide)⟩⟩⟩⟩⟩⟩
    refine (f24_ht (h.B.ps _ _ hy) (by omega)).mono fun v G ⟨he, hv⟩ => ⟨_, hv, ?_⟩
    subst he
    rw [hlz]
    refine h.note hcl hup hf hy (by omega) (fun hlt => hfit) ?_ (fun i hi => by rw [hD]; exact ni.dev i hi) (fun c hc hcb => by rw [q1] at hc; rw [q4 c hcb]; exact ni.op c hc) (fun i x hx => by rw [q3]; exact ni.nx i x hx)
    rw [hO]
    exact (hopp.res (r := r)).trunc s0 hlast (sized_ssz (N0.st.obs b hb0).pl.sized)
  by_cases k10 : op.kd = 10
  · obtain ⟨hup, hD, b, P', hf0, hh, hs⟩ := hst.k10 k10 rfl hE
    have hm' : n'.s.m = (nd k).s.m := by rw [hs]; rfl
    have hT : n'.s.T = (nd k).s.T := by rw [hs]; rfl
    have hf : fnd n'.s op.nm = some b := by rw [fnd_same hm']; exact hf0
    have hb0 := fnd_T I0.mT hf0
    have hO : n'.s.O b = hardOb (shS k) ((nd k).s.O b) P' := by rw [hs]; exact oset_same
    have hOo : ∀ x, x ≠ b → n'.s.O x = (nd k).s.O x := fun x hx => by
      rw [hs]
      show oset _ b _ x = _
      simp only [oset]
      rw [if_neg hx]
    have hlast := (I0.num b (I0.mh _ _ (fnd_some hf0).2)).last
    obtain ⟨y, hy0, hopp⟩ := ni.op b hb0
    have hy : B k (n'.s.O b).id = some y := by rw [hO]; exact hy0
    have hObs := N0.st.obs b hb0
    rw [k10, hp18 b y hup hf hy]
    apply f3_L6_of
    refine ⟨fun h => absurd h (by decide), fun _ => ⟨fun h => absurd h (by decide), fun _ => ⟨fun h => absurd h (by decide), fun _ => ⟨fun h => absurd h (by decide), fun _ => ⟨fun h => absurd h (by decide), fun _ => ⟨fun h => absurd h (by decide), fun _ => ⟨fun _ => ?_, fun h => absurd h (by decide)⟩⟩⟩⟩⟩⟩⟩
    refine h.synced hcl (by rw [hT]; exact hb0) hy ?_ (fun i hi => by rw [hD]; exact ni.dev i hi) (fun c hc hcb => by rw [hT] at hc; rw [hOo c hcb]; exact ni.op c hc) (fun i x hx => by rw [hs]; exact ni.nx i x hx)
    rw [hO, hopp.last hlast]
    exact hopp.sync s0 (sized_ssz hObs.pl.sized) hObs.pl.ps hh
  by_cases k12 : op.kd = 12
  · obtain ⟨hup, hD, bs, hha, hbn, hbs⟩ := hst.k12 k12 rfl hE
    obtain ⟨a1, a2, a3, a4, a5, a6, a7⟩ := hha.same
    have hO := hha.fates hbn
    have hlen := h.I.len
    rw [k12]
    apply f3_L6_of
    refine ⟨fun h => absurd h (by decide), fun _ => ⟨fun h => absurd h (by decide), fun _ => ⟨fun h => absurd h (by decide), fun _ => ⟨fun h => absurd h (by decide), fun _ => ⟨fun h => absurd h (by decide), fun _ => ⟨fun h => absurd h (by decide), fun _ => ⟨fun h => absurd h (by decide), fun _ => ⟨fun _ => ?_, fun h => absurd h (by decide)⟩⟩⟩⟩⟩⟩⟩⟩
    refine (f26all_ht h.ev.ok h.gl h.N.st h.N.pw h.I.srt (by omega) hup).mono fun v H3 ⟨np, nn, nc, g3, hv3, e3, o3⟩ => ⟨np, nn, nc, .nilIface, hv3, ?_⟩
    have e03 : Ev (UK k) H g H3 g3 := h.ev.trans (e3.mono fun tg h => h.elim)
    refine f3_L11_ht h hcl hup hM (fun x b hx => ?_) (fun b hb hv => ?_) (fun i hi => by rw [hD]; exact ni.dev i hi) (fun i x hx => by rw [a6]; exact ni.nx i x hx) o3.own.len _ 0 H3 g3 (B k) rfl (Nat.zero_le _) e03 (h.N.off e3 none_offN) (h.D.ev e3 (fun h => h) (fun h => h) fun _ h => h) (h.B.ev e3 (fun h => h) (fun h => h) fun _ _ _ _ h => h) o3 (fun x b hx => by cases hx) (fun i _ => rfl)
    · have hx0 : (nd k).s.m x = some b := by rw [a2] at hx; exact hx
      have hb0 := I0.mT x b hx0
      obtain ⟨y, hy0, hopp⟩ := ni.op b hb0
      obtain ⟨P', hp, hOb⟩ := hO.1 b ((hbs b).2 ⟨x, hx0⟩)
      have hObs := N0.st.obs b hb0
      have hlast := (I0.num b (I0.mh _ _ hx0)).last
      refine ⟨y, by rw [a7]; exact hy0, ?_⟩
      rw [hOb, hopp.last hlast]
      exact hopp.sync s0 (sized_ssz hObs.pl.sized) hObs.pl.ps hp
    · have hb0 : b ∈ (nd k).s.T := by rw [a1] at hb; exact hb
      obtain ⟨y, hy0, hopp⟩ := ni.op b hb0
      refine ⟨y, by rw [a7]; exact hy0, ?_⟩
      rw [hO.2 b fun hc => ?_]
      · exact hopp
      · obtain ⟨x, hx⟩ := (hbs b).1 hc
        exact hv x (by rw [a2]; exact hx)
  -- all other steps
  have hq : Quiet (nd k) n' := hst.quiet hE h15 h16 k18 (.inr ⟨k0, k2, k3, k4, k5, k6, k10, k12⟩)
  apply f3_L6_of
  have nb' : ∀ {z : Int}, op.kd ≠ z → ¬ ((op.kd == z) = true) := fun hz hc => hz (by simpa using hc)
  exact ⟨fun h => absurd h (nb' k0), fun _ => ⟨fun h => absurd h (nb' k2), fun _ => ⟨fun h => absurd h (nb' k3), fun _ => ⟨fun h => absurd h (nb' k4), fun _ => ⟨fun h => absurd h (nb' k5), fun _ => ⟨fun h => absurd h (nb' k6), fun _ => ⟨fun h => absurd h (nb' k10), fun _ => ⟨fun h => absurd h (nb' k12), fun _ => ⟨fun h => absurd h (nb' k18), fun _ => h.quiet hcl hq⟩⟩⟩⟩⟩⟩⟩⟩⟩

end

end Go.Proofs.Qxb6500695aGreatFmt
