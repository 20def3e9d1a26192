/-
  PLAY.
-/
import Derived.Test.Qxb6500695aGreatFmtNe
namespace Go.Proofs.Qxb6500695aGreatFmt
open Go Go.Eng Go.Proofs
set_option maxRecDepth 100000
set_option linter.unusedVariables false
set_option linter.unusedSimpArgs false
set_option linter.unusedSectionVars false

section bld
variable {x : Value} {R : Value → Prop}

theorem bld1 (hx : IsI x) (hR : R (ansV x 0 none 0 0 none 0 0 0 0 0 0)) : ∃ (x0 : Value), ∃ (x1 : Int), ∃ (x2 : Option Addr) (x2n x2c : Nat), ∃ (x3 : Option Addr) (x3n x3c : Nat), ∃ (x4 : Int), ∃ (x5 : Int), ∃ (x6 : Int), ∃ (x7 : Int), BuildIs Tryz.prog 54 #[(0, x)] (.agg #[x0, .int .i64 x1, .slice x2 x2n x2c, .slice x3 x3n x3c, .int .u64 x4, .int .i64 x5, .int .i64 x6, .int .i64 x7]) ∧ (x0.oneCell' = true ∧ R (.agg #[x0, .int .i64 x1, .slice x2 x2n x2c, .slice x3 x3n x3c, .int .u64 x4, .int .i64 x5, .int .i64 x6, .int .i64 x7])) :=
  ⟨_, _, _, _, _, _, _, _, _, _, _, _, build1 hx, isI_one hx, hR⟩

theorem bld2 {n : Int} (hx : IsI x) (hR : R (ansV x n none 0 0 none 0 0 0 0 0 0)) : ∃ (x0 : Value), ∃ (x1 : Int), ∃ (x2 : Option Addr) (x2n x2c : Nat), ∃ (x3 : Option Addr) (x3n x3c : Nat), ∃ (x4 : Int), ∃ (x5 : Int), ∃ (x6 : Int), ∃ (x7 : Int), BuildIs Tryz.prog 54 #[(0, x), (1, .int .i64 n)] (.agg #[x0, .int .i64 x1, .slice x2 x2n x2c, .slice x3 x3n x3c, .int .u64 x4, .int .i64 x5, .int .i64 x6, .int .i64 x7]) ∧ (x0.oneCell' = true ∧ R (.agg #[x0, .int .i64 x1, .slice x2 x2n x2c, .slice x3 x3n x3c, .int .u64 x4, .int .i64 x5, .int .i64 x6, .int .i64 x7])) :=
  ⟨_, _, _, _, _, _, _, _, _, _, _, _, build2 hx, isI_one hx, hR⟩

theorem bld3 {n : Int} {p : Option Addr} {pn pc : Nat} (hx : IsI x) (hR : R (ansV x n p pn pc none 0 0 0 0 0 0)) : ∃ (x0 : Value), ∃ (x1 : Int), ∃ (x2 : Option Addr) (x2n x2c : Nat), ∃ (x3 : Option Addr) (x3n x3c : Nat), ∃ (x4 : Int), ∃ (x5 : Int), ∃ (x6 : Int), ∃ (x7 : Int), BuildIs Tryz.prog 54 #[(0, x), (1, .int .i64 n), (2, .slice p pn pc)] (.agg #[x0, .int .i64 x1, .slice x2 x2n x2c, .slice x3 x3n x3c, .int .u64 x4, .int .i64 x5, .int .i64 x6, .int .i64 x7]) ∧ (x0.oneCell' = true ∧ R (.agg #[x0, .int .i64 x1, .slice x2 x2n x2c, .slice x3 x3n x3c, .int .u64 x4, .int .i64 x5, .int .i64 x6, .int .i64 x7])) :=
  ⟨_, _, _, _, _, _, _, _, _, _, _, _, build3 hx, isI_one hx, hR⟩

theorem bld4 {a b c d : Int} (hx : IsI x) (hR : R (ansV x 0 none 0 0 none 0 0 a b c d)) : ∃ (x0 : Value), ∃ (x1 : Int), ∃ (x2 : Option Addr) (x2n x2c : Nat), ∃ (x3 : Option Addr) (x3n x3c : Nat), ∃ (x4 : Int), ∃ (x5 : Int), ∃ (x6 : Int), ∃ (x7 : Int), BuildIs Tryz.prog 54 #[(0, x), (4, .agg #[.int .u64 a, .int .i64 b, .int .i64 c, .int .i64 d])] (.agg #[x0, .int .i64 x1, .slice x2 x2n x2c, .slice x3 x3n x3c, .int .u64 x4, .int .i64 x5, .int .i64 x6, .int .i64 x7]) ∧ (x0.oneCell' = true ∧ R (.agg #[x0, .int .i64 x1, .slice x2 x2n x2c, .slice x3 x3n x3c, .int .u64 x4, .int .i64 x5, .int .i64 x6, .int .i64 x7])) :=
  ⟨_, _, _, _, _, _, _, _, _, _, _, _, build4 hx, isI_one hx, hR⟩

theorem bld5 {p : Option Addr} {pn pc : Nat} (hx : IsI x) (hR : R (ansV x 0 none 0 0 p pn pc 0 0 0 0)) : ∃ (x0 : Value), ∃ (x1 : Int), ∃ (x2 : Option Addr) (x2n x2c : Nat), ∃ (x3 : Option Addr) (x3n x3c : Nat), ∃ (x4 : Int), ∃ (x5 : Int), ∃ (x6 : Int), ∃ (x7 : Int), BuildIs Tryz.prog 54 #[(0, x), (3, .slice p pn pc)] (.agg #[x0, .int .i64 x1, .slice x2 x2n x2c, .slice x3 x3n x3c, .int .u64 x4, .int .i64 x5, .int .i64 x6, .int .i64 x7]) ∧ (x0.oneCell' = true ∧ R (.agg #[x0, .int .i64 x1, .slice x2 x2n x2c, .slice x3 x3n x3c, .int .u64 x4, .int .i64 x5, .int .i64 x6, .int .i64 x7])) :=
  ⟨_, _, _, _, _, _, _, _, _, _, _, _, build5 hx, isI_one hx, hR⟩

end bld

/-- What play leaves. -/
def playPost (E : Nat → Value) (H0 : Heap) (g0 : Gh) (rb bd : Nat) (nd : Nat → NdV) (op : OpV) (v : Value) (H' : Heap) : Prop :=
  ∃ (e : Value) (m : Int) (dp : Option Addr) (dn dc : Nat) (np : Option Addr) (nn nc : Nat) (i1 i2 i3 i4 : Int) (n' : NdV) (tr : List Ask) (g' : Gh), v = ansV e m dp dn dc np nn nc i1 i2 i3 i4 ∧ errV E e ∧ Ev (SpK (nodeOf op.node : Int)) H0 g0 H' g' ∧
    RkR H' g' rb (bd + 80) (ndset nd (nodeOf op.node) n') ∧ StepR E (shS (nodeOf op.node)) (shN (nodeOf op.node)) (shC (nodeOf op.node)) op (nd (nodeOf op.node)) e m n' tr

section
variable {H : Heap} {g : Gh} {rb bd M : Nat} {nd : Nat → NdV} {E : Nat → Value} {op : OpV}

theorem readR.shape {P : Pw} {s : StV} {nm : ByteArray} {off : Int} {n : Nat} {v : Value} (h : readR E P s nm off n v) : ∃ (m : Nat) (e : Value), v = .tuple #[.int .i64 (m : Int), e] ∧ m ≤ n ∧ errV E e := by
  rcases h with ⟨_, h⟩ | ⟨_, ⟨_, h⟩ | ⟨b, _, ⟨_, h⟩ | ⟨o, _, _, h⟩⟩⟩
  · exact ⟨0, _, h, Nat.zero_le _, .inr ⟨0, by decide, by decide, rfl⟩⟩
  · exact ⟨0, _, h, Nat.zero_le _, errV.fe⟩
  · exact ⟨0, _, h, Nat.zero_le _, .inr ⟨3, by decide, by decide, rfl⟩⟩
  · refine ⟨_, _, h, Nat.min_le_left _ _, ?_⟩
    split
    · exact .inl rfl
    · exact .inr ⟨6, by decide, by decide, rfl⟩

theorem dreadR.shape {ss ns : Nat} {P : Pw} {off : Int} {n : Nat} {v : Value} (h : dreadR ss ns E P off n v) : ∃ (m : Nat) (e : Value), v = .tuple #[.int .i64 (m : Int), e] ∧ m ≤ n ∧ errV E e := by
  rcases h with ⟨e, h, he, _⟩ | ⟨_, o, _, _, h⟩
  · exact ⟨0, e, h, Nat.zero_le _, he⟩
  · refine ⟨_, _, h, Nat.min_le_left _ _, ?_⟩
    split
    · exact .inl rfl
    · exact .inr ⟨6, by decide, by decide, rfl⟩

theorem wsecR.err {ss ns : Nat} {P : Pw} {D D' : Pl} {i : Int} {src : List Int} {v : Value} (h : wsecR ss ns E P D i src v D') : errV E v := by
  rcases h with ⟨h, _⟩ | ⟨_, h, _⟩
  · exact h
  · exact .inl h

theorem wdevR.shape {ss ns : Nat} {P : Pw} {D D' : Pl} {off : Int} {src : List Int} {v : Value} (h : wdevR ss ns E P D off src v D') : ∃ (m : Int) (e : Value), v = .tuple #[.int .i64 m, e] ∧ errV E e := by
  rcases h with ⟨m, e, h, he, _⟩ | ⟨_, h, _⟩
  · exact ⟨m, e, h, he⟩
  · exact ⟨_, _, h, .inl rfl⟩

theorem dsyncR.err {P : Pw} {D D' : Pl} {v : Value} (h : dsyncR E P D v D') : errV E v := by
  rcases h with ⟨h, _⟩ | ⟨_, h, _⟩
  · exact .inr ⟨0, by decide, by decide, h⟩
  · exact .inl h

theorem statV.shape {P : Pw} {s : StV} {nm : ByteArray} {v : Value} (h : statV E P s nm v) : ∃ (a b c d : Int) (e : Value), v = .tuple #[.agg #[.int .u64 a, .int .i64 b, .int .i64 c, .int .i64 d], e] ∧ errV E e := by
  rcases h with ⟨_, h⟩ | ⟨_, ⟨_, h⟩ | ⟨b, n, _, h, _⟩⟩
  · exact ⟨_, _, _, _, _, h, .inr ⟨0, by decide, by decide, rfl⟩⟩
  · exact ⟨_, _, _, _, _, h, errV.fe⟩
  · exact ⟨_, _, _, _, _, h, .inl rfl⟩

theorem pubR.err {ss cap : Nat} {temp final : ByteArray} {data : List Int} {P P' : Pw} {s s' : StV} {v : Value} (h : pubR ss cap E temp final data P s v s' P') : errV E v := by
  rcases h with ⟨_, h, _⟩ | ⟨_, ⟨_, h, _⟩ | ⟨_, _, ⟨_, h, _⟩ | ⟨_, v1, s1, h1, hr⟩⟩⟩
  · exact .inr ⟨0, by decide, by decide, h⟩
  · exact .inr ⟨4, by decide, by decide, h⟩
  · exact .inr ⟨2, by decide, by decide, h⟩
  · rcases hr with ⟨_, h, _⟩ | ⟨_, n2, v2, s2, h2, hr⟩
    · rw [h]
      rcases h1 with ⟨_, h1⟩ | ⟨_, h1⟩
      · exact h1.err
      · exact h1.err
    · rcases hr with ⟨_, h, _⟩ | ⟨_, v3, s3, h3, hr⟩
      · obtain ⟨n', e, he, hx⟩ := h2.shape
        have : v2 = e := by
          have h9 := Value.tuple.inj he
          simp at h9
          exact h9.2
        rw [h, this]; exact hx
      · rcases hr with ⟨_, h, _⟩ | ⟨_, v4, s4, h4, hr⟩
        · rw [h]; exact h3.err
        · rcases hr with ⟨_, h, _⟩ | ⟨_, h5, _⟩
          · rw [h]; exact h4.err
          · exact h5.err

theorem f62_ht (n : Int) : HT Tryz.prog 62 [.int .i64 n] H fun v H' => H' = H ∧ v = .int .i64 (readLen n : Int) := by
  apply f62_of
  unfold readLen
  refine ⟨fun h => ⟨rfl, ?_⟩, fun h => ⟨fun h2 => ⟨rfl, ?_⟩, fun h2 => ⟨rfl, ?_⟩⟩⟩
  · rw [if_pos (of_decide_eq_true h)]; rfl
  · rw [if_neg (of_decide_eq_false h), if_pos (of_decide_eq_true h2)]; rfl
  · have h := of_decide_eq_false h
    have h2 := of_decide_eq_false h2
    rw [if_neg h, if_neg h2]
    congr 1
    omega

theorem readLen_le (n : Int) : readLen n ≤ 4096 := by
  unfold readLen
  split
  · omega
  · split
    · omega
    · omega

theorem f20_gen {pick : Value} {PP : Value → Heap → Prop} (hpp : ∀ v H', op.kd ≠ 18 → playPost E H g rb bd nd op v H' → PP v H') (hg : GOk H g) (hG : Gl H g E) (h : RkR H g rb bd nd) (hI : RkI M nd) (hM : M + 4 < 2 ^ 28) (hbd : bd + 160 < 2 ^ 31) (hop : OpOk H g op)
    (hcr : op.kd = 18 → ∀ nb, (∃ nbk : Nat → Nat, H rb = some (.cells #[.pointer (some ⟨nbk 0, 0, none⟩), .pointer (some ⟨nbk 1, 0, none⟩), .pointer (some ⟨nbk 2, 0, none⟩)] 125 (0, 0)) ∧ nbk (nodeOf op.node) = nb ∧ ∀ k, k < 3 → NdE H g k (nbk k) bd (nd k)) → ∃ (x269 : Bool), BinIs Tryz.prog .eql 140 (.tmp 268) (.const .nilIface) pick .nilIface (.bool x269) ∧ ((x269 = true → HT Tryz.prog 41 [.slice op.pp op.pn op.pc] H (fun v hp27 => ∃ (x272 : Option Addr), v = .pointer x272 ∧ (f20_L2 (.iface 94 (.pointer x272)) (.nilIface) 0 none 0 0 none 0 0 0 0 0 0 (some ⟨nb, 0, none⟩) hp27 PP))) ∧ (x269 = false → f20_L2 pick (.nilIface) 0 none 0 0 none 0 0 0 0 0 0 (some ⟨nb, 0, none⟩) H PP))) :
    HT Tryz.prog 20 [.pointer (some ⟨rb, 0, none⟩), .agg #[.int .u8 op.kd, .int .i64 op.node, .string op.nm, .string op.to, .int .i64 op.off, .int .i64 op.n, .slice op.dp op.dn op.dc, .slice op.pp op.pn op.pc], pick] H PP := by
  have hk3 := nodeOf_lt op.node
  have hdb := hop.db
  have hro := hop.offb
  apply f20_of
  intro _ _
  refine (f16_ht op.node).mono fun v H1 ⟨he, hv⟩ => ⟨_, hv, ?_⟩
  subst he
  obtain ⟨k, hkk⟩ : ∃ k, k = nodeOf op.node := ⟨_, rfl⟩
  rw [← hkk] at hk3 hcr ⊢
  refine (f12_ht h hk3).mono fun v H1 ⟨he, nb, hv, hnb⟩ => ⟨_, hv, ?_⟩
  subst he
  have hnbO := hnb
  obtain ⟨nbk, hrb, hnk, hnds⟩ := hnb
  obtain ⟨pwb, dvb, sb, hN⟩ := hnds k hk3
  rw [hnk] at hN
  have hIk := hI k hk3
  have hlk := hIk.len
  have hpos := hIk.pos
  have hk0 : (0 : Int) ≤ (k : Int) := by omega
  refine (f13_ht hN.nd).mono fun v H2 ⟨he, hv⟩ => ⟨_, hv, ?_⟩
  subst he
  refine (f17_ht hN.nd).mono fun v H3 ⟨he, hv⟩ => ⟨_, hv, ?_⟩
  subst he
  have hStN := hIk.toN (bd := bd) (by omega)
  have fin : ∀ {H' : Heap} {g' : Gh} {e : Value} {m : Int} {dp : Option Addr} {dn dc : Nat} {np : Option Addr} {nn nc : Nat} {i1 i2 i3 i4 : Int} {n' : NdV} {tr : List Ask} {bd' : Nat}, (Ev (SpK (k : Int)) H3 g H' g' ∧ NdR H' g' (k : Int) nb pwb dvb sb (shS k) (shN k) (shC k) bd' n') → bd ≤ bd' → bd' ≤ bd + 80 → errV E e → StepR E (shS k) (shN k) (shC k) op (nd k) e m n' tr → (hne : op.kd ≠ 18 := by omega) →
      PP (ansV e m dp dn dc np nn nc i1 i2 i3 i4) H' := by
    intro H' g' e m dp dn dc np nn nc i1 i2 i3 i4 n' tr bd' ⟨hev, hn⟩ hb1 hb2 he hs hne
    refine hpp _ _ hne ?_
    unfold playPost
    rw [← hkk]
    exact ⟨e, m, dp, dn, dc, np, nn, nc, i1, i2, i3, i4, n', tr, g', rfl, he, hev, h.upd hI hk3 hnbO hev ⟨pwb, dvb, sb, hn.mono hb2⟩ (by omega), hs⟩
  refine ⟨fun h0 => ?_, fun h0 => ⟨fun h1 => ?_, fun h1 => ⟨fun h2 => ?_, fun h2 => ⟨fun h3 => ?_, fun h3 => ⟨fun h4 => ?_, fun h4 => ⟨fun h5 => ?_, fun h5 => ⟨fun h6 => ?_, fun h6 => ⟨fun h7 => ?_, fun h7 => ⟨fun h8 => ?_, fun h8 => ⟨fun h9 => ?_, fun h9 => ⟨fun h10 => ?_, fun h10 => ⟨fun h11 => ?_, fun h11 => ⟨fun h12 => ?_, fun h12 => ⟨fun h13 => ?_, fun h13 => ⟨fun h14 => ?_, fun h14 => ⟨fun h15 => ?_, fun h15 => ⟨fun h16 => ?_, fun h16 => ⟨fun h17 => ?_, fun h17 => ⟨fun h18 => ?_, fun h18 => ?_⟩⟩⟩⟩⟩⟩⟩⟩⟩⟩⟩⟩⟩⟩⟩⟩⟩⟩⟩
  · have hkd : op.kd = 0 := by simpa using h0
    obtain ⟨plb, q, kd1, pl1⟩ := hN.dv.ex
    have hss := pl1.ssb
    have h15 : HT Tryz.prog 15 [.pointer (some ⟨dvb, 0, none⟩)] H3 fun v H' => H' = H3 ∧ v = .int .i64 (shS k : Int) := by
      apply f15_of
      exact ⟨dvb, 0, rfl, _, Cells.of kd1 rfl, rfl, rfl⟩
    refine h15.mono fun v H4 ⟨he4, hv4⟩ => ⟨_, hv4, ?_⟩
    subst he4
    have slow : f20_L1 op.kd op.node op.nm op.to op.off op.n op.dp op.dn op.dc op.pp op.pn op.pc (.nilIface) 0 none 0 0 none 0 0 0 0 0 0 (some ⟨dvb, 0, none⟩) (shS k : Int) false H4 PP := by
      apply f20_L1_of
      refine ⟨(fun h => by cases h), fun _ => ?_⟩
      refine (f61_ht hg hG hN.dv hN.pw (by omega) hop.data hop.dtag (by omega) (off := op.off) hro.1).mono fun v H5 ⟨D', g5, e5, r5, p5, hR⟩ => ?_
      obtain ⟨m, e, hv5, herr⟩ := hR.shape
      subst hv5
      exact ⟨m, e, rfl, bld2 (R := fun v => PP v H5) (herr.isI hG) (fin (hN.dvCall hk0 hpos e5 r5 p5 (by omega)) (by omega) (by omega) herr (.dwrite hkd hR))⟩
    refine ⟨fun heq => ⟨fun hge => ?_, fun _ => slow⟩, fun _ => slow⟩
    have heq := beq_iff_eq.1 heq
    have hge := of_decide_eq_true hge
    have hne : (shS k : Int) ≠ 0 := by omega
    refine ⟨_, binIs_rem (P := Tryz.prog) (t := 2) (x := .tmp 55) (y := .tmp 56) hne, ?_⟩
    cases hz : (Int.tmod op.off (shS k : Int) == 0) with
    | false => exact slow
    | true =>
      apply f20_L1_of
      refine ⟨fun _ => ?_, (fun h => by cases h)⟩
      refine ⟨_, binIs_quo (P := Tryz.prog) (t := 2) (x := .tmp 62) (y := .tmp 63) hne, ?_⟩
      have hoi : op.off = IntKind.wrap .i64 (Int.tdiv op.off (shS k : Int)) * (shS k : Int) := by
        have h1 := Int.mul_tdiv_add_tmod op.off (shS k : Int)
        have h2 : Int.tmod op.off (shS k : Int) = 0 := by simpa using hz
        have h3 : Int.tdiv op.off (shS k : Int) ≤ op.off := Int.tdiv_le_self _ hge
        have h4 : 0 ≤ Int.tdiv op.off (shS k : Int) := Int.tdiv_nonneg hge (by omega)
        rw [wrapI (by omega) (by have := hro.1; omega), Int.mul_comm]
        omega
      refine (f60_ht hg hG hN.dv hN.pw (by omega) hop.data hop.dtag).mono fun v H5 ⟨D', g5, e5, r5, p5, hR⟩ => ⟨_, rfl, ?_⟩
      have G5 := hG.ev e5 SpV.zero
      refine errK G5 hR.err (fun hne => bld1 (R := fun v => PP v H5) (hR.err.isI hG) (fin (hN.dvCall hk0 hpos e5 r5 p5 (by omega)) (by omega) (by omega) hR.err (.dwsec hkd ⟨hR, hoi⟩))) fun hnil => ?_
      exact fin (hN.dvCall hk0 hpos e5 r5 p5 (by omega)) (by omega) (by omega) (.inl rfl) (.dwsec (m := (shS k : Int)) hkd ⟨by rw [hnil] at hR; exact hR, hoi⟩)
  · have hkd : op.kd = 1 := by simpa using h1
    refine (f62_ht op.n).mono fun v H4 ⟨he4, hv4⟩ => ⟨_, hv4, ?_⟩
    subst he4
    have hrl := readLen_le op.n
    refine semOk_make (T := 5) (inf := Tryz.t5) (z := .int .u8 0) (l := readLen op.n) (c := readLen op.n) Tryz.underlying35 (by kernel_rfl) (by kernel_rfl) rfl rfl (Nat.le_refl _) (by omega) (by decide) fun xb H5 ha5 => ⟨_, _, _, rfl, ?_⟩
    have e5 : Ev (fun _ => False) H4 g H5 g := Ev.sub hg ha5.sub
    have N5 := hN.off e5 none_offN
    refine (f63_ht e5.ok (hG.ev e5 (fun h => h)) N5.dv N5.pw (by omega) (off := op.off) (GOk.fresh hg ha5.fresh) ha5.same (n := readLen op.n) (by simp) (by omega)).mono fun v H6 ⟨e6, r6, p6, hR⟩ => ?_
    obtain ⟨m, e, hv6, hml, herr⟩ := hR.shape
    subst hv6
    have hi5 : Tryz.prog.info? 5 = some Tryz.t5 := by kernel_rfl
    refine ⟨(m : Int), e, rfl, _, _, _, sliceIs_hi' Tryz.underlying35 hi5 (by omega), bld3 (R := fun v => PP v H6) (herr.isI hG) ?_⟩
    obtain ⟨ee, nn⟩ := N5.dvCall hk0 hpos e6 r6 p6 (Nat.le_refl _)
    exact fin ⟨(e5.mono fun tg h => h.elim).trans ee, nn⟩ (Nat.le_refl _) (by omega) herr (.dread hkd)
  · have hkd : op.kd = 2 := by simpa using h2
    refine (f64_ht hg hG hN.dv hN.pw (by omega)).mono fun v H5 ⟨D', g5, e5, r5, p5, hR⟩ => ⟨_, rfl, bld1 (R := fun v => PP v H5) (hR.err.isI hG) (fin (hN.dvCall hk0 hpos e5 r5 p5 (Nat.le_refl _)) (by omega) (by omega) hR.err (.dsync hkd hR))⟩
  · have hkd : op.kd = 3 := by simpa using h3
    refine (f65_ht hg hG hN.st hN.pw hStN hIk.srt (by omega) (by omega) (fun b hb => (hIk.idp b hb).2) (nm := op.nm)).mono fun v H5 ⟨s', g5, e5, r5, p5, hR⟩ => ⟨_, rfl, bld1 (R := fun v => PP v H5) (hR.err.isI hG) (fin (hN.stCall hk0 e5 r5 p5 (Nat.le_refl _)) (by omega) (by omega) hR.err (.create hkd hR))⟩
  · have hkd : op.kd = 4 := by simpa using h4
    refine (f66_ht hg hG hN.st hN.pw hStN hIk.mT hop.data hop.dtag (nm := op.nm) (off := op.off) hro.1 (by omega)).mono fun v H5 ⟨s', g5, e5, r5, p5, hR⟩ => ?_
    obtain ⟨m, e, hv5, herr⟩ := hR.shape
    subst hv5
    exact ⟨m, e, rfl, bld2 (R := fun v => PP v H5) (herr.isI hG) (fin (hN.stCall hk0 e5 r5 p5 (by omega)) (by omega) (by omega) herr (.write hkd hR))⟩
  · have hkd : op.kd = 5 := by simpa using h5
    refine (f67_ht hg hG hN.st hN.pw hStN hIk.mT hop.data hop.dtag (nm := op.nm) (by omega)).mono fun v H5 ⟨s', g5, e5, r5, p5, hR⟩ => ?_
    obtain ⟨m, e, hv5, herr⟩ := hR.shape
    subst hv5
    exact ⟨m, e, rfl, bld2 (R := fun v => PP v H5) (herr.isI hG) (fin (hN.stCall hk0 e5 r5 p5 (by omega)) (by omega) (by omega) herr (.append hkd hR))⟩
  · have hkd : op.kd = 6 := by simpa using h6
    refine (f68_ht hg hG hN.st hN.pw hStN hIk.mT (nm := op.nm) (size := op.n)).mono fun v H5 ⟨s', g5, e5, r5, p5, hR⟩ => ⟨_, rfl, bld1 (R := fun v => PP v H5) (hR.err.isI hG) (fin (hN.stCall hk0 e5 r5 p5 (by omega)) (by omega) (by omega) hR.err (.trunc hkd hR))⟩
  · have hkd : op.kd = 7 := by simpa using h7
    refine (f62_ht op.n).mono fun v H4 ⟨he4, hv4⟩ => ⟨_, hv4, ?_⟩
    subst he4
    have hrl := readLen_le op.n
    refine semOk_make (T := 5) (inf := Tryz.t5) (z := .int .u8 0) (l := readLen op.n) (c := readLen op.n) Tryz.underlying35 (by kernel_rfl) (by kernel_rfl) rfl rfl (Nat.le_refl _) (by omega) (by decide) fun xb H5 ha5 => ⟨_, _, _, rfl, ?_⟩
    have e5 : Ev (fun _ => False) H4 g H5 g := Ev.sub hg ha5.sub
    have N5 := hN.off e5 none_offN
    refine (f69_ht e5.ok (hG.ev e5 (fun h => h)) N5.st N5.pw hStN hIk.mT (nm := op.nm) (off := op.off) (GOk.fresh hg ha5.fresh) ha5.same (n := readLen op.n) (by simp) (by omega)).mono fun v H6 ⟨e6, r6, hR⟩ => ?_
    obtain ⟨m, e, hv6, hml, herr⟩ := hR.shape
    subst hv6
    have hi5 : Tryz.prog.info? 5 = some Tryz.t5 := by kernel_rfl
    refine ⟨(m : Int), e, rfl, _, _, _, sliceIs_hi' Tryz.underlying35 hi5 (by omega), bld3 (R := fun v => PP v H6) (herr.isI hG) ?_⟩
    obtain ⟨ee, nn⟩ := N5.stCall hk0 (e6.mono fun tg h => h.le) r6 (N5.pw.in e6) (Nat.le_refl _)
    exact fin ⟨(e5.mono fun tg h => h.elim).trans ee, nn⟩ (Nat.le_refl _) (by omega) herr (.read hkd hR)
  · have hkd : op.kd = 8 := by simpa using h8
    refine (f21_ht hG hN.st hN.pw hIk.mT (nm := op.nm)).mono fun v H5 ⟨he5, hR⟩ => ?_
    subst he5
    obtain ⟨a, b, c, d, e, hv5, herr⟩ := hR.shape
    subst hv5
    exact ⟨a, b, c, d, e, rfl, fun _ => bld4 (R := fun v => PP v H5) (herr.isI hG) (fin ⟨Ev.refl hg, hN⟩ (Nat.le_refl _) (by omega) herr (.stat hkd))⟩
  · have hkd : op.kd = 9 := by simpa using h9
    refine (f26_ht hG hN.st hN.pw hIk.srt (by omega) op.nm).mono fun v H5 hR => ?_
    rcases hR with ⟨_, he5, hv5⟩ | ⟨_, w, hv5, hsub, p, n, c, lo, hi, hw, _⟩
    · subst he5 hv5
      have herr : errV E (E 0) := .inr ⟨0, by decide, by decide, rfl⟩
      exact ⟨_, _, _, _, rfl, bld5 (R := fun v => PP v H5) (herr.isI hG) (fin ⟨Ev.refl hg, hN⟩ (Nat.le_refl _) (by omega) herr (.list hkd))⟩
    · subst hv5 hw
      have e5 : Ev (fun _ => False) H3 g H5 g := Ev.sub hg hsub
      exact ⟨p, n, c, _, rfl, bld5 (R := fun v => PP v H5) (.inl rfl) (fin ⟨e5.mono fun tg h => h.elim, hN.off e5 none_offN⟩ (Nat.le_refl _) (by omega) (.inl rfl) (.list hkd))⟩
  · have hkd : op.kd = 10 := by simpa using h10
    refine (f70_ht hg hG hN.st hN.pw hStN hIk.mT (nm := op.nm)).mono fun v H5 ⟨s', g5, e5, r5, p5, hR⟩ => ⟨_, rfl, bld1 (R := fun v => PP v H5) (hR.err.isI hG) (fin (hN.stCall hk0 e5 r5 p5 (Nat.le_refl _)) (by omega) (by omega) hR.err (.sync hkd hR))⟩
  · have hkd : op.kd = 11 := by simpa using h11
    refine (f71_ht hg hG hN.st hN.pw hStN (by omega) hIk.vT).mono fun v H5 ⟨s', g5, e5, r5, p5, hR⟩ => ⟨_, rfl, bld1 (R := fun v => PP v H5) (hR.err.isI hG) (fin (hN.stCall hk0 e5 r5 p5 (Nat.le_refl _)) (by omega) (by omega) hR.err (.syncDir hkd hR))⟩
  · have hkd : op.kd = 12 := by simpa using h12
    refine (f38_ht hg hG hN.st hN.pw hStN hIk.mT hIk.minj (by omega) hIk.vT hIk.mem (by omega)).mono fun v H5 ⟨s', g5, e5, r5, p5, hR⟩ => ⟨_, rfl, bld1 (R := fun v => PP v H5) (hR.err.isI hG) (fin (hN.stCall hk0 e5 r5 p5 (Nat.le_refl _)) (by omega) (by omega) hR.err (.syncAll hkd hR))⟩
  · have hkd : op.kd = 13 := by simpa using h13
    refine (f72_ht hg hG hN.st hN.pw hIk.srt (by omega) (by omega) hIk.mem (nm := op.nm) (to := op.to)).mono fun v H5 ⟨s', g5, e5, r5, p5, hR⟩ => ⟨_, rfl, bld1 (R := fun v => PP v H5) (hR.err.isI hG) (fin (hN.stCall hk0 e5 r5 p5 (Nat.le_refl _)) (by omega) (by omega) hR.err (.rename hkd hR))⟩
  · have hkd : op.kd = 14 := by simpa using h14
    refine (f73_ht hg hG hN.st hN.pw hIk.srt (by omega) (by omega) hIk.mem (nm := op.nm)).mono fun v H5 ⟨s', g5, e5, r5, p5, hR⟩ => ⟨_, rfl, bld1 (R := fun v => PP v H5) (hR.err.isI hG) (fin (hN.stCall hk0 e5 r5 p5 (Nat.le_refl _)) (by omega) (by omega) hR.err (.delete hkd hR))⟩
  · have hkd : op.kd = 15 := by simpa using h15
    refine (f39_ht hg hG hN.st hN.pw hIk hM (by omega) hop.data hop.dtag (by omega) (temp := op.nm) (final := op.to)).mono fun v H5 ⟨s', P', g5, e5, r5, p5, hR⟩ => ⟨_, rfl, ?_⟩
    have herr : errV E v := pubR.err hR
    exact bld1 (R := fun v => PP v H5) (herr.isI hG) (fin (hN.stCall hk0 e5 r5 p5 (by omega)) (by omega) (by omega) herr (.publish hkd hR))
  · have hkd : op.kd = 16 := by simpa using h16
    refine (f74_ht hg hG hN.st hN.pw hIk (by omega) (nm := op.nm) (bit := op.off) hro.1).mono fun v H5 ⟨s', P', g5, e5, r5, p5, hR⟩ => ⟨_, rfl, bld1 (R := fun v => PP v H5) (hR.err.isI hG) (fin (hN.stCall hk0 e5 r5 p5 (by omega)) (by omega) (by omega) hR.err (.burst hkd hR))⟩
  · have hkd : op.kd = 17 := by simpa using h17
    refine (f37_ht hg hG hN.nd hN.pw op.n).mono fun v H5 ⟨hv5, e5, p5⟩ => ⟨_, rfl, ?_⟩
    have herr : errV E v := by
      rw [hv5]
      split
      · exact .inr ⟨0, by decide, by decide, rfl⟩
      · exact .inl rfl
    refine bld1 (R := fun v => PP v H5) (herr.isI hG) (fin (n' := ⟨if (nd k).pw.down then (nd k).pw else Pw.arm op.n, (nd k).D, (nd k).s⟩) ⟨e5.mono fun tg h => .inl (SpN.pw h), hN.nd.ev e5 (fun hc => by cases hc), p5, hN.dv.off e5 SpW.offD, hN.st.off e5 SpW.off⟩ (Nat.le_refl _) (by omega) herr (.arm hkd hv5))
  · have hkd : op.kd = 18 := by simpa using h18
    exact hcr hkd nb hnbO
  · have hkd : ∀ i : Nat, i < 19 → op.kd ≠ (i : Int) := by
      simp at h0 h1 h2 h3 h4 h5 h6 h7 h8 h9 h10 h11 h12 h13 h14 h15 h16 h17 h18
      intro i hi
      omega
    exact fin ⟨Ev.refl hg, hN⟩ (Nat.le_refl _) (by omega) (.inl rfl) (.other hkd) (hkd 18 (by decide))

theorem f20_ht (hg : GOk H g) (hG : Gl H g E) (h : RkR H g rb bd nd) (hI : RkI M nd) (hM : M + 4 < 2 ^ 28) (hbd : bd + 160 < 2 ^ 31) (hop : OpOk H g op) :
    HT Tryz.prog 20 [.pointer (some ⟨rb, 0, none⟩), .agg #[.int .u8 op.kd, .int .i64 op.node, .string op.nm, .string op.to, .int .i64 op.off, .int .i64 op.n, .slice op.dp op.dn op.dc, .slice op.pp op.pn op.pc], .nilIface] H (playPost E H g rb bd nd op) := by
  refine f20_gen (fun _ _ _ h => h) hg hG h hI hM hbd hop fun hkd nb hnb => ?_
  have hk3 := nodeOf_lt op.node
  have hpb := hop.pb
  refine ⟨_, binIs_if_eql (.inl rfl) Tryz.underlying140, fun _ => ?_, (fun h => by cases h)⟩
  have hnbO := hnb
  obtain ⟨nbk, hrb, hnk, hnds⟩ := hnb
  obtain ⟨pwb, dvb, sb, hN⟩ := hnds _ hk3
  rw [hnk] at hN
  refine (f41_ht hg (c := op.pc) hop.pl (by omega) fun hp => let ⟨b, q, h1, h2, h3⟩ := hop.pcs hp; ⟨b, q, h1, h3⟩).mono fun v H1 ⟨lb, g1, hv, e1, tl, q, qc, hl, hr, hq⟩ => ⟨_, hv, ?_⟩
  have N1 := hN.off e1 none_offN
  apply f20_L2_of
  refine (f40l_ht ⟨by omega, by omega⟩ e1.ok N1 (hI _ hk3) (by omega) tl hl (by omega) hr hq).mono fun v H2 ⟨n', g2, tr, a, b, c, hv2, e2, n2, hc⟩ => ⟨a, b, c, hv2, ?_⟩
  have e12 : Ev (SpK (nodeOf op.node : Int)) H g H2 g2 := (e1.mono fun tg h => h.elim).trans e2
  exact ⟨.nilIface, a, none, 0, 0, none, 0, 0, 0, 0, 0, 0, n', tr, g2, rfl, .inl rfl, e12, h.upd hI hk3 hnbO e12 ⟨pwb, dvb, sb, n2.mono (by omega)⟩ (by omega), .crash hkd hc⟩

end

end Go.Proofs.Qxb6500695aGreatFmt
