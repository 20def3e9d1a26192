/-
  FULL CHANGES NOTHING, PART L: beyond the capacity.
-/
import Derived.Test.Qxb6500695aGreatFmtPi
import Derived.Test.Qxb6500695aGreatFmtVs
namespace Go.Proofs.Qxb6500695aGreatFmt
open Go Go.Eng Go.Proofs
set_option maxRecDepth 100000
set_option linter.unusedVariables false
set_option linter.unusedSimpArgs false
set_option linter.unusedSectionVars false

section
variable {ss ns cap N M bd : Nat} {s : StV} {x : ByteArray} {b : Nat}

theorem le_sect {t : Nat} (hss : 0 < ss) : t ≤ sect ss t * ss := by
  have hd := Nat.div_add_mod t ss
  have hm := Nat.mod_lt t hss
  unfold sect
  split
  · rw [Nat.mul_comm]; omega
  · rw [Nat.add_mul, Nat.one_mul, Nat.mul_comm]; omega

theorem sect_gt {t : Nat} (hss : 0 < ss) (h : cap * ss < t) : cap < sect ss t := by
  rcases Nat.lt_or_ge cap (sect ss t) with h1 | h1
  · exact h1
  · have h2 := le_sect (t := t) hss
    have h3 : sect ss t * ss ≤ cap * ss := Nat.mul_le_mul_right _ h1
    omega

theorem clean_res (hI : StI ss cap N s) (hcl : s.clean) (hb : s.m x = some b) : (s.O b).res = sect ss (s.O b).size :=
  (hI.num b (hI.mh _ _ hb)).clean (hcl.2 x b hb).1 (hcl.2 x b hb).2

theorem clean_used (hI : StI ss cap N s) (hcl : s.clean) : s.used = (sumOf (fun b => sect ss (s.O b).size) (s.xs.filterMap s.m) : Int) := by
  rw [hI.used]
  have hH : heldL s = s.xs.filterMap s.m := by
    unfold heldL
    rw [hcl.1]
    simp [vics]
  rw [hH]
  congr 1
  have aux : ∀ l : List Nat, (∀ b ∈ l, ∃ x, s.m x = some b) → sumOf (resS s) l = sumOf (fun b => sect ss (s.O b).size) l := by
    intro l
    induction l with
    | nil => intro _; rfl
    | cons y l ih =>
      intro hy
      obtain ⟨x, hx⟩ := hy y List.mem_cons_self
      simp only [sumOf, ih fun b hb => hy b (List.mem_cons_of_mem _ hb)]
      show (s.O y).res + _ = _
      rw [clean_res hI hcl hx]
  refine aux _ fun b hb => ?_
  obtain ⟨x, _, hx⟩ := List.mem_filterMap.1 hb
  exact ⟨x, hx⟩

theorem used_ge (hI : StI ss cap N s) (hb : s.m x = some b) : ((s.O b).res : Int) ≤ s.used := by
  have h1 := sumOf_le (resS s) (a := [b]) (b := heldL s) (by simp) (fun y hy => by rw [List.mem_singleton.1 hy]; exact hI.mh _ _ hb)
  simp only [sumOf, Nat.add_zero] at h1
  have h2 : resS s b = (s.O b).res := rfl
  rw [hI.used]
  omega

/-- Room asked for where all is synced. -/
def tooBig (ss cap : Nat) (s : StV) (b e : Nat) : Prop := (sect ss e : Int) - (sect ss (s.O b).size : Int) + s.used > (cap : Int)

theorem res_over (hI : StI ss cap N s) (hcl : s.clean) (hb : s.m x = some b) (t : Nat) : resv ss cap s b t = none ↔ tooBig ss cap s b (max (s.O b).size t) := by
  have hr := clean_res hI hcl hb
  have hc := hI.cap
  unfold resv tooBig
  rw [hr]
  rcases Nat.le_total t (s.O b).size with h | h
  · rw [Nat.max_eq_left h, if_pos (sect_mono hI.shp.1 h)]
    constructor
    · intro hx; cases hx
    · intro hx; omega
  · rw [Nat.max_eq_right h]
    have hm := sect_mono (ss := ss) hI.shp.1 h
    split
    · constructor
      · intro hx; cases hx
      · intro hx; omega
    · split
      · constructor
        · intro _; omega
        · intro _; rfl
      · constructor
        · intro hx; cases hx
        · intro hx; omega

theorem big_over (hI : StI ss cap N s) (hcl : s.clean) (hb : s.m x = some b) {t : Nat} (ht : cap * ss < t) : tooBig ss cap s b (max (s.O b).size t) := by
  have hr := clean_res hI hcl hb
  have hu := used_ge hI hb
  have h1 : t ≤ max (s.O b).size t := Nat.le_max_right _ _
  have h2 := sect_gt (cap := cap) hI.shp.1 (Nat.lt_of_lt_of_le ht h1)
  unfold tooBig
  omega

theorem put_over (hI : StI ss cap N s) (hcl : s.clean) (hb : s.m x = some b) (off : Nat) {src : List Int} (hs : src ≠ []) : putF ss cap s b off src = none ↔ tooBig ss cap s b (max (s.O b).size (off + src.length)) := by
  unfold putF
  rw [if_neg hs]
  split
  · rename_i h
    exact ⟨fun _ => big_over hI hcl hb h, fun _ => rfl⟩
  · rw [← res_over hI hcl hb]
    cases resv ss cap s b (off + src.length) <;> simp

theorem put_nil (off : Nat) (hI : StI ss cap N s) : (putF ss cap s b off [] = none) ↔ tooBig ss cap s b (s.O b).size := by
  have hc := hI.cap
  unfold putF tooBig
  simp
  omega

theorem trunc_over (hI : StI ss cap N s) (hcl : s.clean) (hb : s.m x = some b) (t : Nat) : truncF ss cap s b t = none ↔ tooBig ss cap s b (max (s.O b).size t) := by
  unfold truncF
  split
  · rename_i h
    exact ⟨fun _ => big_over hI hcl hb h, fun _ => rfl⟩
  · rw [← res_over hI hcl hb]
    cases resv ss cap s b t <;> simp

/-- What the second answer promises of the first. -/
def byd (ss ns cap : Nat) (op : OpV) (n : NdV) (over : Bool) : Prop :=
  (op.kd = 0 ∧ 0 ≤ op.off ∧ (over = true ↔ op.off > ((ns * ss : Nat) : Int) - (op.data.length : Int))) ∨
  (op.kd = 4 ∧ 0 ≤ op.off ∧ ∃ b, fnd n.s op.nm = some b ∧ (over = true ↔ putF ss cap n.s b op.off.toNat op.data = none)) ∨
  (op.kd = 5 ∧ ∃ b, fnd n.s op.nm = some b ∧ (over = true ↔ putF ss cap n.s b (n.s.O b).size op.data = none)) ∨
  (op.kd = 6 ∧ 0 ≤ op.n ∧ ∃ b, fnd n.s op.nm = some b ∧ (over = true ↔ truncF ss cap n.s b op.n.toNat = none))

end

section
variable {H H' : Heap} {g g' : Gh} {k : Int} {nb pwb dvb sb ss ns cap bd N : Nat} {n : NdV} {s : StV} {E : Nat → Value} {op : OpV} {P : Pw}

theorem f43_ht (hg : GOk H g) (h : NdR H g k nb pwb dvb sb ss ns cap bd n) (hmT : ∀ x b, n.s.m x = some b → b ∈ n.s.T) :
    HT Tryz.prog 43 [.pointer (some ⟨nb, 0, none⟩)] H fun v H' => ∃ g', Ev (fun tg => tg = (42, 0)) H g H' g' ∧ ∃ b : Bool, v = .bool b ∧ (b = true → n.s.clean) := by
  obtain ⟨t0, nm, x1, x2, x3, h1⟩ := h.nd
  obtain ⟨plb, q, k1, pl1⟩ := h.dv.ex
  apply f43_of
  refine ⟨nb, 0, rfl, _, Cells.of h1 rfl, dvb, 0, rfl, _, Cells.of k1 rfl, ?_⟩
  refine (f99_ht pl1).mono fun v H1 ⟨he, m, hv, hm⟩ => ⟨_, hv, fun h0 => ?_, fun h0 => ?_⟩
  · subst he
    refine ⟨nb, 0, rfl, _, Cells.of h1 rfl, ?_⟩
    exact (f51_ht hg h.st hmT).mono fun v H2 ⟨g2, e2, b, hv2, hb⟩ => ⟨b, hv2, g2, e2, b, rfl, hb.1⟩
  · subst he
    exact ⟨g, Ev.refl hg, false, rfl, fun h => by cases h⟩

theorem f44_L2_ht {b : Nat} {R : Value → Heap → Prop} {e : Nat} (he : e < 2 ^ 31) (hI : StI ss cap N s) (hcl : s.clean) {ip : Option Addr} {inn ic : Nat} {ims : List Im} (hlen : ims.length = s.xs.length) (hok : ∀ i (h : i < ims.length) (hx : i < s.xs.length), ImOk s s.xs[i] ims[i])
    (hR : StR H g k sb ss cap bd pwb s) (hims : OwnT H g (42, 0) 103 6 Im.cs ip inn ic ims) (hb : (s.O b).size ≤ cap * ss)
    (hfin : ∀ r : Bool, (r = true ↔ tooBig ss cap s b e) → R (.tuple #[.bool r, .bool true]) H) :
    ∀ (d i : Nat), ims.length - i = d → i ≤ ims.length →
      f44_L2 (some ⟨sb, 0, none⟩) (ss : Int) ((sect ss e : Int) - (sect ss (s.O b).size : Int) + (sumOf (fun i => sect ss i.size) (ims.take i) : Int)) ip inn ic (inn : Int) (i : Int) H R := by
  have hxl := hI.len
  have himn := hims.own.len
  have hcs : cap * ss ≤ 12 * 16 := Nat.mul_le_mul hI.shp.2.2 hI.shp.2.1
  have hbound : ∀ i (h : i < ims.length), ims[i].size ≤ cap * ss ∧ sect ss ims[i].size ≤ 12 := by
    intro i hi
    obtain ⟨_, b, hb, _, h1, h2, _⟩ := hok i hi (by omega)
    have hO := hR.obs b (hI.mT _ _ hb)
    have h3 := sect_le (ss := ss) (ns := cap) hI.shp.1 hO.fit.1
    have h4 := hI.shp.2.2
    rw [h1]
    exact ⟨hO.fit.1, by omega⟩
  have hsum : ∀ i, i ≤ ims.length → sumOf (fun i => sect ss i.size) (ims.take i) ≤ 12 * i := by
    intro i
    induction i with
    | zero => intro _; simp [sumOf]
    | succ i ih =>
      intro hi
      have h1 := ih (by omega)
      have h2 := hbound i (by omega)
      rw [take_succ (by omega), sumOf_append]
      simp only [sumOf]
      omega
  have hse : sect ss e ≤ 2 ^ 31 := by
    have h1 : e / ss ≤ e := Nat.div_le_self _ _
    unfold sect
    split <;> omega
  have hsb := sect_le (ss := ss) (ns := cap) hI.shp.1 hb
  have hcap := hI.shp.2.2
  intro d
  induction d with
  | zero =>
    intro i hd hi
    have hil : i = ims.length := by omega
    subst hil
    rw [List.take_length]
    obtain ⟨_, hs2⟩ := ims_sum (s := s) (ss := ss) s.xs ims hlen hok
    have hu := clean_used hI hcl
    apply f44_L2_of
    refine ⟨fun hx => by have := of_decide_eq_true hx; omega, fun _ => ?_⟩
    refine (f47_ht hR).mono fun v H1 ⟨he1, hv⟩ => ⟨_, hv, ?_⟩
    subst he1
    refine hfin _ ?_
    unfold tooBig
    rw [decide_eq_true_iff, hs2, ← hu]
  | succ d ih =>
    intro i hd hi
    have hil : i < ims.length := by omega
    obtain ⟨pb, o, hp, hc⟩ := hims.own.cells (i := i) hil
    have hbi := hbound i hil
    have hs1 := hsum i (by omega)
    apply f44_L2_of
    refine ⟨fun _ => ?_, fun hx => by have := of_decide_eq_false hx; omega⟩
    refine ⟨pb, o, hp, by omega, by omega, ims[i].nm, ims[i].id, (ims[i].size : Int), (ims[i].res : Int), (ims[i].uns : Int), ims[i].dp, ims[i].dn, ims[i].dc, by simpa [Im.cs] using hc, fun _ => ?_⟩
    refine (f50_ht ⟨hI.shp.1, hI.shp.2.1⟩ (by omega)).mono fun v H2 ⟨he2, hv2⟩ => ⟨_, hv2, ?_⟩
    subst he2
    have w2 : IntKind.wrap .i64 (((sect ss e : Int) - (sect ss (s.O b).size : Int) + (sumOf (fun i => sect ss i.size) (ims.take i) : Int)) + (sect ss ims[i].size : Int)) = (sect ss e : Int) - (sect ss (s.O b).size : Int) + (sumOf (fun i => sect ss i.size) (ims.take (i + 1)) : Int) := by
      rw [take_succ hil, sumOf_append]
      simp only [sumOf]
      rw [wrapI] <;> omega
    rw [w2, wrapS (by omega)]
    exact ih (i + 1) (by omega) (by omega)

theorem f44_L1_ht {b : Nat} {R : Value → Heap → Prop} {e : Nat} {x0 x2 x3 : Int} (he : e < 2 ^ 31) (hg : GOk H g) (hG : Gl H g E) (hI : StI ss cap N s) (hcl : s.clean) (hR : StR H g k sb ss cap bd pwb s) (hp : PwR H g k pwb P) (hup : P.down = false) (hbd : bd < 2 ^ 31) (hb : (s.O b).size ≤ cap * ss)
    (hfin : ∀ (r : Bool) (H1 : Heap) (g1 : Gh), Ev (fun tg => tg = (42, 0)) H g H1 g1 → (r = true ↔ tooBig ss cap s b e) → R (.tuple #[.bool r, .bool true]) H1) :
    f44_L1 (some ⟨sb, 0, none⟩) x0 ((s.O b).size : Int) x2 x3 (e : Int) H R := by
  have hcs : cap * ss ≤ 12 * 16 := Nat.mul_le_mul hI.shp.2.2 hI.shp.2.1
  have hxl := hI.len
  have hse : sect ss e ≤ 2 ^ 31 := by
    have h1 : e / ss ≤ e := Nat.div_le_self _ _
    unfold sect
    split <;> omega
  have hsb := sect_le (ss := ss) (ns := cap) hI.shp.1 hb
  have hcap := hI.shp.2.2
  apply f44_L1_of
  refine (f18_ht hR).mono fun v H1 ⟨he1, hv1⟩ => ⟨_, hv1, ?_⟩
  subst he1
  refine (f50_ht ⟨hI.shp.1, hI.shp.2.1⟩ (by omega)).mono fun v H2 ⟨he2, hv2⟩ => ⟨_, hv2, ?_⟩
  subst he2
  refine (f50_ht ⟨hI.shp.1, hI.shp.2.1⟩ (by omega)).mono fun v H3 ⟨he3, hv3⟩ => ⟨_, hv3, ?_⟩
  subst he3
  refine (f49_ht hg hG hR hp (hI.toN hbd) hI.mem hI.mT (by omega) hup).mono fun v H4 ⟨ip, inn, ic, ims, g4, hv4, e4, oims, himl, himok⟩ => ⟨ip, inn, ic, .nilIface, hv4, ?_⟩
  have hw : IntKind.wrap .i64 ((sect ss e : Int) - (sect ss (s.O b).size : Int)) = (sect ss e : Int) - (sect ss (s.O b).size : Int) + (sumOf (fun i : Im => sect ss i.size) (ims.take 0) : Int) := by
    rw [wrapI (by omega) (by omega)]
    simp [sumOf]
  rw [hw]
  exact f44_L2_ht he hI hcl himl himok (hR.off e4 off42) oims hb (fun r hr => hfin r H4 g4 e4 hr) _ 0 rfl (Nat.zero_le _)

theorem f44_ht (hg : GOk H g) (hG : Gl H g E) (h : NdR H g k nb pwb dvb sb ss ns cap bd n) (hI : StI ss cap N n.s) (hcl : n.s.clean) (hup : n.pw.down = false) (hbd : bd < 2 ^ 31) (hop : OpOk H g op) :
    HT Tryz.prog 44 [.pointer (some ⟨nb, 0, none⟩), .agg #[.int .u8 op.kd, .int .i64 op.node, .string op.nm, .string op.to, .int .i64 op.off, .int .i64 op.n, .slice op.dp op.dn op.dc, .slice op.pp op.pn op.pc]] H
      fun v H' => ∃ g', Ev (fun tg => tg = (42, 0)) H g H' g' ∧ ∃ over app : Bool, v = .tuple #[.bool over, .bool app] ∧ (app = true → byd ss ns cap op n over) := by
  have hdl := hop.data.len
  have hdb := hop.db
  have hro := hop.offb
  have hnb := hop.nb
  have hcs : cap * ss ≤ 12 * 16 := Nat.mul_le_mul hI.shp.2.2 hI.shp.2.1
  obtain ⟨plb, qq, kd1, pl1⟩ := h.dv.ex
  have hns : ns * ss ≤ 12 * 16 := Nat.mul_le_mul pl1.nsb pl1.ssb.2
  have no : ∀ {H1 : Heap} {x : Bool}, H1 = H → ∃ g', Ev (fun tg => tg = (42, 0)) H g H1 g' ∧ ∃ over app : Bool, Value.tuple #[.bool x, .bool false] = .tuple #[.bool over, .bool app] ∧ (app = true → byd ss ns cap op n over) := fun he => by
    subst he
    exact ⟨g, Ev.refl hg, _, false, rfl, fun h => by cases h⟩
  apply f44_of
  intro _
  refine ⟨fun h0 => ?_, fun h0 => ?_⟩
  · have hkd : op.kd = 0 := by simpa using h0
    refine (f13_ht h.nd).mono fun v H1 ⟨he1, hv1⟩ => ⟨_, hv1, ?_⟩
    subst he1
    refine (f100_ht h.dv).mono fun v H2 ⟨he2, hv2⟩ => ⟨_, hv2, ?_⟩
    subst he2
    have hw : IntKind.wrap .i64 (((ns * ss : Nat) : Int) - (op.dn : Int)) = ((ns * ss : Nat) : Int) - (op.dn : Int) := by rw [wrapI] <;> omega
    rw [hw]
    refine ⟨g, Ev.refl hg, _, _, rfl, fun ha => .inl ⟨hkd, of_decide_eq_true ha, ?_⟩⟩
    rw [decide_eq_true_iff, hdl]
  · refine (f17_ht h.nd).mono fun v H1 ⟨he1, hv1⟩ => ⟨_, hv1, ?_⟩
    subst he1
    refine (f21_ht hG h.st h.pw hI.mT).mono fun v H2 ⟨he2, hv2⟩ => ?_
    subst he2
    rcases hv2 with ⟨hd, _⟩ | ⟨_, ⟨hf, rfl⟩ | ⟨b, u, hf, rfl, _⟩⟩
    · rw [hup] at hd; cases hd
    · refine ⟨_, _, _, _, _, rfl, fun _ => errK hG errV.fe (fun _ => no rfl) fun hnil => ?_⟩
      exfalso
      unfold fe at hnil
      split at hnil
      · exact E_ne hG (by decide) (by decide) hnil
      · exact E_ne hG (by decide) (by decide) hnil
    · refine ⟨_, _, _, _, _, rfl, fun _ => errK hG (.inl rfl) (fun hne => absurd rfl hne) fun _ => ?_⟩
      have hm := (fnd_some hf).2
      have hfit := (h.st.obs b (hI.mT _ _ hm)).fit.1
      have fin : ∀ {e : Nat}, e < 2 ^ 31 → (∀ r : Bool, (r = true ↔ tooBig ss cap n.s b e) → byd ss ns cap op n r) → f44_L1 (some ⟨sb, 0, none⟩) (n.s.O b).id ((n.s.O b).size : Int) ((n.s.O b).res : Int) ((u : Nat) : Int) (e : Int) H2 fun v H' => ∃ g', Ev (fun tg => tg = (42, 0)) H2 g H' g' ∧ ∃ over app : Bool, v = .tuple #[.bool over, .bool app] ∧ (app = true → byd ss ns cap op n over) := fun he hb =>
        f44_L1_ht he hg hG hI hcl h.st h.pw hup hbd hfit fun r H1 g1 e1 hr => ⟨g1, e1, r, true, rfl, fun _ => hb r hr⟩
      refine ⟨fun h4 => ?_, fun h4 => ⟨fun h5 => ?_, fun h5 => ⟨fun h6 => ?_, fun h6 => no rfl⟩⟩⟩
      · have hkd : op.kd = 4 := by simpa using h4
        refine ⟨fun _ => no rfl, fun hneg => ⟨fun hpos => ?_, fun hpos => ?_⟩⟩
        · have hneg := of_decide_eq_false hneg
          have hpos := of_decide_eq_true hpos
          have hne : op.data ≠ [] := fun hc => by rw [hc] at hdl; simp at hdl; omega
          obtain ⟨off, hoff⟩ : ∃ o : Nat, op.off = (o : Int) := ⟨op.off.toNat, by omega⟩
          have htn : op.off.toNat = off := by omega
          refine (f101_ht h.st hI.shp.2).mono fun v H3 ⟨he3, hv3⟩ => ⟨_, hv3, fun hbig => ?_, fun hbig => ?_⟩
          · subst he3
            have hbig := of_decide_eq_true hbig
            refine ⟨g, Ev.refl hg, true, true, rfl, fun _ => .inr (.inl ⟨hkd, by omega, b, hf, ?_⟩)⟩
            rw [htn, put_over hI hcl hm off hne]
            exact ⟨fun _ => big_over hI hcl hm (by omega), fun _ => rfl⟩
          · subst he3
            have hbig := of_decide_eq_false hbig
            have hw : IntKind.wrap .i64 (op.off + (op.dn : Int)) = ((off + op.data.length : Nat) : Int) := by rw [wrapI] <;> omega
            rw [hw]
            have hmax : (if (((off + op.data.length : Nat) : Int)) > ((n.s.O b).size : Int) then (((off + op.data.length : Nat) : Int)) else ((n.s.O b).size : Int)) = ((max (n.s.O b).size (off + op.data.length) : Nat) : Int) := by
              split <;> omega
            rw [hmax]
            refine fin (by omega) fun r hr => .inr (.inl ⟨hkd, by omega, b, hf, ?_⟩)
            rw [htn, put_over hI hcl hm off hne]
            exact hr
        · have hneg := of_decide_eq_false hneg
          have hpos := of_decide_eq_false hpos
          have hnil : op.data = [] := List.eq_nil_of_length_eq_zero (by omega)
          refine fin (by omega) fun r hr => .inr (.inl ⟨hkd, by omega, b, hf, ?_⟩)
          rw [hnil, put_nil _ hI]
          exact hr
      · have hkd : op.kd = 5 := by simpa using h5
        have hw : IntKind.wrap .i64 (((n.s.O b).size : Int) + (op.dn : Int)) = (((n.s.O b).size + op.data.length : Nat) : Int) := by rw [wrapI] <;> omega
        rw [hw]
        refine fin (by omega) fun r hr => .inr (.inr (.inl ⟨hkd, b, hf, ?_⟩))
        by_cases hne : op.data = []
        · rw [hne, put_nil _ hI]
          rw [hne] at hr
          simpa using hr
        · rw [put_over hI hcl hm _ hne, Nat.max_eq_right (by omega)]
          exact hr
      · have hkd : op.kd = 6 := by simpa using h6
        refine ⟨fun _ => no rfl, fun hneg => ?_⟩
        have hneg := of_decide_eq_false hneg
        obtain ⟨t, ht⟩ : ∃ o : Nat, op.n = (o : Int) := ⟨op.n.toNat, by omega⟩
        have htn : op.n.toNat = t := by omega
        refine (f101_ht h.st hI.shp.2).mono fun v H3 ⟨he3, hv3⟩ => ⟨_, hv3, fun hbig => ?_, fun hbig => ?_⟩
        · subst he3
          have hbig := of_decide_eq_true hbig
          refine ⟨g, Ev.refl hg, true, true, rfl, fun _ => .inr (.inr (.inr ⟨hkd, by omega, b, hf, ?_⟩))⟩
          rw [htn, trunc_over hI hcl hm t]
          exact ⟨fun _ => big_over hI hcl hm (by omega), fun _ => rfl⟩
        · subst he3
          have hbig := of_decide_eq_false hbig
          have hmax : (if op.n > ((n.s.O b).size : Int) then op.n else ((n.s.O b).size : Int)) = ((max (n.s.O b).size t : Nat) : Int) := by
            split <;> omega
          rw [hmax]
          refine fin (by omega) fun r hr => .inr (.inr (.inr ⟨hkd, by omega, b, hf, ?_⟩))
          rw [htn, trunc_over hI hcl hm t]
          exact hr

end

end Go.Proofs.Qxb6500695aGreatFmt
