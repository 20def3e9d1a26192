/-
  THE STORE, PART N: Burst.
-/
import Derived.Test.Qxb6500695aGreatFmtSm
namespace Go.Proofs.Qxb6500695aGreatFmt
open Go Go.Eng Go.Proofs
set_option maxRecDepth 100000
set_option linter.unusedVariables false
set_option linter.unusedSimpArgs false
set_option linter.unusedSectionVars false

theorem wrapU_nonneg (x : Int) : 0 ≤ IntKind.wrap .u64 x := by
  simp only [IntKind.wrap, IntKind.bits, IntKind.signed]
  simp
  omega

theorem binIs_shl_ex {P : Program} {t : TypeId} {x y : Operand} {a n : Int} (hn : 0 ≤ n) : ∃ r : Int, BinIs P .shl t x y (.int .u64 a) (.int .u64 n) (.int .u64 r) := by
  refine ⟨IntKind.wrap .u64 (a * 2 ^ (min n.toNat IntKind.u64.bits)), fun w => ?_⟩
  have : ¬ n < 0 := by omega
  simp [eqGuard, binOp, Op.shift, this]

theorem binIs_shr_ex {P : Program} {t : TypeId} {x y : Operand} {a n : Int} (hn : 0 ≤ n) : ∃ r : Int, BinIs P .shr t x y (.int .u64 a) (.int .u64 n) (.int .u64 r) := by
  refine ⟨Int.fdiv a (2 ^ (min n.toNat IntKind.u64.bits)), fun w => ?_⟩
  have : ¬ n < 0 := by omega
  simp [eqGuard, binOp, Op.shift, this]

theorem binIs_xor_ex {P : Program} {t : TypeId} {x y : Operand} {a b : Int} : ∃ r : Int, BinIs P .xor t x y (.int .u8 a) (.int .u8 b) (.int .u8 r) := by
  refine ⟨IntKind.wrap .u8 ((BitVec.ofInt IntKind.u8.bits a ^^^ BitVec.ofInt IntKind.u8.bits b).toNat : Int), fun w => ?_⟩
  simp [eqGuard, binOp, Op.intBits]

theorem sliceIs_arr5 {b n : Nat} (hn : n ≤ 5) : SliceIs Tryz.prog 219 (.pointer (some ⟨b, 0, none⟩)) none (some (.int .i64 (n : Int))) none (.slice (some ⟨b, 0, none⟩) n 5) := by
  intro w
  have h0 : ∀ a : Addr, a.add 0 = a := fun a => by simp [Addr.add]
  have hi : Tryz.prog.info? 5 = some Tryz.t5 := by kernel_rfl
  have hu : Tryz.prog.underlying 219 = some (.array 5 5) := by kernel_rfl
  unfold Instr.sliceAt
  simp [underlying, hu, Instr.sliceBounds, Instr.sliceBound, sizeOf, typeInfo, hi, hn, asInt, asIntOf, Instr.sureAddr, h0]

/-- Burst, as far as it is used: it leaves what a write and a sync leave. -/
def burst2 (ss : Nat) (E : Nat → Value) (nm : ByteArray) (P : Pw) (s : StV) (v : Value) (s' : StV) (P' : Pw) : Prop := syncR ss E P s nm v s' ∧ P' = P.spend.1
def burst1 (ss cap : Nat) (E : Nat → Value) (nm : ByteArray) (P : Pw) (s : StV) (v : Value) (s' : StV) (P' : Pw) : Prop :=
  ∃ off src n v2 s2, writeR ss cap E P s nm off src (.tuple #[.int .i64 n, v2]) s2 ∧ ((v2 ≠ .nilIface ∧ v = v2 ∧ s' = s2 ∧ P' = P.spend.1) ∨ (v2 = .nilIface ∧ burst2 ss E nm P.spend.1 s2 v s' P'))
def burstR (ss cap : Nat) (E : Nat → Value) (nm : ByteArray) (P : Pw) (s : StV) (v : Value) (s' : StV) (P' : Pw) : Prop :=
  (errV E v ∧ s' = s ∧ P' = P) ∨ burst1 ss cap E nm P s v s' P'

section
variable {S : Nat × Int → Prop} {H H' : Heap} {g g' : Gh} {k : Int} {sb ss cap bd pwb N : Nat} {s s' : StV} {E : Nat → Value} {P : Pw} {v : Value} {nm : ByteArray}

theorem burstR.inv {P' : Pw} (h : burstR ss cap E nm P s v s' P') (hI : StI ss cap N s) : StI ss cap N s' := by
  rcases h with ⟨_, h, _⟩ | ⟨off, src, n, v2, s2, h1, h⟩
  · subst h; exact hI
  · have I1 := h1.inv hI
    rcases h with ⟨_, _, h, _⟩ | ⟨_, h, _⟩
    · subst h; exact I1
    · exact h.inv I1

theorem burstR.err {P' : Pw} (h : burstR ss cap E nm P s v s' P') : errV E v := by
  rcases h with ⟨h, _⟩ | ⟨off, src, n, v2, s2, h1, h⟩
  · exact h
  · rcases h with ⟨_, h, _⟩ | ⟨_, h, _⟩
    · obtain ⟨n', e, he, hx⟩ := h1.shape
      have : v2 = e := by
        have h9 := Value.tuple.inj he
        simp at h9
        exact h9.2
      rw [h, this]
      exact hx
    · exact h.err

theorem f74_L3_ht {H0 : Heap} {g0 : Gh} (hE : Ev (SpN k) H0 g0 H g) (hG : Gl H g E) (h : StR H g k sb ss cap bd pwb s) (hp : PwR H g k pwb P) (hI : StI ss cap N s) (hbd : bd + 64 < 2 ^ 31) {first wide : Int} (hf : first < 2 ^ 63) {wb n : Nat} (hwb : g wb = none) (hn : n ≤ 5) :
    ∀ (d i : Nat) (G : Heap) (bs : List Int), n - i = d → i ≤ n → (∀ x, x ≠ wb → G x = H x) → bs.length = 5 → G wb = some (.cells (bs.map fun x => Value.int .u8 x).toArray 219 (0, 0)) →
      f74_L3 (some ⟨sb, 0, none⟩) nm first wide wb (n : Int) (i : Int) G (seqPost H0 g0 k sb ss cap (bd + 16) pwb (burstR ss cap E nm P s)) := by
  intro d
  induction d with
  | zero =>
    intro i G bs hd hi hk hbl hw
    apply f74_L3_of
    refine ⟨fun hx => by have := of_decide_eq_true hx; omega, fun _ => ⟨_, _, _, sliceIs_arr5 hn, ?_⟩⟩
    have e1 := Ev.untag hE.ok hwb hk
    -- the window is read only from here on
    have e2 : Ev (fun _ => False) G g G (gset g wb (0, 0)) := by
      refine ⟨fun x tg hx => ?_, fun x tg hx => ?_, fun _ _ _ _ => rfl⟩
      · unfold gset at hx
        split at hx
        · rename_i hxx; rw [hxx, hw]; simp
        · exact e1.ok x tg hx
      · unfold gset
        rw [if_neg (fun hc : x = wb => by rw [hc, hwb] at hx; cases hx)]
        exact hx
    have e12 := e1.trans e2
    have E2 : Ev (SpN k) H0 g0 G _ := hE.trans (e12.mono fun tg h => h.elim)
    have hsrc : Src G (some ⟨wb, 0, none⟩) n 5 (bs.take n) := by
      refine ⟨by simp; omega, hn, .inr ⟨wb, 0, rfl, Cells.of hw ?_⟩⟩
      simp only [List.drop_zero, List.length_map, List.length_take]
      rw [List.map_take, Nat.min_eq_left (by omega)]
    have G2 := hG.ev e12 (fun h => h)
    have r2 := h.off e12 none_off
    have p2 := hp.off e12 fun tg h => h.elim
    refine (f66_ht e2.ok G2 r2 p2 (hI.toN (by omega)) hI.mT hsrc (fun a ha => by cases ha; simp [gset]) (nm := nm) (off := first) hf (by omega)).mono fun v H3 ⟨s3, g3, e3, r3, p3, hwr⟩ => ?_
    obtain ⟨n3, v3, hv3, herr⟩ := hwr.shape
    subst hv3
    have G3 := G2.ev e3 SpN.zero
    have I3 := hwr.inv hI
    have E3 := E2.trans e3
    refine ⟨n3, v3, rfl, errK G3 herr (fun hne => ⟨s3, P.spend.1, g3, E3, r3, p3, .inr ⟨first, _, n3, v3, s3, hwr, .inl ⟨hne, rfl, rfl, rfl⟩⟩⟩) fun hnil => ?_⟩
    refine (f70_ht e3.ok G3 r3 p3 (I3.toN (by omega)) I3.mT (nm := nm)).mono fun v4 H4 ⟨s4, g4, e4, r4, p4, hsy⟩ => ⟨_, rfl, ?_⟩
    exact ⟨s4, _, g4, E3.trans e4, r4, p4, .inr ⟨first, _, n3, v3, s3, hwr, .inr ⟨hnil, hsy, rfl⟩⟩⟩
  | succ d ih =>
    intro i G bs hd hi hk hbl hw
    apply f74_L3_of
    refine ⟨fun _ => ?_, fun hx => by have := of_decide_eq_false hx; omega⟩
    obtain ⟨x90, h90⟩ := binIs_shr_ex (P := Tryz.prog) (t := 50) (x := .tmp 86) (y := .tmp 89) (a := wide) (n := IntKind.wrap .u64 ((8 : Int) * (IntKind.wrap .u64 (i : Int)))) (wrapU_nonneg _)
    obtain ⟨x92, h92⟩ := binIs_xor_ex (P := Tryz.prog) (t := 5) (x := .tmp 85) (y := .tmp 91) (a := bs[i]'(by omega)) (b := IntKind.wrap .u8 x90)
    have hc : Cells G wb (0 + (i : Int).toNat * 1) [.int .u8 (bs[i]'(by omega))] := by
      refine Cells.of hw ?_
      rw [show 0 + (i : Int).toNat * 1 = i by omega]
      show List.take 1 (List.drop i (bs.map fun x => Value.int .u8 x)) = _
      rw [List.drop_eq_getElem_cons (by simp; omega)]
      simp
    refine ⟨by omega, by omega, _, hc, x90, h90, x92, h92, by omega, by omega, _, _, hw, by simp; omega, fun G1 hw1 => ?_⟩
    rw [wrapS (by omega)]
    refine ih (i + 1) G1 (bs.set i x92) (by omega) (by omega) (fun x hx => by rw [hw1.other hx]; exact hk x hx) (by simp; exact hbl) ?_
    rw [hw1.same]
    congr 2
    apply Array.ext'
    apply List.ext_getElem?
    intro j
    rw [Array.getElem?_toList, setAll_get _ _ _ _ (by simp; omega)]
    simp only [List.length_cons, List.length_nil, Int.toNat_natCast, Nat.zero_add, Nat.mul_one]
    show _ = ((bs.set i x92).map fun x => Value.int .u8 x)[j]?
    rw [List.getElem?_map, List.getElem?_set, List.getElem?_toArray, List.getElem?_map]
    by_cases hj : i = j
    · subst hj
      rw [if_pos (by omega), if_pos rfl, if_pos (by omega)]
      simp
    · rw [if_neg (by omega), if_neg hj]

theorem f74_ht (hg : GOk H g) (hG : Gl H g E) (h : StR H g k sb ss cap bd pwb s) (hp : PwR H g k pwb P) (hI : StI ss cap N s) (hbd : bd + 64 < 2 ^ 31) {bit pat : Int} (hbit : bit < 2 ^ 63) :
    HT Tryz.prog 74 [.pointer (some ⟨sb, 0, none⟩), .string nm, .int .i64 bit, .int .u32 pat] H (seqPost H g k sb ss cap (bd + 16) pwb (burstR ss cap E nm P s)) := by
  have hN := hI.toN (bd := bd) (by omega)
  have hm : cap * ss ≤ 12 * 16 := Nat.mul_le_mul hI.shp.2.2 hI.shp.2.1
  have same : ∀ {v : Value}, errV E v → seqPost H g k sb ss cap (bd + 16) pwb (burstR ss cap E nm P s) v H := fun hv => ⟨s, P, g, Ev.refl hg, h.mono (by omega), hp, .inl ⟨hv, rfl, rfl⟩⟩
  apply f74_of
  refine checkK hG h hp (fun hd => same (.inr ⟨0, by decide, by decide, rfl⟩)) fun hd => ?_
  refine findK hG h (fun hf => same errV.fe) fun ob hf => ?_
  have hbT := fnd_T hI.mT hf
  have hO := h.obs ob hbT
  obtain ⟨sp, sn, sc, oo, _⟩ := hO.ex
  have hfs := hO.fit.1
  refine ⟨fun _ => ?_, fun _ => ?_⟩
  · obtain ⟨t, x, he, hc⟩ := hG.get 2 (by decide) (by decide)
    exact ⟨t, x, hc, same (.inr ⟨2, by decide, by decide, he.symm⟩)⟩
  have bad : f74_L1 (some ⟨sb, 0, none⟩) nm bit pat (some ⟨ob, 0, none⟩) true H (seqPost H g k sb ss cap (bd + 16) pwb (burstR ss cap E nm P s)) := by
    apply f74_L1_of
    refine ⟨fun _ => ?_, (fun h => by cases h)⟩
    obtain ⟨t, x, he, hc⟩ := hG.get 3 (by decide) (by decide)
    exact ⟨t, x, hc, same (.inr ⟨3, by decide, by decide, he.symm⟩)⟩
  refine ⟨fun _ => bad, fun hb0 => ⟨ob, 0, rfl, _, Cells.of oo rfl, ?_⟩⟩
  have hb0 := of_decide_eq_false hb0
  obtain ⟨bt, hbt⟩ : ∃ bt : Nat, bit = (bt : Int) := ⟨bit.toNat, by omega⟩
  subst hbt
  have hdiv : Int.tdiv (bt : Int) 8 = ((bt / 8 : Nat) : Int) := by
    rw [Int.tdiv_eq_ediv_of_nonneg (by omega)]; simp
  have hw8 : IntKind.wrap .i64 (Int.tdiv (bt : Int) 8) = ((bt / 8 : Nat) : Int) := by rw [hdiv, wrapI] <;> omega
  rw [hw8]
  cases hbig : decide (((bt / 8 : Nat) : Int) ≥ ((s.O ob).size : Int)) with
  | true => exact bad
  | false =>
    have hbig := of_decide_eq_false hbig
    apply f74_L1_of
    refine ⟨(fun h => by cases h), fun _ => ?_⟩
    obtain ⟨x59, h59⟩ := binIs_shl_ex (P := Tryz.prog) (t := 50) (x := .tmp 55) (y := .tmp 58) (a := IntKind.wrap .u64 pat) (n := IntKind.wrap .u64 (Int.tmod (bt : Int) 8)) (wrapU_nonneg _)
    refine ⟨x59, h59, fun wb H1 ha => ?_⟩
    have hwb := GOk.fresh hg ha.fresh
    have e1 : Ev (fun _ => False) H g H1 g := Ev.sub hg ha.sub
    have oo1 := ha.keep oo
    rw [hw8]
    have hw2 : IntKind.wrap .i64 (((s.O ob).size : Int) - ((bt / 8 : Nat) : Int)) = (((s.O ob).size - bt / 8 : Nat) : Int) := by rw [wrapI] <;> omega
    have last : ∀ n : Nat, n ≤ 5 → f74_L2 (some ⟨sb, 0, none⟩) nm (some ⟨ob, 0, none⟩) ((bt / 8 : Nat) : Int) x59 wb (n : Int) H1 (seqPost H g k sb ss cap (bd + 16) pwb (burstR ss cap E nm P s)) := by
      intro n hn
      have r1 := h.off e1 none_off
      have hO1 := r1.obs ob hbT
      apply f74_L2_of
      refine ⟨ob, 0, rfl, _, Cells.of oo1 rfl, _, _, _, sliceIs_arr5 hn, ?_⟩
      refine (f78_ht e1.ok hO1.pl (by omega) hwb ha.same (o := 0) (n := n) (c := 5) (off := bt / 8) (by simp; omega) hn (by omega) (by omega)).mono fun v H2 ⟨hv2, hk2, arr', hb2, harr⟩ => ⟨hv2, ?_⟩
      have e2 := Ev.untag e1.ok hwb hk2
      have e12 := e1.trans e2
      have hbs : ∃ bs : List Int, bs.length = 5 ∧ arr' = (bs.map fun x => Value.int .u8 x).toArray := by
        have hl := rdF_len hO1.pl n (bt / 8) n (Nat.le_refl _)
        refine ⟨over [0, 0, 0, 0, 0] 0 (rdF ss (s.O ob).pl n (bt / 8) n), ?_, ?_⟩
        · rw [over_len (by rw [hl]; simpa using hn)]
          rfl
        · apply Array.ext'
          rw [harr]
          simp [over]
      obtain ⟨bs, hbl, hbe⟩ := hbs
      subst hbe
      exact f74_L3_ht (e12.mono fun tg h => h.elim) (hG.ev e12 (fun h => h)) (h.off e12 none_off) (hp.off e12 fun tg h => h.elim) hI hbd (by omega) hwb hn _ 0 H2 bs rfl (Nat.zero_le _) (fun _ _ => rfl) hbl hb2
    refine ⟨ob, 0, rfl, _, Cells.of oo1 rfl, fun hlt => ?_, fun hlt => ?_⟩
    · rw [hw2] at hlt ⊢
      have hlt := of_decide_eq_true hlt
      exact last _ (by omega)
    · exact last 5 (by omega)

end

end Go.Proofs.Qxb6500695aGreatFmt
