/-
  THE STORE, PART J: List, ReadAt.
-/
import Derived.Test.Qxb6500695aGreatFmtSi
import Derived.Test.Qxb6500695aGreatFmtVk
namespace Go.Proofs.Qxb6500695aGreatFmt
open Go Go.Eng Go.Proofs
set_option maxRecDepth 100000
set_option linter.unusedVariables false
set_option linter.unusedSimpArgs false
set_option linter.unusedSectionVars false

def hasPre (s p : ByteArray) : Bool := decide (p.size ≤ s.size) && decide (s.extract 0 p.size = p)

theorem sliceIs_str {s : ByteArray} {n : Nat} (hn : n ≤ s.size) : SliceIs Tryz.prog 9 (.string s) none (some (.int .i64 (n : Int))) none (.string (s.extract 0 n)) := by
  intro w
  unfold Instr.sliceAt Instr.slice
  simp [underlying, Tryz.underlying9, Instr.sliceBounds, Instr.sliceBound, asInt, asIntOf, hn]

section
variable {S : Nat × Int → Prop} {H H' : Heap} {g g' : Gh} {k : Int} {sb ss cap bd pwb db : Nat} {s : StV} {E : Nat → Value} {P : Pw} {m st : NM} {xs : List ByteArray} {jr : List Jr}

theorem f131_ht (s p : ByteArray) : HT Tryz.prog 131 [.string s, .string p] H fun v H' => H' = H ∧ v = .bool (hasPre s p) := by
  have h180 : HT Tryz.prog 180 [.string s, .string p] H fun v H' => H' = H ∧ v = .bool (hasPre s p) := by
    apply f180s_of
    refine ⟨fun h => ?_, fun h => ?_⟩
    · have h := of_decide_eq_true h
      have hle : p.size ≤ s.size := by omega
      refine ⟨_, sliceIs_str hle, _, binIs_str_eql, rfl, ?_⟩
      unfold hasPre
      rw [decide_eq_true hle]
      rfl
    · have h := of_decide_eq_false h
      have hle : ¬ p.size ≤ s.size := by omega
      refine ⟨rfl, ?_⟩
      unfold hasPre
      rw [decide_eq_false hle]
      rfl
  apply f131_of
  exact h180.mono fun v H1 ⟨he, hv⟩ => ⟨_, hv, he, rfl⟩

theorem f132_ht {p : Option Addr} {n c : Nat} {ys : List ByteArray} (hn : n = ys.length) (hb : n < 2 ^ 30) (hp0 : p = none → n = 0) (hq : 0 < n → ∃ b o, p = some ⟨b, o, none⟩ ∧ Cells H b o (ys.map Value.string)) :
    HT Tryz.prog 132 [.slice p n c] H fun v H' => Sub H H' ∧ ∃ p' c', v = .slice p' n c' ∧ New H p' ∧ OwnL H' 9 1 Str.cs p' n c' ys := by
  have hi9 : Tryz.prog.info? 9 = some Tryz.t9 := by kernel_rfl
  apply f132_of
  refine ⟨_, binIs_slice_eql Tryz.underlying49, fun hx => ?_, fun hx b5 H1 ha => ?_⟩
  · have hpn : p = none := by cases p with
      | none => rfl
      | some a => cases hx
    have h0 := hp0 hpn
    have hy : ys = [] := List.eq_nil_of_length_eq_zero (by omega)
    subst hy
    refine ⟨fun b o h => h, none, 0, by rw [h0], New.none _, ?_⟩
    rw [h0]
    exact OwnL.nil Str.size
  · have hs : OwnL H1 9 1 Str.cs (some ⟨b5, 0, none⟩) 0 0 [] := ⟨rfl, Str.size, .inr ⟨b5, 0, #[], rfl, ha.same, Nat.le_refl _, by simp, by simp⟩⟩
    refine appN (H0 := H) (inf := Tryz.t9) (zero := .string ⟨#[]⟩) (ys := ys) (enc := Str.cs) Tryz.underlying49 hi9 rfl rfl (by decide) rfl hs hn (fun hpos => ?_) (by intro x v hv; simp [Str.cs] at hv; subst hv; rfl) (by omega) ha.sub (fun a h => by cases h; exact ha.fresh) fun p' c' H' hsub hnew hown _ => ⟨_, _, _, rfl, hsub, p', c', by rw [Nat.zero_add], hnew, ?_⟩
    · obtain ⟨b, o, h1, h2⟩ := hq hpos
      refine ⟨b, o, h1, ?_⟩
      rw [flat_str]
      exact ha.sub.cells h2
    · rw [Nat.zero_add] at hown
      exact hown

/-- What list answers: a run of the names. -/
def listPost (H : Heap) (xs : List ByteArray) (pre : ByteArray) (v : Value) (H' : Heap) : Prop :=
  Sub H H' ∧ ∃ p n c lo hi, v = .slice p n c ∧ lo ≤ hi ∧ hi ≤ xs.length ∧ Spot xs pre lo ∧ (∀ j (h : j < xs.length), lo ≤ j → j < hi → hasPre xs[j] pre = true) ∧ (∀ (h : hi < xs.length), hasPre xs[hi] pre = false) ∧ New H p ∧ OwnL H' 9 1 Str.cs p n c ((xs.take hi).drop lo)

theorem f82_ht (h : DirR H g k db m xs st jr) (hs : Srt xs) (hb : xs.length < 2 ^ 30) (pre : ByteArray) : HT Tryz.prog 82 [.pointer (some ⟨db, 0, none⟩), .string pre] H (listPost H xs pre) := by
  obtain ⟨lr, op, on, oc, sr, jp, jn, jc, h1, h2, h3, h4, h5, h6, h7⟩ := h.ex
  have hlen := h4.own.len
  have hnc := h4.own.lenc
  have hi9 : Tryz.prog.info? 9 = some Tryz.t9 := by kernel_rfl
  apply f82_of
  refine ⟨db, 0, rfl, op, on, oc, Cells.of h1 rfl, ?_⟩
  refine (f130_ht (c := oc) (x := pre) (.of h4.own) hs (by omega)).mono fun v H1 ⟨hs1, lo, hv, hsp⟩ => ⟨_, hv, ?_⟩
  have h11 := hs1 _ _ h1
  have h41 := h4.sub hs1
  have hsl := hsp.1
  have loop : ∀ (d hi : Nat), xs.length - hi = d → lo ≤ hi → hi ≤ xs.length → (∀ j (h : j < xs.length), lo ≤ j → j < hi → hasPre xs[j] pre = true) → f82_L1 (some ⟨db, 0, none⟩) pre (lo : Int) (hi : Int) H1 (listPost H xs pre) := by
    have last : ∀ hi, lo ≤ hi → hi ≤ xs.length → (∀ j (h : j < xs.length), lo ≤ j → j < hi → hasPre xs[j] pre = true) → (∀ (h : hi < xs.length), hasPre xs[hi] pre = false) → f82_L3 (some ⟨db, 0, none⟩) (lo : Int) (hi : Int) H1 (listPost H xs pre) := by
      intro hi hlo hhi hall hno
      apply f82_L3_of
      refine ⟨db, 0, rfl, op, on, oc, Cells.of h11 rfl, _, _, _, sliceIs_lohi Tryz.underlying49 hi9 rfl hlo (by omega), ?_⟩
      refine (f132_ht (H := H1) (ys := (xs.take hi).drop lo) (by simp; omega) (by omega) (fun hx => ?_) fun hpos => ?_).mono fun v H2 ⟨hs2, p', c', hv2, hn2, ho2⟩ => ⟨_, _, _, hv2, fun b o hb => hs2 _ _ (hs1 _ _ hb), p', _, c', lo, hi, rfl, hlo, hhi, hsp, hall, hno, fun a ha => ?_, ho2⟩
      · rcases h41.own.own with ⟨a1, a2, _⟩ | ⟨b, o, arr, a1, _⟩
        · omega
        · rw [a1] at hx
          unfold advP at hx
          split at hx <;> simp at hx
      · obtain ⟨b, o, arr, a1, a2, a3, a4, a5, _⟩ := ownT_row h41 (by omega)
        subst a1
        by_cases hc : oc = lo
        · omega
        · refine ⟨b, o + lo, ?_, ?_⟩
          · unfold advP
            rw [if_neg hc]
            simp [addr_add]
          · refine Cells.of a2 ?_
            apply List.ext_getElem?
            intro i
            rw [List.getElem?_take, List.getElem?_drop, Array.getElem?_toList]
            simp only [List.length_map, List.length_drop, List.length_take, List.getElem?_map, List.getElem?_drop, List.getElem?_take]
            rw [Nat.min_eq_left hhi]
            by_cases hi' : i < hi - lo
            · rw [if_pos hi', if_pos (by omega), Nat.add_assoc, row_get a5 (by omega), List.getElem?_map]
            · rw [if_neg hi', if_neg (by omega)]
              rfl
      · cases hc : H a.block with
        | none => rfl
        | some y => have := hn2 a ha; rw [hs1 _ _ hc] at this; cases this
    intro d
    induction d with
    | zero =>
      intro hi hd hlo hhi hall
      apply f82_L1_of
      refine ⟨db, 0, rfl, op, on, oc, Cells.of h11 rfl, fun hx => by have := of_decide_eq_true hx; omega, fun _ => ?_⟩
      apply f82_L2_of
      exact ⟨(fun h => by cases h), fun _ => last hi hlo hhi hall fun h => by omega⟩
    | succ d ih =>
      intro hi hd hlo hhi hall
      have hil : hi < xs.length := by omega
      obtain ⟨b, o, hp, hc⟩ := h41.own.cells (i := hi) hil
      apply f82_L1_of
      refine ⟨db, 0, rfl, op, on, oc, Cells.of h11 rfl, fun _ => ⟨db, 0, rfl, op, on, oc, Cells.of h11 rfl, b, o, hp, by omega, by omega, xs[hi], by simpa [Str.cs] using hc, ?_⟩, fun hx => by have := of_decide_eq_false hx; omega⟩
      refine (f131_ht xs[hi] pre).mono fun v H2 ⟨he, hv2⟩ => ⟨_, hv2, ?_⟩
      subst he
      apply f82_L2_of
      refine ⟨fun ht => ?_, fun hf => last hi hlo hhi hall fun _ => hf⟩
      rw [wrapS (by omega)]
      refine ih (hi + 1) (by omega) (by omega) (by omega) fun j hj hlj hjh => ?_
      rcases Nat.lt_or_ge j hi with h8 | h8
      · exact hall j hj hlj h8
      · have : j = hi := by omega
        subst this
        exact ht
  exact loop _ lo rfl (Nat.le_refl _) hsl fun j _ h1 h2 => by omega

def listR (E : Nat → Value) (P : Pw) (xs : List ByteArray) (pre : ByteArray) (H : Heap) (v : Value) (H' : Heap) : Prop :=
  (P.down = true ∧ H' = H ∧ v = .tuple #[.slice none 0 0, E 0]) ∨ (P.down = false ∧ ∃ w, v = .tuple #[w, .nilIface] ∧ listPost H xs pre w H')

theorem f26_ht (hG : Gl H g E) (h : StR H g k sb ss cap bd pwb s) (hp : PwR H g k pwb P) (hs : Srt s.xs) (hxb : s.xs.length < 2 ^ 30) (pre : ByteArray) :
    HT Tryz.prog 26 [.pointer (some ⟨sb, 0, none⟩), .string pre] H (listR E P s.xs pre H) := by
  apply f26_of
  refine checkK hG h hp (fun hd => .inl ⟨hd, rfl, rfl⟩) fun hd => ?_
  obtain ⟨db, q, kk, dd⟩ := h.ex
  refine ⟨sb, 0, rfl, _, Cells.of kk rfl, ?_⟩
  refine (f82_ht dd hs hxb pre).mono fun v H1 hl => ?_
  obtain ⟨hsub, p, n, c, lo, hi, hv, rest⟩ := hl
  exact ⟨p, n, c, hv, .inr ⟨hd, _, rfl, hsub, p, n, c, lo, hi, rfl, rest⟩⟩

/-- What ReadAt answers: how many bytes, whether all is well. -/
def readR (E : Nat → Value) (P : Pw) (s : StV) (nm : ByteArray) (off : Int) (n : Nat) (v : Value) : Prop :=
  (P.down = true ∧ v = .tuple #[.int .i64 0, E 0]) ∨ (P.down = false ∧ ((fnd s nm = none ∧ v = .tuple #[.int .i64 0, fe E nm]) ∨ ∃ b, fnd s nm = some b ∧
    (((off < 0 ∨ off > ((s.O b).size : Int)) ∧ v = .tuple #[.int .i64 0, E 3]) ∨ (∃ o : Nat, off = (o : Int) ∧ o ≤ (s.O b).size ∧ v = .tuple #[.int .i64 ((min n ((s.O b).size - o) : Nat) : Int), if n ≤ (s.O b).size - o then .nilIface else E 6]))))

theorem f69_ht (hg : GOk H g) (hG : Gl H g E) (h : StR H g k sb ss cap bd pwb s) (hp : PwR H g k pwb P) (hN : StN ss cap bd s) (hmT : ∀ x b, s.m x = some b → b ∈ s.T) {nm : ByteArray} {off : Int} {b n : Nat} {arr : Array Value} {T : TypeId} (hgb : g b = none) (hb : H b = some (.cells arr T (0, 0))) (hfit : n ≤ arr.size) (hn : n < 2 ^ 31) :
    HT Tryz.prog 69 [.pointer (some ⟨sb, 0, none⟩), .string nm, .slice (some ⟨b, 0, none⟩) n n, .int .i64 off] H fun v H' => Ev (SpI k) H g H' g ∧ StR H' g k sb ss cap bd pwb s ∧ readR E P s nm off n v := by
  have hm : cap * ss ≤ 12 * 16 := Nat.mul_le_mul hN.shp.2.2 hN.shp.2.1
  have hbdl := hN.bd
  apply f69_of
  refine checkK hG h hp (fun hd => ⟨Ev.refl hg, h, .inl ⟨hd, rfl⟩⟩) fun hd => ?_
  refine findK hG h (fun hf => ⟨Ev.refl hg, h, .inr ⟨hd, .inl ⟨hf, rfl⟩⟩⟩) fun ob hf => ?_
  have hbT := fnd_T hmT hf
  have hO := h.obs ob hbT
  obtain ⟨sp, sn, sc, oo, _⟩ := hO.ex
  have hfs := hO.fit.1
  have bad : ∀ (hx : off < 0 ∨ off > ((s.O ob).size : Int)), f69_L1 (some ⟨sb, 0, none⟩) (some ⟨b, 0, none⟩) n n off (some ⟨ob, 0, none⟩) true H fun v H' => Ev (SpI k) H g H' g ∧ StR H' g k sb ss cap bd pwb s ∧ readR E P s nm off n v := by
    intro hx
    apply f69_L1_of
    refine ⟨fun _ => ?_, (fun h => by cases h)⟩
    obtain ⟨t, x, he, hc⟩ := hG.get 3 (by decide) (by decide)
    exact ⟨t, x, hc, Ev.refl hg, h, .inr ⟨hd, .inr ⟨ob, hf, .inl ⟨hx, by rw [he]⟩⟩⟩⟩
  refine ⟨fun ho => bad (.inl (of_decide_eq_true ho)), fun ho => ⟨ob, 0, rfl, _, Cells.of oo rfl, ?_⟩⟩
  have ho := of_decide_eq_false ho
  cases hbig : decide (off > ((s.O ob).size : Int)) with
  | true => exact bad (.inr (of_decide_eq_true hbig))
  | false =>
    have hbig := of_decide_eq_false hbig
    obtain ⟨o, rfl⟩ : ∃ o : Nat, off = (o : Int) := ⟨off.toNat, by omega⟩
    have hw : IntKind.wrap .i64 (((s.O ob).size : Int) - (o : Int)) = (((s.O ob).size - o : Nat) : Int) := by rw [wrapI] <;> omega
    have last : ∀ kk : Nat, kk = min n ((s.O ob).size - o) → f69_L2 (some ⟨sb, 0, none⟩) (some ⟨b, 0, none⟩) n n (o : Int) (some ⟨ob, 0, none⟩) (kk : Int) H fun v H' => Ev (SpI k) H g H' g ∧ StR H' g k sb ss cap bd pwb s ∧ readR E P s nm (o : Int) n v := by
      intro kk hkk
      have hi5 : Tryz.prog.info? 5 = some Tryz.t5 := by kernel_rfl
      apply f69_L2_of
      refine ⟨ob, 0, rfl, _, Cells.of oo rfl, _, _, _, sliceIs_hi' Tryz.underlying35 hi5 (by omega), ?_⟩
      refine (f78_ht hg hO.pl (by omega) hgb hb (o := 0) (n := kk) (c := n) (off := o) (by omega) (by omega) (by omega) (by omega)).mono fun v H1 ⟨hv1, hk1, arr', hb1, _⟩ => ⟨hv1, ?_⟩
      have e1 := Ev.untag hg hgb hk1
      have r1 := h.off e1 none_off
      obtain ⟨db, q, k1, d1⟩ := r1.ex
      refine ⟨sb, 0, rfl, _, Cells.of k1 rfl, sb, 0, rfl, _, _, k1, by simp, fun H2 hw2 => ?_⟩
      obtain ⟨e2, r2⟩ := r1.own (used' := s.used) (nxt' := s.nxt) (q' := { q with a := IntKind.wrap .u64 (q.a + 1) }) e1.ok d1 hw2 rfl
      have EE : Ev (SpI k) H g H2 g := (e1.mono fun tg h => h.elim).trans (e2.mono fun tg h => SpI.st h)
      refine ⟨fun hlt => ?_, fun hlt => ?_⟩
      · have hlt := of_decide_eq_true hlt
        obtain ⟨t, x, he, hc⟩ := (hG.ev EE SpI.zero).get 6 (by decide) (by decide)
        refine ⟨t, x, hc, EE, r2, .inr ⟨hd, .inr ⟨ob, hf, .inr ⟨o, rfl, by omega, ?_⟩⟩⟩⟩
        rw [if_neg (by omega), he, hkk]
      · have hlt := of_decide_eq_false hlt
        refine ⟨EE, r2, .inr ⟨hd, .inr ⟨ob, hf, .inr ⟨o, rfl, by omega, ?_⟩⟩⟩⟩
        rw [if_pos (by omega), hkk]
    apply f69_L1_of
    refine ⟨(fun h => by cases h), fun _ => ⟨ob, 0, rfl, _, Cells.of oo rfl, fun hg1 => ?_, fun hg1 => ?_⟩⟩
    · rw [hw] at hg1 ⊢
      have hg1 := of_decide_eq_true hg1
      exact last _ (by omega)
    · rw [hw] at hg1
      have hg1 := of_decide_eq_false hg1
      exact last n (by omega)

end

end Go.Proofs.Qxb6500695aGreatFmt
