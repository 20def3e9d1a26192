/-
  CrashKeeps: BEHIND A STEP, PART 2: the device; a new object.
-/
import Derived.Test.Qxb6500695aGreatFmtKq
namespace Go.Proofs.Qxb6500695aGreatFmt
open Go Go.Eng Go.Proofs
set_option maxRecDepth 100000
set_option linter.unusedVariables false
set_option linter.unusedSimpArgs false
set_option linter.unusedSectionVars false

/-- What turns a device's books. -/
def SDv (k : Nat) (tg : Nat × Int) : Prop := tg = (50, (k : Int)) ∨ ∃ s, tg = (100 + s, eB k)

section
variable {S : Nat × Int → Prop} {H H1 H2 H' : Heap} {g g1 g2 g' : Gh} {E : Nat → Value} {sp : Option Addr} {sn : Nat} {ops : List OpV} {rb d4 o5 : Nat} {p : Nat → SlP} {mb : Nat → Nat} {bd M bk cn k nb pwb dvb sb : Nat} {nd : Nat → NdV} {hl : Nat → Nat → List Sv} {B : Nat → Int → Option Bk} {n' : NdV} {X : Heap → Prop}

theorem DvB.hlen {ss ns : Nat} {q : SlP} {h1 : Nat → List Sv} (h : DvB H g k ss ns bk q h1) {s : Nat} (hs : s < ns) : (h1 s).length ≤ bk := by
  obtain ⟨b, o, sx, _, _, hh⟩ := h.get hs
  exact hh.nb

theorem BkR.evD {ss ns m : Nat} {B1 : Int → Option Bk} (h : BkR H g k m ss ns bk cn B1) (ev : Ev S H g H' g') (hS : ∀ tg, S tg → tg = (27, (k : Int)) ∨ SDv k tg) : BkR H' g' k m ss ns bk cn B1 := by
  refine h.ev ev (fun hc => ?_) (fun hc => ?_) fun c _ tg ht hc => ?_
  · rcases hS _ hc with h | h | ⟨s, h⟩
    · simp at h
    · simp at h
    · simp at h; omega
  · rcases hS _ hc with h | h | ⟨s, h⟩
    · simp at h
    · simp at h
    · simp at h; omega
  · rcases hS _ hc with h | h | ⟨s, h⟩
    · rw [h] at ht; have := ht.2; simp at this
    · rw [h] at ht; have := ht.2; simp at this
    · rw [h] at ht; have := ht.1; simp [eB, cd] at this; omega

theorem NdR.evD {ss ns cap : Nat} {n : NdV} (hk : k < 3) (h : NdR H g (k : Int) nb pwb dvb sb ss ns cap bd n) (hpos : ∀ b ∈ n.s.T, 0 ≤ (n.s.O b).id) (ev : Ev S H g H' g') (hS : ∀ tg, S tg → SDv k tg) : NdR H' g' (k : Int) nb pwb dvb sb ss ns cap bd n := by
  refine h.evG hpos ev (fun hc => ?_) fun tg ht hc => ?_
  · rcases hS _ hc with h | ⟨s, h⟩
    · simp at h
    · simp at h; omega
  · have h1 := ht.rng ⟨by omega, by omega⟩
    rcases hS _ hc with h | ⟨s, h⟩
    · rw [h] at h1; simp at h1
    · rw [h] at h1; simp [eB] at h1; omega

theorem NdR.ev27 {ss ns cap : Nat} {n : NdV} (h : NdR H g (k : Int) nb pwb dvb sb ss ns cap bd n) (ev : Ev (fun tg => tg = (27, (k : Int))) H g H' g') (hd : DvR H' g' (k : Int) dvb ss ns bd pwb n.D) : NdR H' g' (k : Int) nb pwb dvb sb ss ns cap bd n := by
  have n27 : ∀ {j : Nat} {z : Int}, j ≠ 27 → ¬ ((fun tg : Nat × Int => tg = (27, (k : Int))) (j, z)) := fun hj hc => hj (by simpa using congrArg Prod.fst hc)
  exact ⟨h.nd.ev ev (n27 (by decide)), h.pw.ev ev (n27 (by decide)), hd, h.st.off ev fun tg ht hc => by rw [ht] at hc; simp at hc⟩

theorem cell3 {P : Nat → Value} {T d : Nat} (h : H d = some (.cells #[P 0, P 1, P 2] T (0, 0))) (hk : k < 3) : Cells H d (0 + ((k : Nat) : Int).toNat * 1) [P k] := by
  have hc : k = 0 ∨ k = 1 ∨ k = 2 := by omega
  rcases hc with rfl | rfl | rfl
  · exact Cells.of h rfl
  · exact Cells.of h rfl
  · exact Cells.of h rfl

theorem AP.dcell (h : AP E sp sn ops rb d4 o5 p mb H g bd M bk cn nd hl B k nb pwb dvb sb n' H2 g2) (ev : Ev (UK k) H g H1 g1) : Cells H1 d4 (0 + ((k : Nat) : Int).toNat * 1) [(p k).v] :=
  cell3 (P := fun j => (p j).v) (ev.get h.F.bs.dt (UK.mid h.hk (by simp)) h.F.bs.dx) h.hk

theorem AP.ocell (h : AP E sp sn ops rb d4 o5 p mb H g bd M bk cn nd hl B k nb pwb dvb sb n' H2 g2) (ev : Ev (UK k) H g H1 g1) : Cells H1 o5 (0 + ((k : Nat) : Int).toNat * 1) [.map (some (mb k))] :=
  cell3 (P := fun j => .map (some (mb j))) (ev.get h.F.bs.ot (UK.mid h.hk (by simp)) h.F.bs.ox) h.hk

variable {a0 a1 a4 a5 : Int} {a2 a3 : ByteArray} {a6 a7 : Option Addr} {a6n a6c a7n a7c : Nat} {x70 : Option Addr} {x70n x70c : Nat} {x71 x72 : Int} {R : Value → Heap → Prop}

/-- The books of a device behind a write. -/
theorem f3_L7_ht {off : Nat} (h : AP E sp sn ops rb d4 o5 p mb H g bd M bk cn nd hl B k nb pwb dvb sb n' H2 g2) (hup : n'.pw.down = false) (hcl : Cl p mb H g bd bk cn k nb pwb dvb sb n' (f3_L13 (some ⟨rb, 0, none⟩) d4 o5 x70 x70n x70c x71 x72 · R)) (hoff : off + a6n ≤ shN k * shS k) (ho63 : off < 2 ^ 62)
    (hh : ∀ j, j < shN k → hs (shS k) n'.D j = if 0 < a6n ∧ off / shS k ≤ j ∧ j * shS k < off + a6n then hl k j ++ [some (n'.D.seen (shS k) j)] else hl k j) (hop : ∀ b ∈ n'.s.T, ∃ y, B k (n'.s.O b).id = some y ∧ OP (shS k) (n'.s.O b) y.zs y.C) (hnx : ∀ i x, B k i = some x → i ≤ n'.s.nxt) :
    ∀ (d s : Nat) (H1 : Heap) (g1 : Gh) (h1 : Nat → List Sv), off + a6n + 1 - s = d → off / shS k ≤ s → (s = off / shS k ∨ ((s - 1) * shS k < off + a6n ∧ 1 ≤ s ∧ 0 < a6n)) → Ev (UK k) H g H1 g1 → NdR H1 g1 (k : Int) nb pwb dvb sb (shS k) (shN k) (shC k) (bd + 80) n' → DvB H1 g1 k (shS k) (shN k) (bk + 2) (p k) h1 → BkR H1 g1 k (mb k) (shS k) (shC k) bk cn (B k) →
      (∀ j, j < shN k → h1 j = if off / shS k ≤ j ∧ j < s then hl k j ++ [some (n'.D.seen (shS k) j)] else hl k j) →
      f3_L7 (some ⟨rb, 0, none⟩) d4 o5 a0 a1 a2 a3 (off : Int) a5 a6 a6n a6c a7 a7n a7c (k : Int) (some ⟨dvb, 0, none⟩) (shS k : Int) (s : Int) x70 x70n x70c x71 x72 H1 R := by
  have hk := h.hk
  obtain ⟨s0, s16, sc12, sn12⟩ := sh_ok (k := k)
  have hbb := h.bb
  have hm : shN k * shS k ≤ 12 * 16 := Nat.mul_le_mul sn12 s16
  have hi5 : Tryz.prog.info? 5 = some Tryz.t5 := by kernel_rfl
  generalize hss : shS k = ss at *
  generalize hns : shN k = ns at *
  have fin : ∀ (s : Nat) (H1 : Heap) (g1 : Gh) (h1 : Nat → List Sv), (∀ j, j < ns → h1 j = if 0 < a6n ∧ off / ss ≤ j ∧ j * ss < off + a6n then hl k j ++ [some (n'.D.seen ss j)] else hl k j) → Ev (UK k) H g H1 g1 → NdR H1 g1 (k : Int) nb pwb dvb sb ss ns (shC k) (bd + 80) n' → DvB H1 g1 k ss ns (bk + 2) (p k) h1 → BkR H1 g1 k (mb k) ss (shC k) bk cn (B k) →
      f3_L8 (some ⟨rb, 0, none⟩) d4 o5 a0 a1 a2 a3 (off : Int) a5 a6 a6n a6c a7 a7n a7c (k : Int) (some ⟨dvb, 0, none⟩) (ss : Int) (s : Int) x70 x70n x70c x71 x72 false H1 R := by
    intro s H1 g1 h1 hh1 e1 N1 D1 B1
    apply f3_L8_of
    refine ⟨(fun h => by cases h), fun _ => ?_⟩
    subst hss hns
    exact hcl H1 g1 h1 (B k) cn e1 N1 (Nat.le_refl _) D1 (B1.mono (by omega) (Nat.le_refl _)) ⟨fun j hj => by rw [hh1 j hj, hh j hj], hop, hnx, h.nm⟩
  intro d
  induction d with
  | zero =>
    intro s H1 g1 h1 hd hs hinv e1 N1 D1 B1 hh1
    have : s ≤ s * ss := Nat.le_mul_of_pos_right _ s0
    have hdl : off / ss ≤ off := Nat.div_le_self _ _
    exfalso
    have h2 : (s - 1) ≤ (s - 1) * ss := Nat.le_mul_of_pos_right _ s0
    rcases hinv with hi | ⟨hi, _⟩
    · omega
    · omega
  | succ d ih =>
    intro s H1 g1 h1 hd hs hinv e1 N1 D1 B1 hh1
    have hdl : off / ss ≤ off := Nat.div_le_self _ _
    have hdm := Nat.div_mul_le_self off ss
    apply f3_L7_of
    refine ⟨fun hpos => ?_, fun hpos => ?_⟩
    · have hpos := of_decide_eq_true hpos
      have himul : ((s : Int) * (ss : Int)) = ((s * ss : Nat) : Int) := by simp
      have hs3 : s * ss ≤ off + a6n + 16 := by
        rcases hinv with hi | ⟨hi, h1', _⟩
        · rw [hi]; omega
        · have : s * ss = (s - 1) * ss + ss := by
            obtain ⟨m, rfl⟩ : ∃ m, s = m + 1 := ⟨s - 1, by omega⟩
            rw [Nat.add_mul, Nat.one_mul, Nat.add_sub_cancel]
          omega
      have hsl : s ≤ s * ss := Nat.le_mul_of_pos_right _ s0
      have hw1 : IntKind.wrap .i64 ((s : Int) * (ss : Int)) = ((s * ss : Nat) : Int) := by rw [himul, wrapI] <;> omega
      have hw2 : IntKind.wrap .i64 ((off : Int) + (a6n : Int)) = ((off + a6n : Nat) : Int) := by rw [wrapI] <;> omega
      rw [hw1, hw2]
      cases hlt : decide (((s * ss : Nat) : Int) < ((off + a6n : Nat) : Int)) with
      | false =>
        have hlt := of_decide_eq_false hlt
        refine fin s H1 g1 h1 (fun j hj => ?_) e1 N1 D1 B1
        rw [hh1 j hj]
        have hiff : (off / ss ≤ j ∧ j < s) ↔ (0 < a6n ∧ off / ss ≤ j ∧ j * ss < off + a6n) := by
          constructor
          · rintro ⟨x1, x2⟩
            refine ⟨by omega, x1, ?_⟩
            rcases hinv with hi | ⟨hi, h1', _⟩
            · omega
            · have x3 : j ≤ s - 1 := by omega
              have := Nat.mul_le_mul_right ss x3
              omega
          · rintro ⟨x1, x2, x3⟩
            refine ⟨x2, ?_⟩
            have x4 : j * ss < s * ss := by omega
            exact Nat.lt_of_mul_lt_mul_right x4
        simp only [hiff]
      | true =>
        have hlt := of_decide_eq_true hlt
        have hsn : s < ns := by
          have : s * ss < ns * ss := by omega
          exact Nat.lt_of_mul_lt_mul_right this
        have hhs : h1 s = hl k s := by rw [hh1 s hsn, if_neg (by omega)]
        apply f3_L8_of
        refine ⟨fun _ => ?_, (fun h => by cases h)⟩
        refine semOk_make (l := ss) (c := ss) Tryz.underlying35 hi5 (z := .int .u8 0) rfl rfl rfl (Nat.le_refl _) (by omega) (by decide) fun vb H3 ha3 => ⟨_, _, _, rfl, ?_⟩
        have hvg : g1 vb = none := GOk.fresh e1.ok ha3.fresh
        have e3 : Ev (fun _ => False) H1 g1 H3 g1 := Ev.sub e1.ok ha3.sub
        have G3 := (h.F.gl.ev e1 (UK.zero hk)).ev e3 (fun h => h)
        have N3 := N1.off e3 none_offN
        refine (f22_ht e3.ok G3 N3.dv N3.pw (by omega) hup hsn hvg ha3.same (by simp)).mono fun v H4 ⟨hv4, g4, e4, D4, sec4⟩ => ⟨_, rfl, ?_⟩
        subst hv4
        refine ⟨_, binIs_if_neq (.inl rfl) Tryz.underlying48, (fun h => by cases h), fun _ => ?_⟩
        have N4 := N3.ev27 e4 D4
        have e14 : Ev (fun tg => tg = (27, (k : Int))) H1 g1 H4 g4 := (e3.mono fun tg h => h.elim).trans e4
        have e04 : Ev (UK k) H g H4 g4 := e1.trans (e14.mono fun tg h => .inr (.inl h))
        have n27 : ∀ {j : Nat} {z : Int}, j ≠ 27 → ¬ ((fun tg : Nat × Int => tg = (27, (k : Int))) (j, z)) := fun hj hc => hj (by simpa using congrArg Prod.fst hc)
        have Dv4 := D1.ev e14 (n27 (by decide)) (n27 (by decide)) fun s => n27 (by omega)
        have B4 := B1.evD e14 fun tg h => .inl h
        have hc4 := h.dcell e04
        obtain ⟨b163, o163, sx, hp, hcx, hhi⟩ := Dv4.get hsn
        rw [hhs] at hhi
        have hpn := Dv4.len
        have hbk' := h.D.hlen (s := s) (by rw [hns]; exact hsn)
        have hhi' : HiL H4 g4 (eB k) ss bk s sx.p sx.n sx.c (hl k s) := ⟨hhi.own, hhi.ne, hhi.so, hbk'⟩
        refine ⟨by omega, by omega, _, _, _, hc4, by omega, by omega, _, _, _, hc4, b163, o163, hp, by omega, by omega, sx.p, sx.n, sx.c, by simpa [Sec.val] using hcx, fun b166 H5 ha5 => ?_⟩
        refine hhi'.app e4.ok (by omega) (sx := ⟨some ⟨vb, 0, none⟩, ss, ss⟩) ha5 sec4 fun p6 c6 H6 g6 e6 hh6 => ⟨p6, _, c6, rfl, ?_⟩
        have e06 : Ev (UK k) H g H6 g6 := e04.trans (e6.mono fun tg h => .inr (.inr (.inr (.inr (.inr (.inr (.inl ⟨s, h⟩)))))))
        have hc6 := h.dcell e06
        have nS : ∀ {j : Nat} {z : Int}, j < 100 → ¬ ((fun tg : Nat × Int => tg = (100 + s, eB k)) (j, z)) := fun hj hc => by have := congrArg Prod.fst hc; simp at this; omega
        have nS2 : ∀ j, j ≠ s → ¬ ((fun tg : Nat × Int => tg = (100 + s, eB k)) (100 + j, eB k)) := fun j hj hc => by have := congrArg Prod.fst hc; simp at this; omega
        obtain ⟨b168, o168, arr, z1, z2, z3, z4⟩ := Dv4.set hsn e6 (nS (by decide)) (nS (by decide)) nS2 (bd' := bk + 2) (Nat.le_refl _) (hh6.mono (by omega))
        refine ⟨hc6, hc6, b168, o168, z1, by omega, by omega, arr, 37, z2, by simpa using z3, fun H7 hw7 => ?_⟩
        obtain ⟨e7, D7⟩ := z4 H7 (by simpa using hw7)
        have e67 : Ev (SDv k) H4 g4 H7 g6 := (e6.mono fun tg h => .inr ⟨s, h⟩).trans (e7.mono fun tg h => .inl h)
        have N7 := N4.evD hk h.I.pos e67 fun tg h => h
        have B7 := B4.evD e67 fun tg h => .inr h
        have e07 : Ev (UK k) H g H7 g6 := e06.trans (e7.mono fun tg h => .inr (.inr (.inr (.inr (.inl h)))))
        rw [wrapS (by omega)]
        refine ih (s + 1) H7 g6 _ (by omega) (by omega) (.inr ⟨by simpa using (by omega : s * ss < off + a6n), by omega, by omega⟩) e07 N7 D7 B7 fun j hj => ?_
        unfold hset
        by_cases hjs : j = s
        · subst hjs
          rw [if_pos rfl, if_pos ⟨hs, by omega⟩]
        · rw [if_neg hjs, hh1 j hj]
          have : (off / ss ≤ j ∧ j < s) ↔ (off / ss ≤ j ∧ j < s + 1) := by omega
          simp only [this]
    · have hpos := of_decide_eq_false hpos
      refine fin s H1 g1 h1 (fun j hj => ?_) e1 N1 D1 B1
      rw [hh1 j hj]
      have hse : s = off / ss := by
        rcases hinv with hi | ⟨_, _, hi⟩
        · exact hi
        · omega
      rw [if_neg (by omega), if_neg (by omega)]

end

end Go.Proofs.Qxb6500695aGreatFmt
