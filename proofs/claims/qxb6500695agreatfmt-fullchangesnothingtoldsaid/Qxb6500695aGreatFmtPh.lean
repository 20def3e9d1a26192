/-
  THE SIZE GUARD; NEVER OVER CAPACITY.
-/
import Derived.Test.Qxb6500695aGreatFmtNg
import Derived.Test.Qxb6500695aGreatFmtVg
namespace Go.Proofs.Qxb6500695aGreatFmt
open Go Go.Eng Go.Proofs
set_option maxRecDepth 100000
set_option linter.unusedVariables false
set_option linter.unusedSimpArgs false
set_option linter.unusedSectionVars false

/-- A step as it is given. -/
structure OpW (H : Heap) (g : Gh) (o : OpV) : Prop where
  data : Src H o.dp o.dn o.dc o.data
  dtag : ∀ a, o.dp = some a → 0 < o.dn → g a.block = some (0, 0)
  pl : o.pn = o.picks.length
  pcs : 0 < o.pn → ∃ b q, o.pp = some ⟨b, q, none⟩ ∧ g b = some (0, 0) ∧ Cells H b q (o.picks.flatMap I64.cs)
  offb : o.off < 2 ^ 63 ∧ -(2 ^ 63) ≤ o.off
  nb : o.n < 2 ^ 63
  big : o.nm.size < 2 ^ 48 ∧ o.to.size < 2 ^ 48 ∧ o.dn < 2 ^ 48 ∧ o.pn < 2 ^ 48

/-- A script as it is given. -/
structure Scr (H : Heap) (g : Gh) (p : Option Addr) (n : Nat) (ops : List OpV) : Prop where
  len : n = ops.length
  big : n < 2 ^ 48
  cells : ∀ i (hi : i < ops.length), ∃ b o, p = some ⟨b, o, none⟩ ∧ g b = some (0, 0) ∧ Cells H b (o + i * 8) (ops[i].cs)
  ok : ∀ i (hi : i < ops.length), OpW H g ops[i]

section
variable {S : Nat × Int → Prop} {H H' : Heap} {g g' : Gh} {p : Option Addr} {n c : Nat} {ops : List OpV} {E : Nat → Value}

theorem OpW.ev {o : OpV} (h : OpW H g o) (ev : Ev S H g H' g') (h0 : ¬ S (0, 0)) : OpW H' g' o :=
  ⟨h.data.ev h.dtag ev h0, fun a ha h0 => ev.tag _ _ (h.dtag a ha h0), h.pl, fun hp => let ⟨b, q, h1, h2, h3⟩ := h.pcs hp; ⟨b, q, h1, ev.tag _ _ h2, Cells.ev h3 h2 ev h0⟩, h.offb, h.nb, h.big⟩

theorem Scr.ev (h : Scr H g p n ops) (ev : Ev S H g H' g') (h0 : ¬ S (0, 0)) : Scr H' g' p n ops :=
  ⟨h.len, h.big, fun i hi => let ⟨b, o, h1, h2, h3⟩ := h.cells i hi; ⟨b, o, h1, ev.tag _ _ h2, Cells.ev h3 h2 ev h0⟩, fun i hi => (h.ok i hi).ev ev h0⟩

theorem OpW.ok {o : OpV} (h : OpW H g o) (hd : o.dn ≤ 65536) (hp : o.pn ≤ 65536) : OpOk H g o :=
  ⟨h.data, h.dtag, by omega, h.pl, h.pcs, by omega, h.offb, h.nb⟩

theorem f10_L1_ht (h : Scr H g p n ops) : ∀ (d i a : Nat), ops.length - i = d → i ≤ ops.length → a ≤ 65536 → (∀ j (hj : j < ops.length), j < i → ops[j].dn ≤ 65536 ∧ ops[j].pn ≤ 65536) →
    f10_L1 p n c (a : Int) (i : Int) H fun v H' => H' = H ∧ ∃ b : Bool, v = .bool b ∧ (b = true → ∀ j (hj : j < ops.length), ops[j].dn ≤ 65536 ∧ ops[j].pn ≤ 65536) := by
  have hlen := h.len
  have hbig := h.big
  intro d
  induction d with
  | zero =>
    intro i a hd hi ha hall
    apply f10_L1_of
    exact ⟨fun hx => by have := of_decide_eq_true hx; omega, fun _ => ⟨rfl, true, rfl, fun _ j hj => hall j hj (by omega)⟩⟩
  | succ d ih =>
    intro i a hd hi ha hall
    have hil : i < ops.length := by omega
    obtain ⟨b, o, hp, htb, hc⟩ := h.cells i hil
    obtain ⟨g1, g2, g3, g4⟩ := (h.ok i hil).big
    have no : ∀ {v : Value}, v = .bool false → (H = H ∧ ∃ b : Bool, v = .bool b ∧ (b = true → ∀ j (hj : j < ops.length), ops[j].dn ≤ 65536 ∧ ops[j].pn ≤ 65536)) := fun hv => ⟨rfl, false, hv, (fun h => by cases h)⟩
    have cut : ∀ (f len : Nat) (vs : List Value), (ops[i].cs.drop f).take len = vs → vs.length = len → f + len ≤ 8 → Cells H b (o + i * 8 + f) vs := fun f len vs h1 h2 h3 => by
      refine hc.part f ?_ ?_
      · rw [h2]; exact h1
      · show f + vs.length ≤ 8
        omega
    have w1 : IntKind.wrap .i64 ((a : Int) + (ops[i].nm.size : Int)) = ((a + ops[i].nm.size : Nat) : Int) := by rw [wrapI] <;> omega
    have w2 : IntKind.wrap .i64 (((a + ops[i].nm.size : Nat) : Int) + (ops[i].to.size : Int)) = ((a + ops[i].nm.size + ops[i].to.size : Nat) : Int) := by rw [wrapI] <;> omega
    have w3 : IntKind.wrap .i64 (((a + ops[i].nm.size + ops[i].to.size : Nat) : Int) + (ops[i].dn : Int)) = ((a + ops[i].nm.size + ops[i].to.size + ops[i].dn : Nat) : Int) := by rw [wrapI] <;> omega
    have w4 : IntKind.wrap .i64 (((a + ops[i].nm.size + ops[i].to.size + ops[i].dn : Nat) : Int) + (ops[i].pn : Int)) = ((a + ops[i].nm.size + ops[i].to.size + ops[i].dn + ops[i].pn : Nat) : Int) := by rw [wrapI] <;> omega
    apply f10_L1_of
    refine ⟨fun _ => ?_, fun hx => by have := of_decide_eq_false hx; omega⟩
    refine ⟨b, o, hp, by omega, by omega, ops[i].nm, by simpa using cut 2 1 [.string ops[i].nm] rfl rfl (by decide), fun _ => no rfl, fun h1 => ?_⟩
    rw [w1] at h1
    refine ⟨b, o, hp, by omega, by omega, ops[i].to, by simpa using cut 3 1 [.string ops[i].to] rfl rfl (by decide), ?_⟩
    rw [w1]
    refine ⟨fun _ => no rfl, fun h2 => ?_⟩
    rw [w2] at h2
    refine ⟨b, o, hp, by omega, by omega, ops[i].dp, ops[i].dn, ops[i].dc, by simpa using cut 6 1 [.slice ops[i].dp ops[i].dn ops[i].dc] rfl rfl (by decide), ?_⟩
    rw [w2]
    refine ⟨fun _ => no rfl, fun h3 => ?_⟩
    rw [w3] at h3
    refine ⟨b, o, hp, by omega, by omega, ops[i].pp, ops[i].pn, ops[i].pc, by simpa using cut 7 1 [.slice ops[i].pp ops[i].pn ops[i].pc] rfl rfl (by decide), ?_⟩
    rw [w3]
    refine ⟨fun _ => no rfl, fun h4 => ?_⟩
    rw [w4] at h4 ⊢
    have h4 := of_decide_eq_false h4
    rw [wrapS (by omega)]
    refine ih (i + 1) _ (by omega) (by omega) (by omega) fun j hj hji => ?_
    rcases Nat.lt_or_ge j i with h5 | h5
    · exact hall j hj h5
    · have : j = i := by omega
      subst this
      omega

theorem f10_ht (h : Scr H g p n ops) : HT Tryz.prog 10 [.slice p n c] H fun v H' => H' = H ∧ ∃ b : Bool, v = .bool b ∧ (b = true → ops.length ≤ 65536 ∧ ∀ j (hj : j < ops.length), ops[j].dn ≤ 65536 ∧ ops[j].pn ≤ 65536) := by
  have hlen := h.len
  apply f10_of
  refine ⟨fun _ => ⟨rfl, false, rfl, (fun h => by cases h)⟩, fun hx => ?_⟩
  have hx := of_decide_eq_false hx
  have key := f10_L1_ht (c := c) h _ 0 n rfl (Nat.zero_le _) (by omega) fun j _ hj => by omega
  exact fun d B => RTmono (key d B) fun v H' ⟨he, b, hv, hb⟩ => ⟨he, b, hv, fun ht => ⟨by omega, hb ht⟩⟩

theorem ceil_sect {ss s : Nat} (hss : 0 < ss) : (s + ss - 1) / ss = sect ss s := by
  have hd := Nat.div_add_mod s ss
  have hm := Nat.mod_lt s hss
  unfold sect
  generalize s / ss = q at *
  generalize s % ss = r at *
  rw [← hd]
  split
  · rename_i h0
    subst h0
    rw [Nat.add_zero, Nat.add_sub_assoc (by omega), Nat.mul_add_div hss, Nat.div_eq_of_lt (by omega)]
    rfl
  · rename_i h0
    have : ss * q + r + ss - 1 = ss * (q + 1) + (r - 1) := by
      rw [Nat.mul_add, Nat.mul_one]; omega
    rw [this, Nat.mul_add_div hss, Nat.div_eq_of_lt (by omega)]

theorem f50_ht {ss s : Nat} (hss : 0 < ss ∧ ss ≤ 16) (hs : s < 2 ^ 32) : HT Tryz.prog 50 [.int .i64 (s : Int), .int .i64 (ss : Int)] H fun v H' => H' = H ∧ v = .int .i64 (sect ss s : Int) := by
  apply f50_of
  have hw : IntKind.wrap .i64 (IntKind.wrap .i64 ((s : Int) + (ss : Int)) - 1) = ((s + ss - 1 : Nat) : Int) := by
    have h1 : IntKind.wrap .i64 ((s : Int) + (ss : Int)) = (s : Int) + (ss : Int) := by rw [wrapI] <;> omega
    rw [h1, wrapI] <;> omega
  refine ⟨_, binIs_quo (P := Tryz.prog) (t := 2) (x := .tmp 8) (y := .tmp 9) (by omega), rfl, ?_⟩
  rw [hw]
  have hdiv : Int.tdiv ((s + ss - 1 : Nat) : Int) (ss : Int) = (((s + ss - 1) / ss : Nat) : Int) := by
    rw [Int.tdiv_eq_ediv_of_nonneg (by omega)]; simp
  rw [hdiv, ceil_sect hss.1]
  have hle : sect ss s ≤ s + 1 := by
    unfold sect
    have := Nat.div_le_self s ss
    split <;> omega
  rw [wrapI (by omega) (by omega)]

theorem ims_sum {s : StV} {ss : Nat} : ∀ (xs : List ByteArray) (ims : List Im), ims.length = xs.length → (∀ i (h : i < ims.length) (hx : i < xs.length), ImOk s xs[i] ims[i]) →
    sumOf Im.res ims = sumOf (resS s) (xs.filterMap s.m) ∧ sumOf (fun i => sect ss i.size) ims = sumOf (fun b => sect ss (s.O b).size) (xs.filterMap s.m)
  | [], [], _, _ => ⟨rfl, rfl⟩
  | x :: xs, i :: ims, hl, h => by
    have h0 := h 0 (by simp) (by simp)
    obtain ⟨_, b, hb, _, h1, h2, _⟩ := h0
    have hb' : s.m x = some b := hb
    have ih := ims_sum (s := s) (ss := ss) xs ims (by simpa using hl) fun j hj hx => by
      have := h (j + 1) (by simpa using hj) (by simpa using hx)
      simpa using this
    rw [List.filterMap_cons, hb']
    simp only [List.getElem_cons_zero] at h1 h2
    simp only [sumOf, ih.1, ih.2, resS, h1, h2]
    exact ⟨trivial, trivial⟩
  | [], _ :: _, hl, _ => by simp at hl
  | _ :: _, [], hl, _ => by simp at hl

end

end Go.Proofs.Qxb6500695aGreatFmt
