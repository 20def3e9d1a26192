/-
  THE RACK AND THE BOOKS TOGETHER.
-/
import Derived.Test.Qxb6500695aGreatFmtKo
import Derived.Test.Qxb6500695aGreatFmtQg
import Derived.Test.Qxb6500695aGreatFmtVr
namespace Go.Proofs.Qxb6500695aGreatFmt
open Go Go.Eng Go.Proofs
set_option maxRecDepth 100000
set_option linter.unusedVariables false
set_option linter.unusedSimpArgs false
set_option linter.unusedSectionVars false

/-- The tags of a node. -/
def NT (j : Int) (tg : Nat × Int) : Prop := (20 ≤ tg.1 ∧ tg.1 ≤ 28 ∧ tg.2 = j) ∨ (∃ i : Int, 0 ≤ i ∧ SpO (zO j i) tg) ∨ SpP (eD j) tg

/-- The tags of its books. -/
def NB (j : Nat) (tg : Nat × Int) : Prop := tg = (50, (j : Int)) ∨ tg = (52, (j : Int)) ∨ (∃ s, tg = (100 + s, eB j)) ∨ ∃ c, SpB (cd j c) tg

/-- What a step on node k may turn, its books counted. -/
def UK (k : Nat) (tg : Nat × Int) : Prop := SpK (k : Int) tg ∨ tg = (27, (k : Int)) ∨ tg = (34, 0) ∨ tg = (51, 0) ∨ NB k tg

theorem NB.neg {j : Nat} {tg : Nat × Int} (h : NB j tg) : (tg = (50, (j : Int)) ∨ tg = (52, (j : Int))) ∨ (tg.2 ≤ -10 ∧ (tg.1 = 11 ∨ tg.1 = 14 ∨ tg.1 = 16 ∨ 100 ≤ tg.1)) := by
  rcases h with h | h | ⟨s, h⟩ | ⟨c, h⟩
  · exact .inl (.inl h)
  · exact .inl (.inr h)
  · rw [h]; unfold eB; exact .inr ⟨by simp; omega, by simp⟩
  · have := cd_le (k := j) (c := c); exact .inr ⟨by rw [h.1]; omega, h.2⟩

theorem NT.rng {j : Int} {tg : Nat × Int} (hj : 0 ≤ j ∧ j < 3) (h : NT j tg) : (20 ≤ tg.1 ∧ tg.1 ≤ 28 ∧ tg.2 = j) ∨ (-3 ≤ tg.2 ∧ (tg.1 = 11 ∨ tg.1 = 16 ∨ tg.1 = 12 ∨ tg.1 = 13 ∨ tg.1 = 14 ∨ tg.1 = 18 ∨ 100 ≤ tg.1)) := by
  rcases h with h | ⟨i, hi, h⟩ | h
  · exact .inl h
  · have := h.rng; unfold zO at this; exact .inr ⟨by omega, this.2⟩
  · have := h.rng; unfold eD at this; exact .inr ⟨by omega, by omega⟩

theorem NT.nK {j k : Int} {tg : Nat × Int} (hj : 0 ≤ j ∧ j < 3) (hk : 0 ≤ k ∧ k < 3) (hjk : j ≠ k) (h : NT j tg) : ¬ SpK k tg := by
  intro hc
  rcases h with h | ⟨i, hi, h⟩ | h
  · rcases hc with (hc | hc | hc) | hc | hc | hc
    · omega
    · have := hc.1; omega
    · have := hc.1; omega
    · rw [hc] at h; simp at h; omega
    · have := hc.rng.2; omega
    · rw [hc] at h; simp at h; omega
  · have h1 := h.rng
    unfold zO at h1
    rcases hc with (hc | hc | hc) | hc | hc | hc
    · omega
    · obtain ⟨q, hq, hq2⟩ := hc.2
      unfold zO at hq2
      omega
    · omega
    · rw [hc] at h1; simp at h1
    · have h2 := hc.rng.1
      unfold eD at h2
      omega
    · rw [hc] at h1; simp at h1
  · have h1 := h.rng
    unfold eD at h1
    rcases hc with (hc | hc | hc) | hc | hc | hc
    · omega
    · obtain ⟨q, hq, hq2⟩ := hc.2
      unfold zO at hq2
      omega
    · omega
    · rw [hc] at h1; simp at h1
    · have h2 := hc.rng.1
      unfold eD at h2
      omega
    · rw [hc] at h1; simp at h1

theorem SpK.rng {k : Int} {tg : Nat × Int} (hk : 0 ≤ k) (h : SpK k tg) : (20 ≤ tg.1 ∧ tg.1 ≤ 27 ∧ tg.2 = k) ∨ (30 ≤ tg.1 ∧ tg.1 ≤ 42) ∨ (-(k + 1) ≤ tg.2 ∧ (tg.1 = 11 ∨ tg.1 = 12 ∨ tg.1 = 13 ∨ tg.1 = 14 ∨ tg.1 = 16 ∨ tg.1 = 18 ∨ 100 ≤ tg.1)) := by
  rcases h with (h | h | h) | h | h | h
  · exact .inl ⟨h.1, by omega, h.2.2⟩
  · obtain ⟨q, hq, hq2⟩ := h.2
    unfold zO at hq2
    exact .inr (.inr ⟨by omega, h.1⟩)
  · exact .inr (.inl h)
  · rw [h]; exact .inl ⟨by simp, by simp, rfl⟩
  · have := h.rng; unfold eD at this; exact .inr (.inr ⟨by omega, by omega⟩)
  · rw [h]; exact .inl ⟨by simp, by simp, rfl⟩

theorem NB.nK {j k : Nat} {tg : Nat × Int} (hk : k < 3) (h : NB j tg) : ¬ SpK (k : Int) tg := by
  intro hc
  have h1 := hc.rng (by omega)
  rcases h.neg with (h2 | h2) | h2
  · rw [h2] at h1; simp at h1
  · rw [h2] at h1; simp at h1
  · omega

theorem NB.apart {j k : Nat} {tg : Nat × Int} (hj : j < 3) (hk : k < 3) (hjk : j ≠ k) (h : NB j tg) : ¬ NB k tg := by
  intro hc
  rcases h with h | h | ⟨s, h⟩ | ⟨c, h⟩ <;> rcases hc with hc | hc | ⟨s', hc⟩ | ⟨c', hc⟩
  · rw [h] at hc; simp at hc; omega
  · rw [h] at hc; simp at hc
  · rw [h] at hc; simp at hc; omega
  · rw [h] at hc; have := hc.2; simp at this
  · rw [h] at hc; simp at hc
  · rw [h] at hc; simp at hc; omega
  · rw [h] at hc; simp at hc; omega
  · rw [h] at hc; have := hc.2; simp at this
  · rw [h] at hc; simp at hc; omega
  · rw [h] at hc; simp at hc; omega
  · rw [h] at hc; simp [eB] at hc; omega
  · rw [h] at hc; have := hc.1; simp [eB, cd] at this; omega
  · rw [hc] at h; have := h.2; simp at this
  · rw [hc] at h; have := h.2; simp at this
  · rw [hc] at h; have := h.1; simp [eB, cd] at this; omega
  · have h1 := h.1
    have h2 := hc.1
    unfold cd at h1 h2
    omega

theorem UK.zero {k : Nat} (hk : k < 3) : ¬ UK k (0, 0) := fun h => by
  rcases h with h | h | h | h | h
  · exact SpK.zero h
  · simp at h
  · simp at h
  · simp at h
  · rcases h.neg with (h | h) | h
    · simp at h
    · simp at h
    · have := h.1; simp at this

theorem UK.mid {k i : Nat} (hk : k < 3) (hi : i = 29 ∨ i = 47 ∨ i = 48) {z : Int} : ¬ UK k (i, z) := fun h => by
  rcases h with h | h | h | h | h
  · have := h.rng (by omega); simp at this; omega
  · simp at h; omega
  · simp at h; omega
  · simp at h; omega
  · rcases h.neg with (h | h) | h
    · simp at h; omega
    · simp at h; omega
    · have := h.2; simp at this; omega

theorem UK.node {j k : Nat} {tg : Nat × Int} (hj : j < 3) (hk : k < 3) (hjk : j ≠ k) (h : NT (j : Int) tg) : ¬ UK k tg := fun hc => by
  have h1 := h.rng ⟨by omega, by omega⟩
  rcases hc with hc | hc | hc | hc | hc
  · exact h.nK ⟨by omega, by omega⟩ ⟨by omega, by omega⟩ (by omega) hc
  · rw [hc] at h1; simp at h1; omega
  · rw [hc] at h1; simp at h1
  · rw [hc] at h1; simp at h1
  · rcases hc.neg with (h2 | h2) | h2
    · rw [h2] at h1; simp at h1
    · rw [h2] at h1; simp at h1
    · omega

theorem UK.book {j k : Nat} {tg : Nat × Int} (hj : j < 3) (hk : k < 3) (hjk : j ≠ k) (h : NB j tg) : ¬ UK k tg := fun hc => by
  rcases hc with hc | hc | hc | hc | hc
  · exact h.nK hk hc
  · rcases h.neg with (h2 | h2) | h2 <;> (rw [hc] at h2; simp at h2)
  · rcases h.neg with (h2 | h2) | h2 <;> (rw [hc] at h2; simp at h2)
  · rcases h.neg with (h2 | h2) | h2 <;> (rw [hc] at h2; simp at h2)
  · exact h.apart hj hk hjk hc

section
variable {S : Nat × Int → Prop} {H H' : Heap} {g g' : Gh} {nb pwb dvb sb ss ns cap bd bd' : Nat} {j : Int} {n : NdV}

theorem NdR.evG (h : NdR H g j nb pwb dvb sb ss ns cap bd n) (hpos : ∀ b ∈ n.s.T, 0 ≤ (n.s.O b).id) (ev : Ev S H g H' g') (h0 : ¬ S (0, 0)) (hS : ∀ tg, NT j tg → ¬ S tg) : NdR H' g' j nb pwb dvb sb ss ns cap bd n :=
  ⟨h.nd.ev ev (hS _ (.inl ⟨by simp, by simp, rfl⟩)), h.pw.ev ev (hS _ (.inl ⟨by simp, by simp, rfl⟩)), h.dv.ev ev h0 (hS _ (.inl ⟨by simp, by simp, rfl⟩)) fun tg ht => hS tg (.inr (.inr ht)),
    h.st.ev ev h0 (hS _ (.inl ⟨by simp, by simp, rfl⟩)) (fun tg ht => hS tg (.inl ⟨by have := ht.2.1; omega, by have := ht.2.2; omega, ht.1⟩)) fun b hb tg ht => hS tg (.inr (.inl ⟨_, hpos b hb, ht⟩))⟩

end

/-- The books of a script. -/
structure Bks (H : Heap) (g : Gh) (d4 o5 bk cn : Nat) (p : Nat → SlP) (mb : Nat → Nat) (hl : Nat → Nat → List Sv) (B : Nat → Int → Option Bk) : Prop where
  dt : g d4 = some (47, 0)
  ot : g o5 = some (48, 0)
  dx : H d4 = some (.cells #[(p 0).v, (p 1).v, (p 2).v] 27 (0, 0))
  ox : H o5 = some (.cells #[.map (some (mb 0)), .map (some (mb 1)), .map (some (mb 2))] 29 (0, 0))
  db : ∀ k, k < 3 → DvB H g k (shS k) (shN k) bk (p k) (hl k)
  ob : ∀ k, k < 3 → BkR H g k (mb k) (shS k) (shC k) bk cn (B k)

/-- What the books know of a node. -/
structure NI (ss ns : Nat) (n : NdV) (hl : Nat → List Sv) (B : Int → Option Bk) : Prop where
  dev : ∀ i, i < ns → hl i = hs ss n.D i
  op : ∀ b ∈ n.s.T, ∃ y, B (n.s.O b).id = some y ∧ OP ss (n.s.O b) y.zs y.C
  nx : ∀ i y, B i = some y → i ≤ n.s.nxt
  nm : NmI n.s

/-- What holds between the steps. -/
structure F3 (E : Nat → Value) (sp : Option Addr) (sn : Nat) (ops : List OpV) (rb d4 o5 : Nat) (p : Nat → SlP) (mb : Nat → Nat) (H : Heap) (g : Gh) (bd M bk cn : Nat) (nd : Nat → NdV) (hl : Nat → Nat → List Sv) (B : Nat → Int → Option Bk) : Prop where
  ok : GOk H g
  gl : Gl H g E
  scr : Scr H g sp sn ops
  rk : RkR H g rb bd nd
  ri : RkI M nd
  bs : Bks H g d4 o5 bk cn p mb hl B
  ni : ∀ k, k < 3 → NI (shS k) (shN k) (nd k) (hl k) (B k)

def uset {α : Type} (f : Nat → α) (k : Nat) (a : α) : Nat → α := fun j => if j = k then a else f j

/-- Where a node lies. -/
def NdAt (H : Heap) (g : Gh) (rb k nb pwb dvb sb : Nat) : Prop :=
  g rb = some (29, 0) ∧ ∃ nbk : Nat → Nat, H rb = some (.cells #[.pointer (some ⟨nbk 0, 0, none⟩), .pointer (some ⟨nbk 1, 0, none⟩), .pointer (some ⟨nbk 2, 0, none⟩)] 125 (0, 0)) ∧ nbk k = nb ∧ NdB H g (k : Int) nb pwb dvb sb

section
variable {S : Nat × Int → Prop} {H H' : Heap} {g g' : Gh} {E : Nat → Value} {sp : Option Addr} {sn : Nat} {ops : List OpV} {rb d4 o5 : Nat} {p : Nat → SlP} {mb : Nat → Nat} {bd bd' M M' bk bk' cn cn' k : Nat} {nd : Nat → NdV} {hl : Nat → Nat → List Sv} {B : Nat → Int → Option Bk}

theorem NdAt.ev {nb pwb dvb sb : Nat} (h : NdAt H g rb k nb pwb dvb sb) (ev : Ev S H g H' g') (h29 : ¬ S (29, 0)) (h28 : ¬ S (28, (k : Int))) : NdAt H' g' rb k nb pwb dvb sb := by
  obtain ⟨h1, nbk, h2, h3, h4⟩ := h
  exact ⟨ev.tag _ _ h1, nbk, ev.get h1 h29 h2, h3, h4.ev ev h28⟩

theorem RkR.nodeAt {nb pwb dvb sb : Nat} (h : RkR H g rb bd nd) (hk : k < 3) (hs : NdAt H g rb k nb pwb dvb sb) : NdR H g (k : Int) nb pwb dvb sb (shS k) (shN k) (shC k) bd (nd k) := by
  obtain ⟨_, nbk, h2, h3, h4⟩ := hs
  obtain ⟨nbk', h5, h6⟩ := h.ex
  have heq : nbk' k = nb := by
    rw [h2] at h5
    simp at h5
    have hc : k = 0 ∨ k = 1 ∨ k = 2 := by omega
    rcases hc with rfl | rfl | rfl
    · rw [← h3]; exact h5.1.symm
    · rw [← h3]; exact h5.2.1.symm
    · rw [← h3]; exact h5.2.2.symm
  obtain ⟨pwb', dvb', sb', hN⟩ := h6 k hk
  rw [heq] at hN
  obtain ⟨_, nm, a, b, c, h7⟩ := h4
  obtain ⟨_, nm', a', b', c', h8⟩ := hN.nd
  rw [h7] at h8
  simp at h8
  obtain ⟨_, _, _, _, e1, e2, e3⟩ := h8
  subst e1 e2 e3
  exact hN

/-- A step on node k is over. -/
theorem F3.next {nb pwb dvb sb : Nat} {n' : NdV} {hlk : Nat → List Sv} {Bkk : Int → Option Bk} (h : F3 E sp sn ops rb d4 o5 p mb H g bd M bk cn nd hl B) (hk : k < 3) (hat : NdAt H g rb k nb pwb dvb sb) (ev : Ev (UK k) H g H' g') (hN : NdR H' g' (k : Int) nb pwb dvb sb (shS k) (shN k) (shC k) bd' n') (hI : StI (shS k) (shC k) M' n'.s) (hM : M ≤ M') (hMb : M' < 2 ^ 28) (hb : bd ≤ bd') (hbk : bk ≤ bk') (hcn : cn ≤ cn')
    (hD : DvB H' g' k (shS k) (shN k) bk' (p k) hlk) (hB : BkR H' g' k (mb k) (shS k) (shC k) bk' cn' Bkk) (hni : NI (shS k) (shN k) n' hlk Bkk) : F3 E sp sn ops rb d4 o5 p mb H' g' bd' M' bk' cn' (ndset nd k n') (uset hl k hlk) (uset B k Bkk) := by
  have z0 := UK.zero hk
  refine ⟨ev.ok, h.gl.ev ev z0, h.scr.ev ev z0, ?_, fun j hj => ?_, ⟨ev.tag _ _ h.bs.dt, ev.tag _ _ h.bs.ot, ev.get h.bs.dt (UK.mid hk (by simp)) h.bs.dx, ev.get h.bs.ot (UK.mid hk (by simp)) h.bs.ox, fun j hj => ?_, fun j hj => ?_⟩, fun j hj => ?_⟩
  · obtain ⟨nbk, h1, h2⟩ := h.rk.ex
    have heq : nbk k = nb := by
      obtain ⟨_, nbk', q1, q2, _⟩ := hat
      rw [h1] at q1
      simp at q1
      have hc : k = 0 ∨ k = 1 ∨ k = 2 := by omega
      rcases hc with rfl | rfl | rfl
      · rw [← q2]; exact q1.1
      · rw [← q2]; exact q1.2.1
      · rw [← q2]; exact q1.2.2
    refine ⟨ev.tag _ _ h.rk.tag, nbk, ev.get h.rk.tag (UK.mid hk (by simp)) h1, fun j hj => ?_⟩
    unfold ndset
    by_cases hjk : j = k
    · subst hjk
      rw [if_pos rfl, heq]
      exact ⟨pwb, dvb, sb, hN⟩
    · rw [if_neg hjk]
      obtain ⟨a, b, c, hn⟩ := h2 j hj
      exact ⟨a, b, c, (hn.evG (h.ri j hj).pos ev z0 fun tg ht => UK.node hj hk hjk ht).mono hb⟩
  · unfold ndset
    split
    · rename_i hjk; subst hjk; exact hI
    · exact (h.ri j hj).mono hM hMb
  · unfold uset
    split
    · rename_i hjk; subst hjk; exact hD
    · rename_i hjk
      exact ((h.bs.db j hj).ev ev z0 (UK.book hj hk hjk (.inl rfl)) fun s => UK.book hj hk hjk (.inr (.inr (.inl ⟨s, rfl⟩)))).mono hbk
  · unfold uset
    split
    · rename_i hjk; subst hjk; exact hB
    · rename_i hjk
      exact ((h.bs.ob j hj).ev ev z0 (UK.book hj hk hjk (.inr (.inl rfl))) fun c _ tg ht => UK.book hj hk hjk (.inr (.inr (.inr ⟨c, ht⟩)))).mono hbk hcn
  · unfold ndset uset
    by_cases hjk : j = k
    · subst hjk; simp only [if_true]; exact hni
    · simp only [hjk, if_false]; exact h.ni j hj

end

end Go.Proofs.Qxb6500695aGreatFmt
