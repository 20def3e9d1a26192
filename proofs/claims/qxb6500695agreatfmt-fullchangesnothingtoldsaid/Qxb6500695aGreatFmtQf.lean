/-
  THE STANDING DIRECTORIES OF A SCRIPT, AS THEY LIE.
-/
import Derived.Test.Qxb6500695aGreatFmtQe
import Derived.Test.Qxb6500695aGreatFmtPh
import Derived.Test.Qxb6500695aGreatFmtVm
namespace Go.Proofs.Qxb6500695aGreatFmt
open Go Go.Eng Go.Proofs
set_option maxRecDepth 100000
set_option linter.unusedVariables false
set_option linter.unusedSimpArgs false
set_option linter.unusedSectionVars false

abbrev Dr := ByteArray → Option Int

def Mp.cs (r : Nat) : List Value := [.map (some r)]
theorem Mp.size (r : Nat) : (Mp.cs r).length = 1 := rfl

def fset (fs : Nat → List Dr) (k : Nat) (l : List Dr) : Nat → List Dr := fun j => if j = k then l else fs j

abbrev SlP := Option Addr × Nat × Nat
def SlP.v (p : SlP) : Value := .slice p.1 p.2.1 p.2.2

def pset (P : Nat → SlP) (k : Nat) (p : SlP) : Nat → SlP := fun j => if j = k then p else P j

def SdB (P : Nat → SlP) : Obj := .cells #[(P 0).v, (P 1).v, (P 2).v] 78 (0, 0)

/-- One node's list. -/
def SdL (H : Heap) (g : Gh) (k : Nat) (p : SlP) (l : List Dr) : Prop :=
  ∃ ms : List Nat, OwnT H g (46, (k : Int)) 79 1 Mp.cs p.1 p.2.1 p.2.2 ms ∧ ms.length = l.length ∧ ∀ i (h : i < ms.length) (h' : i < l.length), DirM H g ms[i] l[i]

structure SdR (H : Heap) (g : Gh) (sb4 : Nat) (fs : Nat → List Dr) : Prop where
  tag : g sb4 = some (45, 0)
  ex : ∃ P, H sb4 = some (SdB P) ∧ ∀ k, k < 3 → SdL H g k (P k) (fs k)

section
variable {S : Nat × Int → Prop} {H H' : Heap} {g g' : Gh} {sb4 k : Nat} {fs : Nat → List Dr} {p : SlP} {l : List Dr}

theorem SdL.ev (h : SdL H g k p l) (ev : Ev S H g H' g') (h0 : ¬ S (0, 0)) (h46 : ¬ S (46, (k : Int))) : SdL H' g' k p l := by
  obtain ⟨ms, h1, h2, h3⟩ := h
  exact ⟨ms, h1.ev ev h46, h2, fun i hi hi' => (h3 i hi hi').ev ev h0⟩

theorem SdR.ev (h : SdR H g sb4 fs) (ev : Ev S H g H' g') (h0 : ¬ S (0, 0)) (h45 : ¬ S (45, 0)) (h46 : ∀ z, ¬ S (46, z)) : SdR H' g' sb4 fs := by
  obtain ⟨P, h1, h2⟩ := h.ex
  exact ⟨ev.tag _ _ h.tag, P, ev.get h.tag h45 h1, fun k hk => (h2 k hk).ev ev h0 (h46 _)⟩

theorem SdB.cell {P : Nat → SlP} (h : H sb4 = some (SdB P)) (hk : k < 3) : Cells H sb4 (0 + ((k : Nat) : Int).toNat * 1) [(P k).v] := by
  have hc : k = 0 ∨ k = 1 ∨ k = 2 := by omega
  rcases hc with rfl | rfl | rfl
  · exact Cells.of h rfl
  · exact Cells.of h rfl
  · exact Cells.of h rfl

theorem SdB.set {P : Nat → SlP} (hk : k < 3) (q : SlP) : (Obj.cells (setAll #[(P 0).v, (P 1).v, (P 2).v] (0 + ((k : Nat) : Int).toNat * 1) [q.v]) 78 (0, 0)) = SdB (pset P k q) := by
  have hc : k = 0 ∨ k = 1 ∨ k = 2 := by omega
  rcases hc with rfl | rfl | rfl <;> rfl

/-- One list set. -/
theorem SdR.set {P : Nat → SlP} {q : SlP} (hg : GOk H g) (h : SdR H g sb4 fs) (hP : H sb4 = some (SdB P)) (hL : ∀ j, j < 3 → j ≠ k → SdL H g j (P j) (fs j)) (hk : k < 3) (hq : SdL H g k q l)
    (hw : Wr H sb4 (.cells (setAll #[(P 0).v, (P 1).v, (P 2).v] (0 + ((k : Nat) : Int).toNat * 1) [q.v]) 78 (0, 0)) H') : Ev (fun tg => tg = (45, 0)) H g H' g ∧ SdR H' g sb4 (fset fs k l) := by
  rw [SdB.set hk] at hw
  have e : Ev (fun tg => tg = (45, 0)) H g H' g := Ev.wr hg hw fun tg htg => by rw [h.tag] at htg; cases htg; rfl
  refine ⟨e, h.tag, pset P k q, hw.same, fun j hj => ?_⟩
  unfold pset fset
  by_cases hjk : j = k
  · subst hjk
    rw [if_pos rfl, if_pos rfl]
    exact hq.ev e (fun hc => by cases hc) (fun hc => by simp at hc)
  · rw [if_neg hjk, if_neg hjk]
    exact (hL j hj hjk).ev e (fun hc => by cases hc) (fun hc => by simp at hc)

/-- A list of one. -/
theorem SdL.one {r b : Nat} {f : Dr} (hg : GOk H g) (ha : Al H (.cells #[.map (some r)] 79 (0, 0)) b H') (hr : DirM H g r f) (k : Nat) :
    Ev (fun _ => False) H g H' (gset g b (46, (k : Int))) ∧ SdL H' (gset g b (46, (k : Int))) k (some ⟨b, 0, none⟩, 1, 1) [f] := by
  obtain ⟨e, t⟩ := Ev.al (S := fun _ => False) hg ha (46, (k : Int))
  refine ⟨e, [r], ⟨⟨rfl, Mp.size, .inr ⟨b, 0, _, rfl, ha.same, Nat.le_refl _, by simp, rfl⟩⟩, fun a ha' => by cases ha'; exact t⟩, rfl, fun i hi hi' => ?_⟩
  have hi0 : i = 0 := by simpa using hi
  subst hi0
  exact hr.ev e (fun h => h)

/-- One more. -/
theorem SdL.app {r b : Nat} {f : Dr} {H1 : Heap} {K : Value → Heap → Prop} (hg : GOk H g) (h : SdL H g k p l) (ha : Al H (.cells #[.map (some r)] 79 (0, 0)) b H1) (hr : DirM H g r f) (hn : p.2.1 < 2 ^ 34)
    (hK : ∀ p' c' H' g', Ev (fun tg => tg = (46, (k : Int))) H g H' g' → SdL H' g' k (p', p.2.1 + 1, c') (l ++ [f]) → K (.slice p' (p.2.1 + 1) c') H') :
    SemOk Tryz.prog (Builtin.append_ #[77, 77] 77 #[.slice p.1 p.2.1 p.2.2, .slice (some ⟨b, 0, none⟩) 1 1]) H1 K := by
  obtain ⟨ms, h1, h2, h3⟩ := h
  have hi : Tryz.prog.info? 79 = some Tryz.t79 := by kernel_rfl
  refine appT (S := fun tg => tg = (46, (k : Int))) (inf := Tryz.t79) (zero := .map none) (x := r) (enc := Mp.cs) Tryz.underlying77 hi rfl rfl (by decide) rfl ha rfl (by intro v hv; simp [Mp.cs] at hv; subst hv; rfl) hg h1 rfl hn fun p' c' H' g' _ ev ow _ => ?_
  have n0 : ¬ ((fun tg : Nat × Int => tg = (46, (k : Int))) (0, 0)) := fun hc => by simp at hc
  refine hK p' c' H' g' ev ⟨ms ++ [r], ow, by simp [h2], fun i hi' hi'' => ?_⟩
  rcases Nat.lt_or_ge i ms.length with h4 | h4
  · rw [List.getElem_append_left h4, List.getElem_append_left (by omega)]
    exact (h3 i h4 (by omega)).ev ev n0
  · have hie : i = ms.length := by simp at hi'; omega
    subst hie
    have e1 : (ms ++ [r])[ms.length]'hi' = r := by simp
    have e2 : (l ++ [f])[ms.length]'hi'' = f := by simp [h2]
    rw [e1, e2]
    exact hr.ev ev n0

theorem SdL.len (h : SdL H g k p l) : p.2.1 = l.length := by
  obtain ⟨ms, h1, h2, h3⟩ := h
  rw [← h2]
  exact h1.own.len

theorem SdL.get (h : SdL H g k p l) {i : Nat} (hi : i < l.length) : ∃ b o r, p.1 = some ⟨b, o, none⟩ ∧ Cells H b (o + i * 1) [.map (some r)] ∧ DirM H g r l[i] := by
  obtain ⟨ms, h1, h2, h3⟩ := h
  obtain ⟨b, o, h4, h5⟩ := h1.own.cells (i := i) (by omega)
  exact ⟨b, o, _, h4, h5, h3 i (by omega) hi⟩

end

/-- Where a node's store lies. -/
def StAt (H : Heap) (g : Gh) (rb k sb : Nat) : Prop :=
  g rb = some (29, 0) ∧ ∃ (nbk : Nat → Nat) (pwb dvb : Nat), H rb = some (.cells #[.pointer (some ⟨nbk 0, 0, none⟩), .pointer (some ⟨nbk 1, 0, none⟩), .pointer (some ⟨nbk 2, 0, none⟩)] 125 (0, 0)) ∧ NdB H g (k : Int) (nbk k) pwb dvb sb

section
variable {S : Nat × Int → Prop} {H H' : Heap} {g g' : Gh} {rb k sb bd : Nat} {nd : Nat → NdV}

theorem StAt.ev (h : StAt H g rb k sb) (ev : Ev S H g H' g') (h29 : ¬ S (29, 0)) (h28 : ¬ S (28, (k : Int))) : StAt H' g' rb k sb := by
  obtain ⟨h1, nbk, pwb, dvb, h2, h3⟩ := h
  exact ⟨ev.tag _ _ h1, nbk, pwb, dvb, ev.get h1 h29 h2, h3.ev ev h28⟩

/-- The node behind a store. -/
theorem RkR.node (h : RkR H g rb bd nd) (hk : k < 3) (hs : StAt H g rb k sb) :
    ∃ nb pwb dvb, NdR H g (k : Int) nb pwb dvb sb (shS k) (shN k) (shC k) bd (nd k) ∧ ∃ nbk : Nat → Nat, H rb = some (.cells #[.pointer (some ⟨nbk 0, 0, none⟩), .pointer (some ⟨nbk 1, 0, none⟩), .pointer (some ⟨nbk 2, 0, none⟩)] 125 (0, 0)) ∧ nbk k = nb ∧ ∀ k, k < 3 → NdE H g k (nbk k) bd (nd k) := by
  obtain ⟨_, nbk, pwb, dvb, h2, h3⟩ := hs
  obtain ⟨nbk', h4, h5⟩ := h.ex
  have heq : nbk' k = nbk k := by
    rw [h2] at h4
    simp at h4
    have hc : k = 0 ∨ k = 1 ∨ k = 2 := by omega
    rcases hc with rfl | rfl | rfl
    · exact h4.1.symm
    · exact h4.2.1.symm
    · exact h4.2.2.symm
  obtain ⟨pwb', dvb', sb', hN⟩ := h5 k hk
  rw [heq] at hN
  obtain ⟨_, nm, a, b, c, h6⟩ := h3
  obtain ⟨_, nm', a', b', c', h7⟩ := hN.nd
  rw [h6] at h7
  simp at h7
  obtain ⟨_, _, _, _, e1, e2, e3⟩ := h7
  subst e1 e2 e3
  exact ⟨nbk k, pwb, dvb, hN, nbk', h4, heq, h5⟩

end

theorem SpN.n4 {k z : Int} {i : Nat} (hi : 43 ≤ i ∧ i ≤ 99) : ¬ SpN k (i, z) := fun h => by
  rcases h with h | h | h
  · have := h.2.1; simp at this; omega
  · have := h.1; simp at this; omega
  · have := h.2; simp at this; omega

theorem SpK.n4 {k z : Int} {i : Nat} (hi : 43 ≤ i ∧ i ≤ 99) : ¬ SpK k (i, z) := fun h => by
  rcases h with h | h | h | h
  · exact SpN.n4 hi h
  · simp at h; omega
  · have := h.rng.2; simp at this; omega
  · simp at h; omega

theorem SpK.n29 {k : Int} : ¬ SpK k (29, 0) := fun hc => by
  rcases hc with (hc | hc | hc) | hc | hc | hc
  · have := hc.2.1; simp at this
  · have := hc.1; simp at this
  · have := hc.1; simp at this
  · simp at hc
  · have := hc.rng.2; simp at this
  · simp at hc

theorem SpK.n28 {k z : Int} : ¬ SpK k (28, z) := fun hc => by
  rcases hc with (hc | hc | hc) | hc | hc | hc
  · have := hc.2.1; simp at this
  · have := hc.1; simp at this
  · have := hc.1; simp at this
  · simp at hc
  · have := hc.rng.2; simp at this
  · simp at hc

end Go.Proofs.Qxb6500695aGreatFmt
