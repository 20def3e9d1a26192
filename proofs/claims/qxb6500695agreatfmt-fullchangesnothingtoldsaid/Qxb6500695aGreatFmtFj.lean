/-
  FORKS: what holds of a store holds of its copy.
-/
import Derived.Test.Qxb6500695aGreatFmtFi
namespace Go.Proofs.Qxb6500695aGreatFmt
open Go Go.Eng Go.Proofs
set_option maxRecDepth 100000
set_option linter.unusedVariables false
set_option linter.unusedSimpArgs false
set_option linter.unusedSectionVars false

/-- The journal's objects are objects of the store. -/
def JrT (s : StV) : Prop := ∀ j ∈ s.jr, j.ob ∈ s.T

section
variable {ss cap N : Nat} {s f : StV} {τ : Nat → Option Nat}

theorem redo_tw {j : Jr} {st st' : NM} (hj : JrD τ j) (h : ∀ x, st' x = (st x).bind τ) (x : ByteArray) : redo (Jr.tw τ j) st' x = (redo j st x).bind τ := by
  have hob : some ((τ j.ob).getD 0) = τ j.ob := by
    cases hb : τ j.ob with
    | none => exact absurd hb hj.1
    | some y => rfl
  unfold redo Jr.tw mset
  simp only
  split
  · dsimp only
    split
    · exact hob
    · exact h x
  · split
    · dsimp only
      split
      · rfl
      · exact h x
    · split
      · dsimp only
        split
        · exact hob
        · split
          · rfl
          · exact h x
      · exact h x

theorem redoN_tw : ∀ (l : List Jr) (st st' : NM), (∀ j ∈ l, JrD τ j) → (∀ x, st' x = (st x).bind τ) → ∀ x, redoN (l.map (Jr.tw τ)) st' x = (redoN l st x).bind τ
  | [], _, _, _, h, x => h x
  | j :: l, st, st', hj, h, x => by
    rw [List.map_cons, redoN, redoN]
    exact redoN_tw l _ _ (fun y hy => hj y (List.mem_cons_of_mem _ hy)) (fun y => redo_tw (hj j List.mem_cons_self) h y) x

theorem Iso.redoN (h : Iso s f τ) (i : Nat) (x : ByteArray) : Go.Proofs.Qxb6500695aGreatFmt.redoN (f.jr.take i) f.st x = (Go.Proofs.Qxb6500695aGreatFmt.redoN (s.jr.take i) s.st x).bind τ := by
  rw [h.jr, ← List.map_take]
  exact redoN_tw _ _ _ (fun j hj => h.jd j (List.mem_of_mem_take hj)) h.said.m x

theorem Iso.heldL (h : Iso s f τ) : Go.Proofs.Qxb6500695aGreatFmt.heldL f = (Go.Proofs.Qxb6500695aGreatFmt.heldL s).filterMap τ := by
  unfold Go.Proofs.Qxb6500695aGreatFmt.heldL vics
  rw [List.filterMap_append, h.xs, h.jr, List.filterMap_filterMap, List.filterMap_filterMap, List.filterMap_map, show f.m = fun x => (s.m x).bind τ from funext h.said.a]
  rfl

theorem Iso.defd (h : Iso s f τ) : ∀ b ∈ Go.Proofs.Qxb6500695aGreatFmt.heldL s, τ b ≠ none := by
  intro b hb
  unfold Go.Proofs.Qxb6500695aGreatFmt.heldL vics at hb
  rcases List.mem_append.1 hb with hb | hb
  · obtain ⟨x, _, hx⟩ := List.mem_filterMap.1 hb
    exact h.said.ad x b hx
  · obtain ⟨j, hj, hv⟩ := List.mem_filterMap.1 hb
    exact (h.jd j hj).2 b hv

theorem Iso.res (h : Iso s f τ) : ∀ l : List Nat, (∀ b ∈ l, τ b ≠ none) → sumOf (resS f) (l.filterMap τ) = sumOf (resS s) l
  | [], _ => rfl
  | b :: l, hd => by
    cases hb : τ b with
    | none => exact absurd hb (hd b List.mem_cons_self)
    | some b' =>
      rw [List.filterMap_cons, hb]
      simp only [sumOf]
      rw [h.res l fun c hc => hd c (List.mem_cons_of_mem _ hc)]
      obtain ⟨_, pb', hO⟩ := h.O b b' hb
      unfold resS
      rw [hO]

theorem Iso.inv (h : Iso s f τ) (hI : StI ss cap N s) : StI ss cap N f := by
  have hb : ∀ {o : Option Nat} {b' : Nat}, o.bind τ = some b' → ∃ b, o = some b ∧ τ b = some b' := fun {o b'} ho => by
    cases o with
    | none => cases ho
    | some b => exact ⟨b, rfl, ho⟩
  refine ⟨hI.shp, by rw [h.xs]; exact hI.srt, fun x => ?_, ?_, fun b' hb' => ?_, ?_, ?_, fun b' hb' => ?_, fun i x y b' hx hy => ?_, fun i x b' hx => ?_, ?_, by rw [h.used]; exact hI.cap, fun b' hb' => ?_, ?_⟩
  · rw [h.xs, hI.mem, h.said.a]
    constructor
    · intro hx hc
      cases hm : s.m x with
      | none => exact hx hm
      | some b =>
        rw [hm] at hc
        exact h.said.ad x b hm hc
    · intro hx hc
      rw [hc] at hx
      exact hx rfl
  · rw [h.T, List.map_filterMap]
    have h1 := hI.idn
    rw [List.Nodup, List.pairwise_map] at h1
    rw [List.Nodup, List.pairwise_filterMap]
    refine List.pairwise_iff_getElem.2 fun i1 i2 hi1 hi2 h12 x hx y hy hxy => ?_
    have hab := List.pairwise_iff_getElem.1 h1 i1 i2 hi1 hi2 h12
    generalize s.T[i1] = a at *
    generalize s.T[i2] = b at *
    obtain ⟨a', ha1, rfl⟩ := Option.map_eq_some_iff.1 hx
    obtain ⟨b', hb1, rfl⟩ := Option.map_eq_some_iff.1 hy
    obtain ⟨_, p1, hO1⟩ := h.O a a' ha1
    obtain ⟨_, p2, hO2⟩ := h.O b b' hb1
    rw [hO1, hO2] at hxy
    exact hab hxy
  · rw [h.T] at hb'
    obtain ⟨b, hbT, hτ⟩ := List.mem_filterMap.1 hb'
    obtain ⟨_, p1, hO1⟩ := h.O b b' hτ
    rw [hO1, h.nxt]
    exact hI.idp b hbT
  · funext x
    have := h.redoN f.jr.length x
    rw [List.take_length] at this
    rw [this, h.said.a, h.jr, List.length_map, List.take_length, hI.chain]
  · rw [h.heldL, List.Nodup, List.pairwise_filterMap]
    refine List.pairwise_iff_getElem.2 fun i1 i2 hi1 hi2 h12 x hx y hy hxy => ?_
    have hab := List.pairwise_iff_getElem.1 hI.held i1 i2 hi1 hi2 h12
    subst hxy
    exact hab (h.inj _ _ x hx hy)
  · rw [h.heldL] at hb'
    obtain ⟨b, hbL, hτ⟩ := List.mem_filterMap.1 hb'
    rw [h.T]
    exact List.mem_filterMap.2 ⟨b, hI.heldT b hbL, hτ⟩
  · rw [h.redoN] at hx hy
    obtain ⟨b1, h1, h2⟩ := hb hx
    obtain ⟨b2, h3, h4⟩ := hb hy
    have := h.inj _ _ _ h2 h4
    subst this
    exact hI.inj i x y b1 h1 h3
  · rw [h.redoN] at hx
    obtain ⟨b1, h1, h2⟩ := hb hx
    rw [h.heldL]
    exact List.mem_filterMap.2 ⟨b1, hI.back i x b1 h1, h2⟩
  · rw [h.used, hI.used, h.heldL, h.res _ h.defd]
  · rw [h.heldL] at hb'
    obtain ⟨b, hbL, hτ⟩ := List.mem_filterMap.1 hb'
    obtain ⟨_, p1, hO1⟩ := h.O b b' hτ
    have := hI.num b hbL
    rw [hO1]
    exact ⟨this.res, this.last, this.clean⟩
  · rw [h.xs, h.jr, h.nxt, List.length_map]
    exact hI.len

theorem Iso.jrT (h : Iso s f τ) (hj : JrT s) : JrT f := by
  intro j' hj'
  rw [h.jr] at hj'
  obtain ⟨j, hjm, rfl⟩ := List.mem_map.1 hj'
  rw [h.T]
  have h1 := (h.jd j hjm).1
  cases hb : τ j.ob with
  | none => exact absurd hb h1
  | some b' =>
    refine List.mem_filterMap.2 ⟨j.ob, hj j hjm, ?_⟩
    rw [hb]
    unfold Jr.tw
    rw [hb]
    rfl

/-- What a fork asks of a store. -/
theorem StI.fork {H : Heap} {q g : Gh} {k : Int} {sb bd pwb : Nat} (hI : StI ss cap N s) (hj : JrT s) (hg : GOk H g) (hq : GOk H q) (hr : RoIn g q) (hS : StR H g k sb ss cap bd pwb s) (hbd : bd < 2 ^ 31) : FkS H q g k sb ss cap bd pwb s := by
  have hl := hI.len
  refine ⟨hg, hq, hr, hS, hbd, hI.mT, fun x b hx => ?_, fun j hjm => ⟨hj j hjm, fun v hv => hI.vT v ?_⟩, hI.idn, by omega, by omega⟩
  · exact hI.heldT b (hI.back 0 x b (by simpa [Go.Proofs.Qxb6500695aGreatFmt.redoN] using hx))
  · exact List.mem_filterMap.2 ⟨j, hjm, hv⟩

end

end Go.Proofs.Qxb6500695aGreatFmt
