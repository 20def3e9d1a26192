/-
  BYTES: objects that are all on their media, and what a crash leaves of them.
-/
import Derived.Test.Qxb6500695aGreatFmtCa
import Derived.Test.Qxb6500695aGreatFmtQd
namespace Go.Proofs.Qxb6500695aGreatFmt
open Go Go.Eng Go.Proofs
set_option maxRecDepth 100000
set_option linter.unusedVariables false
set_option linter.unusedSimpArgs false
set_option linter.unusedSectionVars false

section
variable {ss cap N : Nat} {s s' : StV} {E : Nat → Value} {P : Pw} {v : Value}

theorem contV_byt {o : Ob} (h0 : 0 < ss) (hs : SSz ss o.pl) : contV ss o = (List.range o.size).map fun j => byt ss o.pl j := by
  unfold contV
  rw [rdF_byt h0 hs _ _ _ (Nat.le_refl _)]
  apply List.map_congr_left
  intro j _
  rw [Nat.zero_add]

/-- An object that is all on its media, with these bytes. -/
structure Good (ss : Nat) (o : Ob) (c : List Int) : Prop where
  sz : o.sizes = []
  cl : o.pl.clean
  st : o.stable = o.size
  ssz : SSz ss o.pl
  ct : contV ss o = c

theorem Good.cut {o : Ob} {c : List Int} {P' : Pl} (h0 : 0 < ss) (hs : SSz ss o.pl) (hc : P'.clean) (hd : ∀ i, P'.dur i = cutV ss o.size i (o.pl.lat i)) {r : Nat} : Good ss { o with stable := o.size, sizes := [], res := r, pl := P' } (contV ss o) := by
  obtain ⟨h1, h2⟩ := cut_byt h0 hs hc hd
  refine ⟨rfl, hc, rfl, h1, ?_⟩
  rw [contV_byt h0 h1, contV_byt h0 hs]
  exact List.map_congr_left fun j hj => h2 j (List.mem_range.1 hj)

theorem Good.hard {o : Ob} {P' : Pl} (h0 : 0 < ss) (hs : SSz ss o.pl) (hp : hardP ss o P') : Good ss (hardOb ss o P') (contV ss o) :=
  Good.cut (c := contV ss o) h0 hs hp.1 hp.2

theorem Good.set {o : Ob} {c : List Int} {ns kk : Nat} {ch : Int → Nat} {ks : List Int} {P' : Pl} (h0 : 0 < ss) (h : Good ss o c) (hp : setP ss ns o kk ch ks P') : Good ss (setOb ss o kk P') c := by
  obtain ⟨h1, h2, _, h3, _, h4⟩ := hp
  have hk : kk = 0 := by
    have := h.sz
    rw [this] at h1
    simpa using h1
  subst hk
  have hps : o.pickSize 0 = o.size := h.st
  have hch : ∀ i, ch i = 0 := fun i => by
    have := h3 i
    rw [h.cl i] at this
    simpa using this
  have hd : ∀ i, P'.dur i = cutV ss o.size i (o.pl.lat i) := fun i => by
    rw [h4 i, hps]
    unfold settled
    rw [if_pos (hch _), lat_clean h.cl]
  obtain ⟨b1, b2⟩ := cut_byt h0 h.ssz h2 hd
  refine ⟨rfl, h2, rfl, b1, ?_⟩
  show contV ss (setOb ss o 0 P') = c
  rw [← h.ct, contV_byt h0 b1, contV_byt h0 h.ssz]
  show (List.range (o.pickSize 0)).map _ = _
  rw [hps]
  exact List.map_congr_left fun j hj => b2 j (List.mem_range.1 hj)

theorem SetAll.good {ns b : Nat} {c : List Int} {bs : List Nat} {tr : List Ask} (h0 : 0 < ss) (h : SetAll ss ns s bs tr s') (hg : Good ss (s.O b) c) : Good ss (s'.O b) c := by
  induction h using SetAll.ind with
  | nil => exact hg
  | snoc h1 h2 ih =>
    rename_i s1 b1 kk ch ks P'
    show Good ss (oset s1.O b1 (setOb ss (s1.O b1) kk P') b) c
    unfold oset
    split
    · rename_i hb
      subst hb
      exact Good.set h0 ih h2
    · exact ih

/-- The bytes that a name has. -/
def CtV (ss : Nat) (s : StV) (x : ByteArray) : Option (List Int) := (fnd s x).map fun b => contV ss (s.O b)

theorem crashR.m {tr : List Ask} (h : crashR ss cap s tr s') : ∃ kp, kp ≤ s.jr.length ∧ s'.m = redoN (s.jr.take kp) s.st ∧ ∃ bs tr2 ys, SetAll ss cap (crash1 s kp ys) bs tr2 s' := by
  obtain ⟨kp, ys, tr2, h1, _, _, h2, _⟩ := h
  exact ⟨kp, h1, h2.same.2.1, _, _, _, h2⟩

theorem CtV_some {x : ByteArray} {b : Nat} {c : List Int} (hv : vn x = true) (hm : s.m x = some b) (hc : contV ss (s.O b) = c) : CtV ss s x = some c := by
  unfold CtV
  rw [fnd_of hv hm, Option.map_some, hc]

theorem CtV_none {x : ByteArray} (hm : s.m x = none) : CtV ss s x = none := by
  unfold CtV fnd
  split
  · rw [hm]; rfl
  · rfl

theorem CtV_inv {x : ByteArray} (hv : vn x = false) : CtV ss s x = none := by
  unfold CtV fnd
  rw [hv]
  rfl

/-- A name that stands, whatever is kept, in front of an object that is all on its media. -/
def Stay (ss : Nat) (s s' : StV) (x : ByteArray) : Prop := (∀ i, redoN (s'.jr.take i) s'.st x = s.m x) ∧ ∀ b, s.m x = some b → Good ss (s'.O b) (contV ss (s.O b))

theorem Stay.crash {s2 : StV} {x : ByteArray} {tr : List Ask} (h0 : 0 < ss) (h : Stay ss s s' x) (hc : crashR ss cap s' tr s2) : CtV ss s2 x = CtV ss s x := by
  obtain ⟨kp, _, hm, bs, tr2, ys, hs⟩ := hc.m
  have hx : s2.m x = s.m x := by rw [hm, h.1 kp]
  cases hv : vn x with
  | false => rw [CtV_inv hv, CtV_inv hv]
  | true =>
    cases hb : s.m x with
    | none => rw [CtV_none hb, CtV_none (by rw [hx, hb])]
    | some b =>
      rw [CtV_some hv hb rfl]
      exact CtV_some hv (by rw [hx, hb]) (hs.good (s := crash1 s' kp ys) h0 (h.2 b hb)).ct

end

end Go.Proofs.Qxb6500695aGreatFmt
