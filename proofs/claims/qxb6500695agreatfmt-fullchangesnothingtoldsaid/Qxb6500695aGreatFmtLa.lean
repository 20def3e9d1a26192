/-
  FULL CHANGES NOTHING, PART A: a crash is decided by the answers.
-/
import Derived.Test.Qxb6500695aGreatFmtFj
import Derived.Test.Qxb6500695aGreatFmtNd
namespace Go.Proofs.Qxb6500695aGreatFmt
open Go Go.Eng Go.Proofs
set_option maxRecDepth 100000
set_option linter.unusedVariables false
set_option linter.unusedSimpArgs false
set_option linter.unusedSectionVars false

/-- Two sorted lists of the same things are the same. -/
theorem uniq_of {α : Type} {r : α → α → Prop} (asym : ∀ a b, r a b → r b a → False) : ∀ (l m : List α), l.Pairwise r → m.Pairwise r → (∀ x, x ∈ l ↔ x ∈ m) → l = m
  | [], [], _, _, _ => rfl
  | [], b :: m, _, _, h => absurd ((h b).2 List.mem_cons_self) (by simp)
  | a :: l, [], _, _, h => absurd ((h a).1 List.mem_cons_self) (by simp)
  | a :: l, b :: m, hl, hm, h => by
    have hl := List.pairwise_cons.1 hl
    have hm := List.pairwise_cons.1 hm
    have hab : a = b := by
      rcases List.mem_cons.1 ((h a).1 List.mem_cons_self) with e | e
      · exact e
      · rcases List.mem_cons.1 ((h b).2 List.mem_cons_self) with e' | e'
        · exact e'.symm
        · exact (asym _ _ (hm.1 a e) (hl.1 b e')).elim
    subst hab
    rw [uniq_of asym l m hl.2 hm.2 fun x => ⟨fun hx => ?_, fun hx => ?_⟩]
    · rcases List.mem_cons.1 ((h x).1 (List.mem_cons_of_mem _ hx)) with e | e
      · subst e; exact (asym _ _ (hl.1 _ hx) (hl.1 _ hx)).elim
      · exact e
    · rcases List.mem_cons.1 ((h x).2 (List.mem_cons_of_mem _ hx)) with e | e
      · subst e; exact (asym _ _ (hm.1 _ hx) (hm.1 _ hx)).elim
      · exact e

/-- Planes that look alike. -/
def PlA (P Q : Pl) : Prop := P.cache = Q.cache ∧ ∀ i, P.dur i = Q.dur i

/-- Objects that look alike. -/
structure ObA (o p : Ob) : Prop where
  id : o.id = p.id
  size : o.size = p.size
  stable : o.stable = p.stable
  sizes : o.sizes = p.sizes
  res : o.res = p.res
  pl : PlA o.pl p.pl

/-- The answers of a picker: by the number of the question, the place and the n. -/
abbrev Ans := Nat → (Int × Int × Int) → Nat → Nat

def GoodA (ans : Ans) (n0 : Nat) (tr : List Ask) : Prop := ∀ i (h : i < tr.length), tr[i].2.2 = ans (n0 + i) tr[i].1 tr[i].2.1

section
variable {ans : Ans} {n0 ss ns cap N : Nat} {P Q : Pl} {o p : Ob}

theorem PlA.refl (P : Pl) : PlA P P := ⟨rfl, fun _ => rfl⟩
theorem PlA.trans {R : Pl} (h : PlA P Q) (k : PlA Q R) : PlA P R := ⟨h.1.trans k.1, fun i => (h.2 i).trans (k.2 i)⟩
theorem PlA.symm (h : PlA P Q) : PlA Q P := ⟨h.1.symm, fun i => (h.2 i).symm⟩
theorem ObA.refl (o : Ob) : ObA o o := ⟨rfl, rfl, rfl, rfl, rfl, PlA.refl _⟩
theorem ObA.trans {r : Ob} (h : ObA o p) (k : ObA p r) : ObA o r := ⟨h.id.trans k.id, h.size.trans k.size, h.stable.trans k.stable, h.sizes.trans k.sizes, h.res.trans k.res, h.pl.trans k.pl⟩
theorem ObA.symm (h : ObA o p) : ObA p o := ⟨h.id.symm, h.size.symm, h.stable.symm, h.sizes.symm, h.res.symm, h.pl.symm⟩

theorem GoodA.left {a b : List Ask} (h : GoodA ans n0 (a ++ b)) : GoodA ans n0 a := fun i hi => by
  have := h i (by rw [List.length_append]; omega)
  rw [List.getElem_append_left hi] at this
  exact this

theorem GoodA.right {a b : List Ask} (h : GoodA ans n0 (a ++ b)) : GoodA ans (n0 + a.length) b := fun i hi => by
  have := h (a.length + i) (by rw [List.length_append]; omega)
  rw [List.getElem_append_right (by omega)] at this
  have he : a.length + i - a.length = i := by omega
  simp only [he] at this
  rw [this, Nat.add_assoc]

theorem GoodA.app {a b : List Ask} (h : GoodA ans n0 a) (k : GoodA ans (n0 + a.length) b) : GoodA ans n0 (a ++ b) := fun i hi => by
  rcases Nat.lt_or_ge i a.length with hlt | hge
  · rw [List.getElem_append_left hlt]; exact h i hlt
  · rw [List.getElem_append_right hge]
    rw [List.length_append] at hi
    have := k (i - a.length) (by omega)
    rw [this]
    congr 1
    omega

theorem GoodA.nil : GoodA ans n0 [] := fun i hi => by simp at hi

theorem GoodA.snoc {a : List Ask} {x : Ask} (h : GoodA ans n0 a) (hx : x.2.2 = ans (n0 + a.length) x.1 x.2.1) : GoodA ans n0 (a ++ [x]) :=
  h.app fun i hi => by
    have : i = 0 := by simpa using hi
    subst this
    simpa using hx

theorem Dirty.det {ks ls : List Int} (h : Dirty P ns ks) (k : Dirty Q ns ls) (hc : P.cache = Q.cache) : ks = ls := by
  have srt : ∀ {l : List Int}, l.Nodup ∧ SrtTo l.length l → l.Pairwise fun a b => a < b := fun {l} hl => by
    refine List.pairwise_iff_getElem.2 fun i j hi hj hij => ?_
    have h1 := hl.2 i j hi hj hij hj
    have h2 := List.pairwise_iff_getElem.1 hl.1 i j hi hj hij
    omega
  refine uniq_of (fun a b h1 h2 => by omega) _ _ (srt h.1) (srt k.1) fun x => ?_
  rw [h.2.2.2, k.2.2.2, hc]

theorem ask_det {f : Int → Int × Int × Int} {ks : List Int} {ch ch' : Int → Nat} (hc : P.cache = Q.cache) (g1 : GoodA ans n0 (ks.map fun i => (f i, (P.cache i).length, ch i))) (g2 : GoodA ans n0 (ks.map fun i => (f i, (Q.cache i).length, ch' i)))
    (z1 : ∀ i, i ∉ ks → ch i = 0) (z2 : ∀ i, i ∉ ks → ch' i = 0) : ch = ch' := by
  funext i
  by_cases hi : i ∈ ks
  · obtain ⟨j, hj, rfl⟩ := List.getElem_of_mem hi
    have a := g1 j (by simpa using hj)
    have b := g2 j (by simpa using hj)
    simp only [List.getElem_map] at a b
    rw [a, b, hc]
  · rw [z1 i hi, z2 i hi]

theorem settled_det (h : PlA P Q) (ch : Int → Nat) (i : Nat) : settled P ch i = settled Q ch i := by
  unfold settled
  rw [h.1, h.2]

theorem clean_A {P Q : Pl} (hp : P.clean) (hq : Q.clean) (hd : ∀ i, P.dur i = Q.dur i) : PlA P Q :=
  ⟨funext fun i => by rw [hp i, hq i], hd⟩

/-- A device's crash. -/
theorem dcrashR.det {D F D1 F1 : Pl} {t u : List Ask} (hA : PlA D F) (h : dcrashR ns D t D1) (k : dcrashR ns F u F1) (g1 : GoodA ans n0 t) (g2 : GoodA ans n0 u) : PlA D1 F1 ∧ t = u := by
  obtain ⟨ch, ks, c1, hD, _, z1, d1, rfl⟩ := h
  obtain ⟨ch', ls, c2, hF, _, z2, d2, rfl⟩ := k
  obtain rfl := hD.det hF hA.1
  obtain rfl := ask_det hA.1 g1 g2 z1 z2
  refine ⟨clean_A c1 c2 fun i => ?_, ?_⟩
  · rw [d1, d2, settled_det hA]
  · rw [hA.1]

/-- An object's crash. -/
theorem setP.det {kk ll : Nat} {ch ch' : Int → Nat} {ks ls : List Int} {P' Q' : Pl} (hA : ObA o p) (h : setP ss ns o kk ch ks P') (k : setP ss ns p ll ch' ls Q') (g1 : GoodA ans n0 (setAsk o kk ch ks)) (g2 : GoodA ans n0 (setAsk p ll ch' ls)) :
    ObA (setOb ss o kk P') (setOb ss p ll Q') ∧ setAsk o kk ch ks = setAsk p ll ch' ls := by
  obtain ⟨a1, a2, a3, a4, a5, a6⟩ := h
  obtain ⟨b1, b2, b3, b4, b5, b6⟩ := k
  have hkl : kk = ll := by
    by_cases hs : o.sizes = []
    · have hs' : p.sizes = [] := by rw [← hA.sizes]; exact hs
      rw [hs] at a1
      rw [hs'] at b1
      simp at a1 b1
      omega
    · have hs' : p.sizes ≠ [] := by rw [← hA.sizes]; exact hs
      have h1 := g1.left 0 (by simp [sizeAsk, hs])
      have h2 := g2.left 0 (by simp [sizeAsk, hs'])
      simp only [sizeAsk, hs, hs', if_false, List.getElem_cons_zero] at h1 h2
      rw [h1, h2, hA.id, hA.sizes]
  subst hkl
  have hsA : sizeAsk o kk = sizeAsk p kk := by unfold sizeAsk; rw [hA.id, hA.sizes]
  obtain rfl := a3.det b3 hA.pl.1
  have g1' := g1.right
  have g2' := g2.right
  rw [hsA] at g1'
  rw [hA.id] at g1'
  obtain rfl := ask_det hA.pl.1 g1' g2' a5 b5
  have hps : o.pickSize kk = p.pickSize kk := by unfold Ob.pickSize; rw [hA.stable, hA.sizes]
  refine ⟨⟨hA.id, hps, hps, rfl, ?_, clean_A a2 b2 fun i => ?_⟩, ?_⟩
  · show sect ss (o.pickSize kk) = sect ss (p.pickSize kk)
    rw [hps]
  · show P'.dur i = Q'.dur i
    rw [a6, b6, hps, settled_det hA.pl]
  · unfold setAsk
    rw [hsA, hA.id, hA.pl.1]

end

/-- Stores that look alike: the same but for the blocks, by the objects' numbers. -/
def idS (s : StV) (b : Nat) : Int := (s.O b).id

def jrA (s : StV) (j : Jr) : Int × ByteArray × ByteArray × Int := (j.ch, j.name, j.to, idS s j.ob)

structure StA (s f : StV) : Prop where
  used : s.used = f.used
  xs : s.xs = f.xs
  m : ∀ x, (s.m x).map (idS s) = (f.m x).map (idS f)
  st : ∀ x, (s.st x).map (idS s) = (f.st x).map (idS f)
  jr : s.jr.map (jrA s) = f.jr.map (jrA f)
  O : ∀ b ∈ s.T, ∀ c ∈ f.T, (s.O b).id = (f.O c).id → ObA (s.O b) (f.O c)

/-- A copy of a store. -/
structure StF (s f : StV) : Prop where
  used : s.used = f.used
  xs : s.xs = f.xs
  m : ∀ x, (s.m x).map (idS s) = (f.m x).map (idS f)
  st : ∀ x, (s.st x).map (idS s) = (f.st x).map (idS f)
  jr : s.jr.map (jrA s) = f.jr.map (jrA f)
  O : ∀ c ∈ f.T, ∃ b ∈ s.T, ObA (s.O b) (f.O c)

section
variable {ans : Ans} {n0 ss ns cap N : Nat} {s f h : StV}

theorem StF.refl (s : StV) : StF s s := ⟨rfl, rfl, fun _ => rfl, fun _ => rfl, rfl, fun c hc => ⟨c, hc, ObA.refl _⟩⟩

theorem StF.trans {r : StV} (a : StF s f) (b : StF f r) : StF s r :=
  ⟨a.used.trans b.used, a.xs.trans b.xs, fun x => (a.m x).trans (b.m x), fun x => (a.st x).trans (b.st x), a.jr.trans b.jr, fun c hc => by
    obtain ⟨d, hd, h1⟩ := b.O c hc
    obtain ⟨e, he, h2⟩ := a.O d hd
    exact ⟨e, he, h2.trans h1⟩⟩

theorem StF.pair {r : StV} (hid : (s.T.map fun b => (s.O b).id).Nodup) (a : StF s f) (b : StF s r) : StA f r :=
  ⟨a.used.symm.trans b.used, a.xs.symm.trans b.xs, fun x => (a.m x).symm.trans (b.m x), fun x => (a.st x).symm.trans (b.st x), a.jr.symm.trans b.jr, fun c hc d hd he => by
    obtain ⟨c', hc', h1⟩ := a.O c hc
    obtain ⟨d', hd', h2⟩ := b.O d hd
    have : c' = d' := ids_inj hid hc' hd' (by rw [h1.id, h2.id, he])
    subst this
    exact h1.symm.trans h2⟩

theorem Iso.toF {τ : Nat → Option Nat} (h : Iso s f τ) : StF s f := by
  have hid : ∀ b b', τ b = some b' → idS f b' = idS s b := fun b b' hb => by
    obtain ⟨_, pb, ho⟩ := h.O b b' hb
    unfold idS
    rw [ho]
  have key : ∀ o : Option Nat, (∀ b, o = some b → τ b ≠ none) → o.map (idS s) = (o.bind τ).map (idS f) := fun o ho => by
    cases o with
    | none => rfl
    | some b =>
      cases hb : τ b with
      | none => exact absurd hb (ho b rfl)
      | some b' => simp [hb, hid b b' hb]
  refine ⟨h.used.symm, h.xs.symm, fun x => ?_, fun x => ?_, ?_, fun c hc => ?_⟩
  · rw [h.said.a]; exact key _ (h.said.ad x)
  · rw [h.said.m]; exact key _ (h.said.md x)
  · rw [h.jr, List.map_map]
    refine List.map_congr_left fun j hj => ?_
    unfold jrA
    simp only [Function.comp, Jr.tw]
    cases hb : τ j.ob with
    | none => exact absurd hb (h.jd j hj).1
    | some b' => simp [hid _ _ hb]
  · rw [h.T] at hc
    obtain ⟨b, hb, hbc⟩ := List.mem_filterMap.1 hc
    obtain ⟨_, pb, ho⟩ := h.O b c hbc
    exact ⟨b, hb, by rw [ho]; exact ⟨rfl, rfl, rfl, rfl, rfl, PlA.refl _⟩⟩

/-- Journals alike lead to directories alike. -/
theorem redoN_A : ∀ (l k : List Jr) (a b : NM), l.map (jrA s) = k.map (jrA f) → (∀ x, (a x).map (idS s) = (b x).map (idS f)) → ∀ x, (redoN l a x).map (idS s) = (redoN k b x).map (idS f)
  | [], [], _, _, _, h, x => h x
  | [], _ :: _, _, _, hl, _, _ => by simp at hl
  | _ :: _, [], _, _, hl, _, _ => by simp at hl
  | i :: l, j :: k, a, b, hl, h, x => by
    rw [List.map_cons, List.map_cons] at hl
    obtain ⟨h1, h2⟩ := List.cons.inj hl
    unfold jrA at h1
    simp only [Prod.mk.injEq] at h1
    obtain ⟨c1, c2, c3, c4⟩ := h1
    rw [redoN, redoN]
    refine redoN_A l k _ _ h2 (fun y => ?_) x
    unfold redo mset
    rw [c1, c2, c3]
    split
    · dsimp only; split
      · simp [c4]
      · exact h y
    · split
      · dsimp only; split
        · rfl
        · exact h y
      · split
        · dsimp only; split
          · simp [c4]
          · split
            · rfl
            · exact h y
        · exact h y

theorem SetAll.inv {bs : List Nat} {tr : List Ask} {s' : StV} (h : SetAll ss ns s bs tr s') : (bs = [] ∧ tr = [] ∧ s' = s) ∨ ∃ cs t s1 b kk ch ks P', SetAll ss ns s cs t s1 ∧ setP ss ns (s1.O b) kk ch ks P' ∧ bs = cs ++ [b] ∧ tr = t ++ setAsk (s1.O b) kk ch ks ∧ s' = setS ss s1 b kk P' := by
  induction h using SetAll.ind with
  | nil => exact .inl ⟨rfl, rfl, rfl⟩
  | snoc h1 h2 ih => exact .inr ⟨_, _, _, _, _, _, _, _, h1, h2, rfl, rfl, rfl⟩

/-- What two crashes leave alike. -/
def SetA (s f : StV) : Prop := s.used = f.used ∧ ∀ b ∈ s.T, ∀ c ∈ f.T, (s.O b).id = (f.O c).id → ObA (s.O b) (f.O c)

theorem SetAll.det {bs : List Nat} {tr : List Ask} {s' : StV} (hs : (s.T.map fun b => (s.O b).id).Nodup) (hf : (f.T.map fun b => (f.O b).id).Nodup) (hA : SetA s f) (h : SetAll ss ns s bs tr s') :
    ∀ (cs : List Nat) (u : List Ask) (f' : StV), SetAll ss ns f cs u f' → bs.map (idS s) = cs.map (idS f) → (∀ b ∈ bs, b ∈ s.T) → (∀ c ∈ cs, c ∈ f.T) → GoodA ans n0 tr → GoodA ans n0 u → SetA s' f' ∧ tr = u := by
  induction h using SetAll.ind with
  | nil =>
    intro cs u f' hf' hm _ _ _ _
    rcases hf'.inv with ⟨_, rfl, rfl⟩ | ⟨cs', t, s1, b, kk, ch, ks, P', _, _, rfl, _⟩
    · exact ⟨hA, rfl⟩
    · simp at hm
  | snoc h1 h2 ih =>
    rename_i bs tr s1 b kk ch ks P'
    intro cs u f' hf' hm hbT hcT g1 g2
    rcases hf'.inv with ⟨rfl, _⟩ | ⟨cs', t, f1, c, ll, ch', ls, Q', k1, k2, rfl, rfl, rfl⟩
    · simp at hm
    · rw [List.map_append, List.map_append] at hm
      obtain ⟨hm1, hm2⟩ := List.append_inj' hm rfl
      simp at hm2
      obtain ⟨⟨hu, hO⟩, rfl⟩ := ih cs' t f1 k1 hm1 (fun x hx => hbT x (List.mem_append_left _ hx)) (fun x hx => hcT x (List.mem_append_left _ hx)) g1.left g2.left
      have S1 := h1.same
      have F1 := k1.same
      have bT : b ∈ s1.T := by rw [S1.1]; exact hbT b (by simp)
      have cT : c ∈ f1.T := by rw [F1.1]; exact hcT c (by simp)
      have hbc : (s1.O b).id = (f1.O c).id := by rw [S1.2.2.2.2.2.2, F1.2.2.2.2.2.2]; exact hm2
      have hs1 : (s1.T.map fun b => (s1.O b).id).Nodup := by rw [S1.1]; simpa only [S1.2.2.2.2.2.2] using hs
      have hf1 : (f1.T.map fun b => (f1.O b).id).Nodup := by rw [F1.1]; simpa only [F1.2.2.2.2.2.2] using hf
      obtain ⟨hN, hask⟩ := setP.det (hO b bT c cT hbc) h2 k2 g1.right g2.right
      refine ⟨⟨?_, fun x hx y hy he => ?_⟩, by rw [hask]⟩
      · show s1.used + (sect ss ((s1.O b).pickSize kk) : Int) = f1.used + (sect ss ((f1.O c).pickSize ll) : Int)
        have := hN.size
        simp only [setOb] at this
        rw [hu, this]
      · simp only [setS] at hx hy he ⊢
        by_cases hxb : x = b
        · subst hxb
          have hy' : y = c := by
            refine ids_inj hf1 hy cT ?_
            have e1 : (oset s1.O x (setOb ss (s1.O x) kk P') x).id = (s1.O x).id := by simp [oset, setOb]
            rw [e1] at he
            have e2 : (oset f1.O c (setOb ss (f1.O c) ll Q') y).id = (f1.O y).id := by
              unfold oset
              split
              · rename_i h9; rw [h9]; rfl
              · rfl
            rw [e2] at he
            rw [← he, hbc]
          subst hy'
          simpa [oset] using hN
        · have e1 : oset s1.O b (setOb ss (s1.O b) kk P') x = s1.O x := by simp [oset, hxb]
          rw [e1] at he ⊢
          have e2 : (oset f1.O c (setOb ss (f1.O c) ll Q') y).id = (f1.O y).id := by
            unfold oset
            split
            · rename_i h9; rw [h9]; rfl
            · rfl
          rw [e2] at he
          have hyc : y ≠ c := fun hc => hxb (ids_inj hs1 hx bT (by rw [he, hc, ← hbc]))
          have e3 : oset f1.O c (setOb ss (f1.O c) ll Q') y = f1.O y := by simp [oset, hyc]
          rw [e3]
          exact hO x hx y hy he

/-- A store's crash. -/
theorem crashR.det {t u : List Ask} {s' f' : StV} (hA : StA s f) (hI : StI ss cap N s) (hJ : StI ss cap N f) (h : crashR ss cap s t s') (k : crashR ss cap f u f') (g1 : GoodA ans n0 t) (g2 : GoodA ans n0 u) : StA s' f' ∧ t = u := by
  obtain ⟨kp, ys, tr, a1, a2, a3, a4, rfl⟩ := h
  obtain ⟨lp, zs, ur, b1, b2, b3, b4, rfl⟩ := k
  have hjl : s.jr.length = f.jr.length := by have := congrArg List.length hA.jr; simpa using this
  have hkl : kp = lp := by
    by_cases hs : s.jr = []
    · have hs' : f.jr = [] := List.eq_nil_of_length_eq_zero (by rw [← hjl, hs]; rfl)
      rw [hs] at a1
      rw [hs'] at b1
      simp at a1 b1
      omega
    · have hs' : f.jr ≠ [] := fun hc => hs (List.eq_nil_of_length_eq_zero (by rw [hjl, hc]; rfl))
      have h1 := g1.left 0 (by simp [dirAsk, hs])
      have h2 := g2.left 0 (by simp [dirAsk, hs'])
      simp only [dirAsk, hs, hs', if_false, List.getElem_cons_zero] at h1 h2
      rw [h1, h2, hjl]
  subst hkl
  have hdA : dirAsk s.jr kp = dirAsk f.jr kp := by
    unfold dirAsk
    by_cases hs : s.jr = []
    · have hs' : f.jr = [] := List.eq_nil_of_length_eq_zero (by rw [← hjl, hs]; rfl)
      rw [if_pos hs, if_pos hs']
    · have hs' : f.jr ≠ [] := fun hc => hs (List.eq_nil_of_length_eq_zero (by rw [hjl, hc]; rfl))
      rw [if_neg hs, if_neg hs', hjl]
  have hM : ∀ x, (redoN (s.jr.take kp) s.st x).map (idS s) = (redoN (f.jr.take kp) f.st x).map (idS f) := by
    refine redoN_A _ _ _ _ ?_ hA.st
    rw [List.map_take, List.map_take, hA.jr]
  have hne : ∀ x, redoN (s.jr.take kp) s.st x ≠ none ↔ redoN (f.jr.take kp) f.st x ≠ none := fun x => by
    have := hM x
    cases h1 : redoN (s.jr.take kp) s.st x <;> cases h2 : redoN (f.jr.take kp) f.st x <;> rw [h1, h2] at this <;> simp at this ⊢
  have hyz : ys = zs := uniq_of (fun a b h1 h2 => List.lt_irrefl _ (List.lt_trans h1 h2)) _ _ a2 b2 fun x => by rw [a3, b3, hne]
  subst hyz
  have hb : (ys.filterMap (redoN (s.jr.take kp) s.st)).map (idS (crash1 s kp ys)) = (ys.filterMap (redoN (f.jr.take kp) f.st)).map (idS (crash1 f kp ys)) := by
    have : ∀ l : List ByteArray, (l.filterMap (redoN (s.jr.take kp) s.st)).map (idS s) = (l.filterMap (redoN (f.jr.take kp) f.st)).map (idS f) := fun l => by
      rw [List.map_filterMap, List.map_filterMap]
      congr 1
      exact funext hM
    exact this ys
  have hT : ∀ b ∈ ys.filterMap (redoN (s.jr.take kp) s.st), b ∈ s.T := fun b hb => by
    obtain ⟨x, _, hx⟩ := List.mem_filterMap.1 hb
    exact hI.heldT b (hI.back kp x b hx)
  have hT' : ∀ b ∈ ys.filterMap (redoN (f.jr.take kp) f.st), b ∈ f.T := fun b hb => by
    obtain ⟨x, _, hx⟩ := List.mem_filterMap.1 hb
    exact hJ.heldT b (hJ.back kp x b hx)
  have g1' := g1.right
  have g2' := g2.right
  rw [hdA] at g1'
  obtain ⟨⟨hu, hO⟩, rfl⟩ := SetAll.det (ans := ans) (s := crash1 s kp ys) (f := crash1 f kp ys) hI.idn hJ.idn ⟨rfl, hA.O⟩ a4 _ _ _ b4 hb hT hT' g1' g2'
  have S1 := a4.same
  have F1 := b4.same
  have i1 : idS s' = idS s := funext fun x => S1.2.2.2.2.2.2 x
  have i2 : idS f' = idS f := funext fun x => F1.2.2.2.2.2.2 x
  refine ⟨⟨hu, ?_, fun x => ?_, fun x => ?_, ?_, hO⟩, by rw [hdA]⟩
  · rw [S1.2.2.1, F1.2.2.1]; rfl
  · rw [S1.2.1, F1.2.1, i1, i2]; exact hM x
  · rw [S1.2.2.2.1, F1.2.2.2.1, i1, i2]; exact hM x
  · rw [S1.2.2.2.2.1, F1.2.2.2.2.1]; rfl

end

/-- Nodes that look alike. -/
structure NdA (n f : NdV) : Prop where
  down : n.pw.down = f.pw.down
  D : PlA n.D f.D
  s : StA n.s f.s

theorem ndCrash.det {ans : Ans} {ss ns cap N : Nat} {n f n' f' : NdV} {t u : List Ask} (hD : PlA n.D f.D) (hA : StA n.s f.s) (hI : StI ss cap N n.s) (hJ : StI ss cap N f.s) (h : ndCrash ss ns cap n t n') (k : ndCrash ss ns cap f u f') (g1 : GoodA ans 0 t) (g2 : GoodA ans 0 u) : NdA n' f' := by
  obtain ⟨p1, tD, tS, d1, s1, rfl⟩ := h
  obtain ⟨p2, uD, uS, d2, s2, rfl⟩ := k
  obtain ⟨hD', rfl⟩ := d1.det hD d2 g1.left g2.left
  obtain ⟨hS', _⟩ := s1.det hA hI hJ s2 g1.right g2.right
  exact ⟨by rw [p1, p2], hD', hS'⟩

end Go.Proofs.Qxb6500695aGreatFmt
