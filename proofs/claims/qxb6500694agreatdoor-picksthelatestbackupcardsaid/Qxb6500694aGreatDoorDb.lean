/-
  THE WORLD, PART B: a primary as it lies; current, checkpoint.
-/
import Derived.Test.Qxb6500694aGreatDoorCl
import Derived.Test.Qxb6500694aGreatDoorDa
namespace Go.Proofs.Qxb6500694aGreatDoor
open Go Go.Eng Go.Proofs
set_option maxRecDepth 100000
set_option linter.unusedVariables false
set_option linter.unusedSimpArgs false
set_option linter.unusedSectionVars false

/-- A version of a page. -/
structure Ver where
  lsn : Int
  v0 : Int
  v1 : Int

def Ver.cs (v : Ver) : List Value := [.int .u64 v.lsn, .int .u64 v.v0, .int .u64 v.v1]
theorem Ver.size (v : Ver) : (Ver.cs v).length = 3 := rfl
def I64.cs (x : Int) : List Value := [.int .i64 x]
theorem I64.size (x : Int) : (I64.cs x).length = 1 := rfl

/-- A primary's data. -/
structure PD where
  lsn : Int
  time : Int
  redo : Int
  sp : Nat → Option Addr
  sn : Nat → Nat
  sc : Nat → Nat
  up : Option Addr
  un : Nat
  uc : Nat
  bk : Option Addr
  lid : Int
  lpos : Int

def PD.cells (d : PD) : Array Value :=
  #[.int .u64 d.lsn, .int .i64 d.time, .int .u64 d.redo, .slice (d.sp 0) (d.sn 0) (d.sc 0), .slice (d.sp 1) (d.sn 1) (d.sc 1), .slice (d.sp 2) (d.sn 2) (d.sc 2), .slice (d.sp 3) (d.sn 3) (d.sc 3), .slice d.up d.un d.uc, .pointer d.bk, .int .u64 d.lid, .int .u64 d.lpos]

def fset {α : Type} (f : Nat → α) (i : Nat) (x : α) : Nat → α := fun j => if j = i then x else f j

def PD.setSince (d : PD) (i : Nat) (p : Option Addr) (n c : Nat) : PD := { d with sp := fset d.sp i p, sn := fset d.sn i n, sc := fset d.sc i c }

theorem PD.set_since (d : PD) {i : Nat} (hi : i < 4) (p : Option Addr) (n c : Nat) : setAll d.cells (0 + 3 + i * 1) [.slice p n c] = (d.setSince i p n c).cells := by
  obtain rfl | rfl | rfl | rfl : i = 0 ∨ i = 1 ∨ i = 2 ∨ i = 3 := by omega
  all_goals rfl

theorem PD.get_since (d : PD) {i : Nat} (hi : i < 4) : (d.cells.toList.drop (0 + 3 + i * 1)).take 1 = [.slice (d.sp i) (d.sn i) (d.sc i)] := by
  obtain rfl | rfl | rfl | rfl : i = 0 ∨ i = 1 ∨ i = 2 ∨ i = 3 := by omega
  all_goals rfl

/-- A commit whose sets lie in read-only arrays. -/
structure ComT (H : Heap) (g : Gh) (x : Com) : Prop where
  lsn : inU x.lsn
  len : x.sn ≤ 65536
  sets : ∃ xs : List SetV, ReadL H 2 SetV.cs x.sp x.sn xs ∧ ∀ s ∈ xs, 0 ≤ s.key ∧ s.key < 8
  tag : ∀ a, x.sp = some a → g a.block = some (0, 0)

theorem ComT.ok {H : Heap} {g : Gh} {x : Com} (h : ComT H g x) : x.ok H := ⟨h.lsn, h.len, h.sets⟩

/-- A backup being taken. -/
structure Tak (H : Heap) (g : Gh) (kb : Nat) (t : Int) : Prop where
  tag : g kb = some (15, t)
  ex : ∃ (id par tl start stop : Int) (pp : Option Addr) (pn pc : Nat) (ps : Int) (nx : Nat) (ri : Nat) (es : Array MapEntry) (ck : Nat) (xs : List Int),
    H kb = some (.cells #[.int .u64 id, .int .u64 par, .int .u32 tl, .int .u64 start, .int .u64 stop, .slice pp pn pc, .int .u64 ps, .int .i64 (nx : Int), .map (some ri)] 173 (0, 0)) ∧
    nx ≤ 4 ∧ OwnT H g (17, t) 3 1 I64.cs pp pn pc xs ∧ pn ≤ nx ∧ g ri = some (16, t) ∧ H ri = some (.map es ck) ∧ MapOk .i64 es ck

/-- A primary. -/
structure Prim (H : Heap) (g : Gh) (cnt lg : Nat) (pb : Nat) (t : Int) (d : PD) : Prop where
  tag : g pb = some (9, t)
  blk : H pb = some (.cells d.cells 169 (0, 0))
  lsn : inU d.lsn
  since : ∀ i, i < 4 → ∃ vs, OwnT H g (10 + i, t) 176 3 Ver.cs (d.sp i) (d.sn i) (d.sc i) vs ∧ 0 < d.sn i ∧ d.sn i ≤ cnt + 1
  unsent : ∃ zs, OwnT H g (14, t) 77 4 Com.cs d.up d.un d.uc zs ∧ (∀ x ∈ zs, ComT H g x) ∧ d.un + lg ≤ cnt
  bk : d.bk = none ∨ ∃ kb, d.bk = some ⟨kb, 0, none⟩ ∧ Tak H g kb t

section
variable {S : Nat × Int → Prop} {H H' : Heap} {g g' : Gh} {cnt lg pb : Nat} {t : Int} {d : PD}

theorem ReadL.ev {α : Type} {sz : Nat} {enc : α → List Value} {p : Option Addr} {n : Nat} {xs : List α} {tg : Nat × Int} (h : ReadL H sz enc p n xs) (ht : ∀ a, p = some a → g a.block = some tg) (he : Ev S H g H' g') (hn : ¬ S tg) : ReadL H' sz enc p n xs :=
  ⟨h.len, fun i hi => let ⟨b, o, h1, h2⟩ := h.cells i hi; ⟨b, o, h1, h2.keep (he.keep b tg (ht _ h1) hn)⟩⟩

theorem ComT.ev {x : Com} (h : ComT H g x) (he : Ev S H g H' g') (hn : ¬ S (0, 0)) : ComT H' g' x := by
  obtain ⟨xs, h1, h2⟩ := h.sets
  exact ⟨h.lsn, h.len, ⟨xs, h1.ev h.tag he hn, h2⟩, fun a ha => he.tag _ _ (h.tag a ha)⟩

theorem Tak.ev {kb : Nat} (h : Tak H g kb t) (he : Ev S H g H' g') (hn : ∀ k, ¬ S (k, t)) : Tak H' g' kb t := by
  obtain ⟨id, par, tl, start, stop, pp, pn, pc, ps, nx, ri, es, ck, xs, h1, h2, h3, h4, h5, h6, h7⟩ := h.ex
  exact ⟨he.tag _ _ h.tag, id, par, tl, start, stop, pp, pn, pc, ps, nx, ri, es, ck, xs, he.get h.tag (hn _) h1, h2, h3.ev he (hn _), h4, he.tag _ _ h5, he.get h5 (hn _) h6, h7⟩

/-- What turns elsewhere leaves a primary. -/
theorem Prim.ev (h : Prim H g cnt lg pb t d) (he : Ev S H g H' g') (hn : ∀ k, ¬ S (k, t)) (h0 : ¬ S (0, 0)) : Prim H' g' cnt lg pb t d := by
  refine ⟨he.tag _ _ h.tag, he.get h.tag (hn _) h.blk, h.lsn, fun i hi => ?_, ?_, ?_⟩
  · obtain ⟨vs, h1, h2⟩ := h.since i hi
    exact ⟨vs, h1.ev he (hn _), h2⟩
  · obtain ⟨zs, h1, h2, h3⟩ := h.unsent
    exact ⟨zs, h1.ev he (hn _), fun x hx => (h2 x hx).ev he h0, h3⟩
  · rcases h.bk with hb | ⟨kb, h1, h2⟩
    · exact .inl hb
    · exact .inr ⟨kb, h1, h2.ev he hn⟩

theorem Prim.bound (h : Prim H g cnt lg pb t d) {cnt' : Nat} (hc : cnt ≤ cnt') : Prim H g cnt' lg pb t d := by
  refine ⟨h.tag, h.blk, h.lsn, fun i hi => ?_, ?_, h.bk⟩
  · obtain ⟨vs, h1, h2, h3⟩ := h.since i hi
    exact ⟨vs, h1, h2, by omega⟩
  · obtain ⟨zs, h1, h2, h3⟩ := h.unsent
    exact ⟨zs, h1, h2, by omega⟩

/-- The tags of the primary's own blocks. -/
def Sp (t : Int) (tg : Nat × Int) : Prop := tg.2 = t ∧ 9 ≤ tg.1 ∧ tg.1 ≤ 18

theorem f97_ht (hp : Prim H g cnt lg pb t d) (hcnt : cnt ≤ 65536) {i : Nat} (hi : i < 4) :
    HT Tryz.prog 97 [.pointer (some ⟨pb, 0, none⟩), .int .i64 (i : Int)] H fun v H' => H' = H ∧ ∃ x : Ver, v = .agg #[.int .u64 x.lsn, .int .u64 x.v0, .int .u64 x.v1] := by
  obtain ⟨vs, ho, h0, h1⟩ := hp.since i hi
  have hlen := ho.own.len
  apply f97_of
  intro _
  have hc : Cells H pb (0 + 3 + ((i : Nat) : Int).toNat * 1) [.slice (d.sp i) (d.sn i) (d.sc i)] := Cells.of hp.blk (d.get_since hi)
  obtain ⟨b, o, hpp, hcc⟩ := ho.own.cells (i := d.sn i - 1) (by omega)
  refine ⟨pb, 0, rfl, by omega, by omega, _, _, _, hc, pb, 0, rfl, by omega, by omega, _, _, _, hc, ?_⟩
  rw [wrapP (by omega) h0]
  exact ⟨b, o, hpp, by omega, by omega, _, _, _, hcc, rfl, vs[d.sn i - 1], rfl⟩

/-- The since list of a page is laid anew. -/
theorem Prim.newSince (hp : Prim H g cnt lg pb t d) (hg : GOk H g) {i : Nat} (hi : i < 4) (x : Ver) {b : Nat} {H1 H2 : Heap} (ha : Al H (.cells #[.int .u64 x.lsn, .int .u64 x.v0, .int .u64 x.v1] 176 (0, 0)) b H1)
    (hw : Wr H1 pb (.cells (setAll d.cells (0 + 3 + i * 1) [.slice (some ⟨b, 0, none⟩) 1 1]) 169 (0, 0)) H2) :
    ∃ g2, Ev (Sp t) H g H2 g2 ∧ Prim H2 g2 cnt lg pb t (d.setSince i (some ⟨b, 0, none⟩) 1 1) := by
  obtain ⟨e1, ht1⟩ := Ev.al (S := fun tg => tg = (9, t)) hg ha (10 + i, t)
  have htp := e1.tag _ _ hp.tag
  have e2 : Ev (fun tg => tg = (9, t)) H1 (gset g b (10 + i, t)) H2 (gset g b (10 + i, t)) := Ev.wr e1.ok hw fun tg htg => by rw [htp] at htg; cases htg; rfl
  have e := e1.trans e2
  refine ⟨_, e.mono fun tg htg => ?_, e.tag _ _ hp.tag, ?_, hp.lsn, fun j hj => ?_, ?_, ?_⟩
  · subst htg; exact ⟨rfl, Nat.le_refl 9, by simp⟩
  · rw [hw.same, d.set_since hi]
  · by_cases hji : j = i
    · subst hji
      have hbp : b ≠ pb := by
        intro he
        have := ha.fresh
        rw [he, hp.blk] at this; cases this
      refine ⟨[x], ⟨⟨?_, Ver.size, .inr ⟨b, 0, #[.int .u64 x.lsn, .int .u64 x.v0, .int .u64 x.v1], ?_, hw.keep ha.same hbp, ?_, ?_, ?_⟩⟩, ?_⟩, ?_, ?_⟩
      · simp [PD.setSince, fset]
      · simp [PD.setSince, fset]
      · simp [PD.setSince, fset]
      · simp [PD.setSince, fset]
      · simp [PD.setSince, fset, Ver.cs]
      · intro a haa
        simp [PD.setSince, fset] at haa
        subst haa
        exact ht1
      · simp [PD.setSince, fset]
      · simp [PD.setSince, fset]
    · obtain ⟨vs, h1, h2, h3⟩ := hp.since j hj
      refine ⟨vs, ?_, ?_, ?_⟩
      · have := h1.ev e (by intro h; have h9 := congrArg Prod.fst h; simp at h9; omega)
        simpa [PD.setSince, fset, hji] using this
      · simpa [PD.setSince, fset, hji] using h2
      · simpa [PD.setSince, fset, hji] using h3
  · obtain ⟨zs, h1, h2, h3⟩ := hp.unsent
    exact ⟨zs, h1.ev e (by intro h; cases h), fun y hy => (h2 y hy).ev e (by intro h; cases h), h3⟩
  · rcases hp.bk with hb | ⟨kb, h1, h2⟩
    · exact .inl hb
    · refine .inr ⟨kb, h1, ?_⟩
      obtain ⟨id, par, tl, start, stop, pp, pn, pc, ps, nx, ri, es, ck, xs, k1, k2, k3, k4, k5, k6, k7⟩ := h2.ex
      exact ⟨e.tag _ _ h2.tag, id, par, tl, start, stop, pp, pn, pc, ps, nx, ri, es, ck, xs, e.get h2.tag (by intro h; cases h) k1, k2, k3.ev e (by intro h; cases h), k4, e.tag _ _ k5, e.get k5 (by intro h; cases h) k6, k7⟩

theorem Prim.kept (hp : Prim H g cnt lg pb t d) {S : Nat × Int → Prop} (e : Ev S H g H' g') (h9 : ∀ tg, S tg → tg = (9, t)) {d' : PD} (hb : H' pb = some (.cells d'.cells 169 (0, 0))) (hl : inU d'.lsn)
    (hs : ∀ i, i < 4 → d'.sp i = d.sp i ∧ d'.sn i = d.sn i ∧ d'.sc i = d.sc i) (hu : d'.up = d.up ∧ d'.un = d.un ∧ d'.uc = d.uc) (hk : d'.bk = d.bk) : Prim H' g' cnt lg pb t d' := by
  have hn : ∀ k, k ≠ 9 → ¬ S (k, t) := fun k hk h => hk (congrArg Prod.fst (h9 _ h))
  have h0 : ¬ S (0, 0) := fun h => by have := congrArg Prod.fst (h9 _ h); simp at this
  refine ⟨e.tag _ _ hp.tag, hb, hl, fun i hi => ?_, ?_, ?_⟩
  · obtain ⟨vs, h1, h2⟩ := hp.since i hi
    obtain ⟨a1, a2, a3⟩ := hs i hi
    rw [a1, a2, a3]
    exact ⟨vs, h1.ev e (hn _ (by omega)), h2⟩
  · obtain ⟨zs, h1, h2, h3⟩ := hp.unsent
    obtain ⟨a1, a2, a3⟩ := hu
    rw [a1, a2, a3]
    exact ⟨zs, h1.ev e (hn _ (by omega)), fun y hy => (h2 y hy).ev e h0, h3⟩
  · rw [hk]
    rcases hp.bk with hb | ⟨kb, h1, h2⟩
    · exact .inl hb
    · refine .inr ⟨kb, h1, ?_⟩
      obtain ⟨id, par, tl, start, stop, pp, pn, pc, ps, nx, ri, es, ck, xs, k1, k2, k3, k4, k5, k6, k7⟩ := h2.ex
      exact ⟨e.tag _ _ h2.tag, id, par, tl, start, stop, pp, pn, pc, ps, nx, ri, es, ck, xs, e.get h2.tag (hn _ (by omega)) k1, k2, k3.ev e (hn _ (by omega)), k4, e.tag _ _ k5, e.get k5 (hn _ (by omega)) k6, k7⟩

/-- A scalar of the primary is written. -/
theorem Prim.scalar (hp : Prim H g cnt lg pb t d) (hg : GOk H g) {d' : PD} (hw : Wr H pb (.cells d'.cells 169 (0, 0)) H') (hl : inU d'.lsn)
    (hs : ∀ i, i < 4 → d'.sp i = d.sp i ∧ d'.sn i = d.sn i ∧ d'.sc i = d.sc i) (hu : d'.up = d.up ∧ d'.un = d.un ∧ d'.uc = d.uc) (hk : d'.bk = d.bk) : Ev (Sp t) H g H' g ∧ Prim H' g cnt lg pb t d' := by
  have e : Ev (fun tg => tg = (9, t)) H g H' g := Ev.wr hg hw fun tg htg => by rw [hp.tag] at htg; cases htg; rfl
  exact ⟨e.mono fun tg h => by subst h; exact ⟨rfl, Nat.le_refl 9, by simp⟩, hp.kept e (fun _ h => h) hw.same hl hs hu hk⟩

/-- What checkpoint leaves. -/
def cpPost (H : Heap) (g : Gh) (cnt lg pb : Nat) (t : Int) (d : PD) (v : Value) (H' : Heap) : Prop :=
  v = .tuple #[] ∧ ∃ g' d', Ev (Sp t) H g H' g' ∧ Prim H' g' cnt lg pb t d' ∧ d'.bk = d.bk ∧ d'.lsn = d.lsn ∧ d'.lid = d.lid ∧ d'.lpos = d.lpos

theorem f67_L1_ht (hcnt : cnt ≤ 65536) {d0 : PD} {H0 : Heap} {g0 : Gh} : ∀ (k i : Nat) (H : Heap) (g : Gh) (d : PD), i + k = 4 → GOk H g → Prim H g cnt lg pb t d → Ev (Sp t) H0 g0 H g → d.bk = d0.bk → d.lsn = d0.lsn → d.lid = d0.lid → d.lpos = d0.lpos →
    f67_L1 (some ⟨pb, 0, none⟩) (i : Int) H (cpPost H0 g0 cnt lg pb t d0) := by
  intro k
  induction k with
  | zero =>
    intro i H g d hi hg hp e h1 h2 h3 h4
    apply f67_L1_of
    exact ⟨fun hd => absurd (of_decide_eq_true hd) (by omega), fun _ => ⟨rfl, g, d, e, hp, h1, h2, h3, h4⟩⟩
  | succ k ih =>
    intro i H g d hi hg hp e h1 h2 h3 h4
    apply f67_L1_of
    refine ⟨fun _ => ⟨pb, 0, rfl, ?_⟩, fun hd => absurd (of_decide_eq_false hd) (by omega)⟩
    refine (f97_ht hp hcnt (i := i) (by omega)).mono fun v H1 ⟨he, x, hv⟩ => ⟨x.lsn, x.v0, x.v1, hv, fun b18 H2 ha => ?_⟩
    subst he
    refine ⟨by omega, by omega, _, _, ha.keep hp.blk, ?_, fun H3 hw => ?_⟩
    · simp [PD.cells]; omega
    · obtain ⟨g2, e2, hp2⟩ := hp.newSince hg (i := i) (by omega) x ha hw
      rw [wrapS (by omega)]
      exact ih (i + 1) H3 g2 _ (by omega) e2.ok hp2 (e.trans e2) h1 h2 h3 h4

theorem f67_ht (hcnt : cnt ≤ 65536) (hg : GOk H g) (hp : Prim H g cnt lg pb t d) :
    HT Tryz.prog 67 [.pointer (some ⟨pb, 0, none⟩)] H (cpPost H g cnt lg pb t d) := by
  apply f67_of
  refine ⟨pb, 0, rfl, _, Cells.of hp.blk rfl, pb, 0, rfl, _, _, hp.blk, by simp [PD.cells], fun H1 hw => ?_⟩
  obtain ⟨e, hp1⟩ := hp.scalar hg (d' := { d with redo := d.lsn }) hw hp.lsn (fun _ _ => ⟨rfl, rfl, rfl⟩) ⟨rfl, rfl, rfl⟩ rfl
  exact f67_L1_ht hcnt 4 0 H1 g _ (by omega) e.ok hp1 e rfl rfl rfl rfl

end

end Go.Proofs.Qxb6500694aGreatDoor
