/-
  THE WORLD, PART E: commit.
-/
import Derived.Test.Qxb6500694aGreatDoorDd
namespace Go.Proofs.Qxb6500694aGreatDoor
open Go Go.Eng Go.Proofs
set_option maxRecDepth 100000
set_option linter.unusedVariables false
set_option linter.unusedSimpArgs false
set_option linter.unusedSectionVars false

theorem eql224 {x y : Operand} (a b : Bool) : BinIs Tryz.prog .eql 224 x y (.agg #[.bool a, .bool b]) (.agg #[.bool false, .bool false]) (.bool (!a && !b)) := by
  intro w
  cases a <;> cases b <;> kernel_rfl

/-- A logged change. -/
structure Chg where
  page : Int
  im : Bool
  m0 : Bool
  m1 : Bool
  x0 : Int
  x1 : Int

def Chg.cs (c : Chg) : List Value := [.int .i64 c.page, .bool c.im, .bool c.m0, .bool c.m1, .int .u64 c.x0, .int .u64 c.x1]
theorem Chg.size (c : Chg) : (Chg.cs c).length = 6 := rfl
def Chg.cells (c : Chg) : Array Value := #[.int .i64 c.page, .bool c.im, .bool c.m0, .bool c.m1, .int .u64 c.x0, .int .u64 c.x1]
def Ver.cells (c : Ver) : Array Value := #[.int .u64 c.lsn, .int .u64 c.v0, .int .u64 c.v1]

section
variable {S : Nat × Int → Prop} {H H' : Heap} {g g' : Gh} {cnt lg pb kb : Nat} {t : Int} {d : PD}

theorem app_ver {xs : List Ver} {p : Option Addr} {n c b ty : Nat} {H1 : Heap} {tg : Nat × Int} {K : Value → Heap → Prop} (x : Ver) (ha : Al H (.cells #[.int .u64 x.lsn, .int .u64 x.v0, .int .u64 x.v1] 176 (0, 0)) b H1) (hg : GOk H g) (hs : OwnT H g tg 176 3 Ver.cs p n c xs) (hS : S tg) (hn : n < 2 ^ 34)
    (h3 : ∀ p' c' H' g', p' ≠ none → Ev S H g H' g' → OwnT H' g' tg 176 3 Ver.cs p' (n + 1) c' (xs ++ [x]) → (∀ b' o', H b' = some o' → (∀ a, p = some a → a.block ≠ b') → H' b' = some o') → K (.slice p' (n + 1) c') H') :
    SemOk Tryz.prog (Builtin.append_ #[165, 165] ty #[.slice p n c, .slice (some ⟨b, 0, none⟩) 1 1]) H1 K :=
  appT (enc := Ver.cs) (x := x) (inf := Tryz.t176) (zero := .agg #[.int .u64 0, .int .u64 0, .int .u64 0]) Tryz.underlying165 (by kernel_rfl) (by kernel_rfl) rfl (by decide) rfl ha rfl (by simp [Ver.cs, Value.oneCell']) hg hs hS hn h3

theorem app_chg {xs : List Chg} {p : Option Addr} {n c b ty : Nat} {H1 : Heap} {tg : Nat × Int} {K : Value → Heap → Prop} (x : Chg) (ha : Al H (.cells #[.int .i64 x.page, .bool x.im, .bool x.m0, .bool x.m1, .int .u64 x.x0, .int .u64 x.x1] 226 (0, 0)) b H1) (hg : GOk H g) (hs : OwnT H g tg 226 6 Chg.cs p n c xs) (hS : S tg) (hn : n < 2 ^ 34)
    (h3 : ∀ p' c' H' g', p' ≠ none → Ev S H g H' g' → OwnT H' g' tg 226 6 Chg.cs p' (n + 1) c' (xs ++ [x]) → (∀ b' o', H b' = some o' → (∀ a, p = some a → a.block ≠ b') → H' b' = some o') → K (.slice p' (n + 1) c') H') :
    SemOk Tryz.prog (Builtin.append_ #[75, 75] ty #[.slice p n c, .slice (some ⟨b, 0, none⟩) 1 1]) H1 K :=
  appT (enc := Chg.cs) (x := x) (inf := Tryz.t226) (zero := .agg #[.int .i64 0, .bool false, .bool false, .bool false, .int .u64 0, .int .u64 0]) Tryz.underlying75 (by kernel_rfl) (by kernel_rfl) rfl (by decide) rfl ha rfl (by simp [Chg.cs, Value.oneCell']) hg hs hS hn h3

theorem app_comT {xs : List Com} {p : Option Addr} {n c b ty : Nat} {H1 : Heap} {tg : Nat × Int} {K : Value → Heap → Prop} (x : Com) (ha : Al H (.cells #[.int .u64 x.lsn, .int .i64 x.time, .slice x.sp x.sn x.sc, .slice x.cp x.cn x.cc] 77 (0, 0)) b H1) (hg : GOk H g) (hs : OwnT H g tg 77 4 Com.cs p n c xs) (hS : S tg) (hn : n < 2 ^ 34)
    (h3 : ∀ p' c' H' g', p' ≠ none → Ev S H g H' g' → OwnT H' g' tg 77 4 Com.cs p' (n + 1) c' (xs ++ [x]) → (∀ b' o', H b' = some o' → (∀ a, p = some a → a.block ≠ b') → H' b' = some o') → K (.slice p' (n + 1) c') H') :
    SemOk Tryz.prog (Builtin.append_ #[72, 72] ty #[.slice p n c, .slice (some ⟨b, 0, none⟩) 1 1]) H1 K :=
  appT (enc := Com.cs) (x := x) (inf := Tryz.t77) (zero := .agg #[.int .u64 0, .int .i64 0, .slice none 0 0, .slice none 0 0]) Tryz.underlying72 (by kernel_rfl) (by kernel_rfl) rfl (by decide) rfl ha rfl (by simp [Com.cs, Value.oneCell']) hg hs hS hn h3

/-- The sets of a commit. -/
structure SetsT (H : Heap) (g : Gh) (p : Option Addr) (n : Nat) (xs : List SetV) : Prop where
  len : n ≤ 65536
  sets : ReadL H 2 SetV.cs p n xs
  keys : ∀ s ∈ xs, 0 ≤ s.key ∧ s.key < 8
  tag : ∀ a, p = some a → g a.block = some (0, 0)

theorem SetsT.ev {p : Option Addr} {n : Nat} {xs : List SetV} (h : SetsT H g p n xs) (he : Ev S H g H' g') (hn : ¬ S (0, 0)) : SetsT H' g' p n xs :=
  ⟨h.len, h.sets.ev h.tag he hn, h.keys, fun a ha => he.tag _ _ (h.tag a ha)⟩

theorem Sp.not0 : ¬ Sp t (0, 0) := fun h => by have := h.2.1; simp at this

/-- One since list turns, all else of the primary stands. -/
theorem Prim.grow (hp : Prim H g cnt lg pb t d) (hg : GOk H g) {i : Nat} (hi : i < 4) {p' : Option Addr} {n' c' : Nat} {vs : List Ver} {H1 H2 : Heap} {g1 : Gh} (e1 : Ev (fun tg => tg = (10 + i, t)) H g H1 g1)
    (ho : OwnT H1 g1 (10 + i, t) 176 3 Ver.cs p' n' c' vs) (hn0 : 0 < n') {cnt' : Nat} (hn1 : n' ≤ cnt' + 1) (hc : cnt ≤ cnt') (hw : Wr H1 pb (.cells (setAll d.cells (0 + 3 + i * 1) [.slice p' n' c']) 169 (0, 0)) H2) :
    Ev (Sp t) H g H2 g1 ∧ Prim H2 g1 cnt' lg pb t (d.setSince i p' n' c') := by
  have htp := e1.tag _ _ hp.tag
  have e2 : Ev (fun tg => tg = (9, t)) H1 g1 H2 g1 := Ev.wr e1.ok hw fun tg htg => by rw [htp] at htg; cases htg; rfl
  have e : Ev (fun tg => tg = (10 + i, t) ∨ tg = (9, t)) H g H2 g1 := (e1.mono fun _ h => .inl h).trans (e2.mono fun _ h => .inr h)
  have hn : ∀ k, k ≠ 9 → k ≠ 10 + i → ¬ ((k, t) = (10 + i, t) ∨ (k, t) = (9, t)) := by
    intro k h1 h2 h
    rcases h with h | h
    · exact h2 (congrArg Prod.fst h)
    · exact h1 (congrArg Prod.fst h)
  have h0 : ¬ (((0, 0) : Nat × Int) = (10 + i, t) ∨ ((0, 0) : Nat × Int) = (9, t)) := by
    intro h
    rcases h with h | h
    · have := congrArg Prod.fst h; simp at this; omega
    · have := congrArg Prod.fst h; simp at this
  refine ⟨e.mono fun tg htg => ?_, e.tag _ _ hp.tag, ?_, hp.lsn, fun j hj => ?_, ?_, ?_⟩
  · rcases htg with h | h
    · subst h; exact ⟨rfl, by simp; omega, by simp; omega⟩
    · subst h; exact ⟨rfl, Nat.le_refl 9, by simp⟩
  · rw [hw.same, d.set_since hi]
  · by_cases hji : j = i
    · subst hji
      refine ⟨vs, ?_, ?_, ?_⟩
      · have := ho.ev e2 (by intro h; have h9 := congrArg Prod.fst h; simp at h9; omega)
        simpa [PD.setSince, fset] using this
      · simpa [PD.setSince, fset] using hn0
      · simpa [PD.setSince, fset] using hn1
    · obtain ⟨us, h1, h2, h3⟩ := hp.since j hj
      refine ⟨us, ?_, ?_, ?_⟩
      · have := h1.ev e (hn _ (by omega) (by omega))
        simpa [PD.setSince, fset, hji] using this
      · simpa [PD.setSince, fset, hji] using h2
      · simp [PD.setSince, fset, hji]; omega
  · obtain ⟨zs, h1, h2, h3⟩ := hp.unsent
    exact ⟨zs, h1.ev e (hn _ (by omega) (by omega)), fun y hy => (h2 y hy).ev e h0, Nat.le_trans h3 hc⟩
  · rcases hp.bk with hb | ⟨kb, h1, h2⟩
    · exact .inl hb
    · refine .inr ⟨kb, h1, ?_⟩
      obtain ⟨id, par, tl, start, stop, pp, pn, pc, ps, nx, ri, es, ck, xs, k1, k2, k3, k4, k5, k6, k7⟩ := h2.ex
      exact ⟨e.tag _ _ h2.tag, id, par, tl, start, stop, pp, pn, pc, ps, nx, ri, es, ck, xs, e.get h2.tag (hn _ (by omega) (by omega)) k1, k2, k3.ev e (hn _ (by omega) (by omega)), k4, e.tag _ _ k5, e.get k5 (hn _ (by omega) (by omega)) k6, k7⟩

/-- The unsent list turns, all else of the primary stands. -/
theorem Prim.send (hp : Prim H g cnt lg pb t d) {p' : Option Addr} {n' c' : Nat} {zs : List Com} {H1 H2 : Heap} {g1 : Gh} (e1 : Ev (fun tg => tg = (14, t)) H g H1 g1)
    (ho : OwnT H1 g1 (14, t) 77 4 Com.cs p' n' c' zs) (hok : ∀ x ∈ zs, ComT H1 g1 x) {lg' : Nat} (hn1 : n' + lg' ≤ cnt) (hw : Wr H1 pb (.cells (setAll d.cells (0 + 7) [.slice p' n' c']) 169 (0, 0)) H2) :
    Ev (Sp t) H g H2 g1 ∧ Prim H2 g1 cnt lg' pb t { d with up := p', un := n', uc := c' } := by
  have htp := e1.tag _ _ hp.tag
  have e2 : Ev (fun tg => tg = (9, t)) H1 g1 H2 g1 := Ev.wr e1.ok hw fun tg htg => by rw [htp] at htg; cases htg; rfl
  have e : Ev (fun tg => tg = (14, t) ∨ tg = (9, t)) H g H2 g1 := (e1.mono fun _ h => .inl h).trans (e2.mono fun _ h => .inr h)
  have hn : ∀ k, k ≠ 9 → k ≠ 14 → ¬ ((k, t) = (14, t) ∨ (k, t) = (9, t)) := by
    intro k h1 h2 h
    rcases h with h | h
    · exact h2 (congrArg Prod.fst h)
    · exact h1 (congrArg Prod.fst h)
  refine ⟨e.mono fun tg htg => ?_, e.tag _ _ hp.tag, hw.same, hp.lsn, fun j hj => ?_, ⟨zs, ho.ev e2 (by intro h; cases h), fun x hx => (hok x hx).ev e2 (by intro h; cases h), hn1⟩, ?_⟩
  · rcases htg with h | h
    · subst h; exact ⟨rfl, by simp, by simp⟩
    · subst h; exact ⟨rfl, Nat.le_refl 9, by simp⟩
  · obtain ⟨us, h1, h2⟩ := hp.since j hj
    exact ⟨us, h1.ev e (hn _ (by omega) (by omega)), h2⟩
  · rcases hp.bk with hb | ⟨kb, h1, h2⟩
    · exact .inl hb
    · refine .inr ⟨kb, h1, ?_⟩
      obtain ⟨id, par, tl, start, stop, pp, pn, pc, ps, nx, ri, es, ck, xs, k1, k2, k3, k4, k5, k6, k7⟩ := h2.ex
      exact ⟨e.tag _ _ h2.tag, id, par, tl, start, stop, pp, pn, pc, ps, nx, ri, es, ck, xs, e.get h2.tag (hn _ (by omega) (by omega)) k1, k2, k3.ev e (hn _ (by omega) (by omega)), k4, e.tag _ _ k5, e.get k5 (hn _ (by omega) (by omega)) k6, k7⟩

theorem untag (hg : GOk H g) {b : Nat} (hb : H b = none) : g b = none := by
  cases hc : g b with
  | none => rfl
  | some tg => exact absurd hb (hg b tg hc)

def commitPost (H : Heap) (g : Gh) (cnt lg pb : Nat) (t : Int) (d : PD) (v : Value) (H' : Heap) : Prop :=
  v = .tuple #[] ∧ ∃ g' d', Ev (Sp t) H g H' g' ∧ Prim H' g' (cnt + 1) lg pb t d' ∧ d'.bk = d.bk

section loop
variable {H0 : Heap} {g0 : Gh} {d0 : PD} {sp : Option Addr} {sn sc : Nat} {ss : List SetV} {c0 c1 : Int}

/-- What holds at each page. -/
structure CmI (H0 : Heap) (g0 : Gh) (d0 : PD) (cnt lg pb : Nat) (t : Int) (sp : Option Addr) (sn : Nat) (ss : List SetV) (page : Nat) (cp : Option Addr) (cn cc : Nat) (H : Heap) (g : Gh) (d : PD) : Prop where
  ev : Ev (Sp t) H0 g0 H g
  prim : Prim H g (cnt + 1) lg pb t d
  bnd : ∀ j, page ≤ j → j < 4 → d.sn j ≤ cnt + 1
  un : d.un + lg ≤ cnt
  bk : d.bk = d0.bk
  sets : SetsT H g sp sn ss
  chg : ∃ ys, OwnT H g (18, t) 226 6 Chg.cs cp cn cc ys ∧ cn ≤ page

theorem CmI.quiet {page : Nat} {cp : Option Addr} {cn cc : Nat} (h : CmI H0 g0 d0 cnt lg pb t sp sn ss page cp cn cc H g d) (e : Ev (fun _ => False) H g H' g) : CmI H0 g0 d0 cnt lg pb t sp sn ss page cp cn cc H' g d := by
  obtain ⟨ys, h1, h2⟩ := h.chg
  exact ⟨h.ev.trans (e.mono fun _ h => h.elim), h.prim.ev e (fun _ h => h) (fun h => h), h.bnd, h.un, h.bk, h.sets.ev e (fun h => h), ys, h1.ev e (fun h => h), h2⟩


theorem f66_L1_ht (hcnt : cnt < 65536) (hc0 : inU c0) : ∀ (k page : Nat) (cp : Option Addr) (cn cc : Nat) (H : Heap) (g : Gh) (d : PD), page + k = 4 → CmI H0 g0 d0 cnt lg pb t sp sn ss page cp cn cc H g d →
    f66_L1 (some ⟨pb, 0, none⟩) sp sn sc c0 c1 sp sn sc cp cn cc (page : Int) H (commitPost H0 g0 cnt lg pb t d0) := by
  intro k
  induction k with
  | zero =>
    intro page cp cn cc H g d hk hI
    apply f66_L1_of
    refine ⟨fun hd => absurd (of_decide_eq_true hd) (by omega), fun _ => ⟨pb, 0, rfl, d.up, d.un, d.uc, Cells.of hI.prim.blk rfl, fun b118 H1 ha => ?_⟩⟩
    obtain ⟨zs, h1, h2, h3⟩ := hI.prim.unsent
    have hun := hI.un
    refine app_comT (S := fun tg => tg = (14, t)) ⟨c0, c1, sp, sn, sc, cp, cn, cc⟩ ha hI.ev.ok h1 rfl (by omega) fun p' c' H2 g2 hpn e2 ho2 _ => ⟨p', d.un + 1, c', rfl, ?_⟩
    have hs2 := hI.sets.ev e2 (by intro h; cases h)
    refine ⟨pb, 0, rfl, _, _, e2.get hI.prim.tag (by intro h; cases h) hI.prim.blk, by simp [PD.cells], fun H3 hw => ?_⟩
    have hok2 : ∀ x ∈ zs ++ [(⟨c0, c1, sp, sn, sc, cp, cn, cc⟩ : Com)], ComT H2 g2 x := by
      intro x hx
      rcases List.mem_append.1 hx with h4 | h4
      · exact (h2 x h4).ev e2 (by intro h; cases h)
      · rw [List.mem_singleton.1 h4]
        exact ⟨hc0, hs2.len, ⟨ss, hs2.sets, hs2.keys⟩, hs2.tag⟩
    obtain ⟨e3, hp3⟩ := hI.prim.send e2 ho2 hok2 (lg' := lg) (by omega) hw
    exact ⟨rfl, g2, _, hI.ev.trans e3, hp3, hI.bk⟩
  | succ k ih =>
    intro page cp cn cc H g d hk hI
    apply f66_L1_of
    refine ⟨fun _ => ?_, fun hd => absurd (of_decide_eq_false hd) (by omega)⟩
    refine (f97_ht (cnt := cnt + 1) hI.prim (by omega) (i := page) (by omega)).mono fun v H1 ⟨he, x, hv⟩ => ⟨x.lsn, x.v0, x.v1, hv, fun b10 H2 ha2 => ?_⟩
    subst he
    have e2 : Ev (fun _ => False) H1 g H2 g := Ev.sub hI.ev.ok ha2.sub
    have hg10 : g b10 = none := untag hI.ev.ok ha2.fresh
    refine ⟨_, _, ha2.same, by simp, fun H3 hw3 => ?_⟩
    have e3 : Ev (fun _ => False) H2 g H3 g := Ev.wr e2.ok hw3 fun tg h => by rw [hg10] at h; cases h
    have hI3 := (hI.quiet e2).quiet e3
    have hb10 : H3 b10 = some (.cells x.cells 176 (0, 0)) := hw3.same
    refine ⟨_, Cells.of hb10 rfl, pb, 0, rfl, _, Cells.of hI3.prim.blk rfl, fun b11 H4 ha4 => ?_⟩
    have e4 : Ev (fun _ => False) H3 g H4 g := Ev.sub e3.ok ha4.sub
    have hg11 : g b11 = none := untag e3.ok ha4.fresh
    refine ⟨_, _, ha4.same, by simp, fun H5 hw5 => ?_⟩
    have e5 : Ev (fun _ => False) H4 g H5 g := Ev.wr e4.ok hw5 fun tg h => by rw [hg11] at h; cases h
    have hI5 := (hI3.quiet e4).quiet e5
    have hne : b10 ≠ b11 := by
      intro h; have := ha4.fresh; rw [← h, hb10] at this; cases this
    have hb10' : H5 b10 = some (.cells x.cells 176 (0, 0)) := hw5.keep (ha4.keep hb10) hne
    have hb11 : H5 b11 = some (.cells (Chg.cells ⟨page, decide (x.lsn ≤ d.redo), false, false, 0, 0⟩) 226 (0, 0)) := hw5.same
    have hsl := hI.sets.sets.len
    have hsn := hI.sets.len
    have next : ∀ (cp : Option Addr) (cn cc : Nat) (H : Heap) (g : Gh) (d : PD), CmI H0 g0 d0 cnt lg pb t sp sn ss (page + 1) cp cn cc H g d →
        f66_L4 (some ⟨pb, 0, none⟩) sp sn sc c0 c1 sp sn sc cp cn cc (page : Int) H (commitPost H0 g0 cnt lg pb t d0) := by
      intro cp cn cc H g d hI
      apply f66_L4_of
      unfold f66_L4_pre
      rw [wrapS (by omega)]
      exact ih (page + 1) cp cn cc H g d (by omega) hI
    have inner : ∀ (k2 j : Nat) (y : Ver) (z : Chg) (H : Heap), j + k2 = sn → CmI H0 g0 d0 cnt lg pb t sp sn ss page cp cn cc H g d → H b10 = some (.cells y.cells 176 (0, 0)) → H b11 = some (.cells z.cells 226 (0, 0)) →
        f66_L2 (some ⟨pb, 0, none⟩) sp sn sc c0 c1 sp sn sc cp cn cc (page : Int) b10 b11 sp sn sc (sn : Int) (j : Int) H (commitPost H0 g0 cnt lg pb t d0) := by
      intro k2
      induction k2 with
      | zero =>
        intro j y z H hj hI hb10 hb11
        apply f66_L2_of
        refine ⟨fun hd => absurd (of_decide_eq_true hd) (by omega), fun _ => ⟨z.m0, z.m1, Cells.of hb11 rfl, _, eql224 _ _, fun _ => ?_, fun _ => ?_⟩⟩
        · obtain ⟨ys, h1, h2⟩ := hI.chg
          exact next cp cn cc H g d ⟨hI.ev, hI.prim, fun j hj => hI.bnd j (by omega), hI.un, hI.bk, hI.sets, ys, h1, by omega⟩
        · refine ⟨pb, 0, rfl, _, Cells.of hI.prim.blk rfl, y.v0, y.v1, Cells.of hb10 rfl, _, _, hb10, by simp [Ver.cells], fun H6 hw6 => ?_⟩
          have e6 : Ev (fun _ => False) H g H6 g := Ev.wr hI.ev.ok hw6 fun tg h => by rw [hg10] at h; cases h
          have hb10_6 : H6 b10 = some (.cells (Ver.cells ⟨d.lsn, y.v0, y.v1⟩) 176 (0, 0)) := hw6.same
          have hb11_6 := hw6.keep hb11 (Ne.symm hne)
          refine ⟨_, _, hb11_6, by simp [Chg.cells], fun H7 hw7 => ?_⟩
          have e7 : Ev (fun _ => False) H6 g H7 g := Ev.wr e6.ok hw7 fun tg h => by rw [hg11] at h; cases h
          have hb11_7 : H7 b11 = some (.cells (Chg.cells { z with x0 := y.v0, x1 := y.v1 }) 226 (0, 0)) := hw7.same
          have hb10_7 := hw7.keep hb10_6 hne
          have hI7 := (hI.quiet e6).quiet e7
          have hcs : Cells H7 pb (0 + 3 + ((page : Nat) : Int).toNat * 1) [.slice (d.sp page) (d.sn page) (d.sc page)] := Cells.of hI7.prim.blk (d.get_since (by omega))
          refine ⟨pb, 0, rfl, by omega, by omega, d.sp page, d.sn page, d.sc page, hcs, _, _, _, Cells.of hb10_7 rfl, pb, 0, rfl, fun b101 H8 ha8 => ?_⟩
          obtain ⟨vs, hv1, hv2, hv3⟩ := hI7.prim.since page (by omega)
          have hbnd := hI7.bnd page (Nat.le_refl _) (by omega)
          refine app_ver (S := fun tg => tg = (10 + page, t)) ⟨d.lsn, y.v0, y.v1⟩ ha8 hI7.ev.ok hv1 rfl (by omega) fun p9 c9 H9 g9 hpn9 e9 ho9 hkeep9 => ⟨p9, d.sn page + 1, c9, rfl, by omega, by omega, ?_⟩
          have hn9 : ¬ (fun tg : Nat × Int => tg = (10 + page, t)) (9, t) := by intro h; have := congrArg Prod.fst h; simp at this; omega
          refine ⟨_, _, e9.get hI7.prim.tag hn9 hI7.prim.blk, by simp [PD.cells]; omega, fun H10 hw10 => ?_⟩
          obtain ⟨e10, hp10⟩ := hI7.prim.grow hI7.ev.ok (i := page) (by omega) e9 ho9 (by omega) (cnt' := cnt + 1) (by omega) (Nat.le_refl _) hw10
          have hb11_9 : H9 b11 = some (.cells (Chg.cells { z with x0 := y.v0, x1 := y.v1 }) 226 (0, 0)) := by
            refine hkeep9 b11 _ hb11_7 fun a ha hab => ?_
            have := hv1.tag a ha
            rw [hab, hg11] at this; cases this
          have hne11 : b11 ≠ pb := by
            intro h; rw [h, hI.prim.tag] at hg11; cases hg11
          have hb11_10 := hw10.keep hb11_9 hne11
          refine ⟨_, _, _, _, _, _, Cells.of hb11_10 rfl, fun b109 H11 ha11 => ?_⟩
          obtain ⟨ys, hc1, hc2⟩ := hI7.chg
          have hc10 : OwnT H10 g9 (18, t) 226 6 Chg.cs cp cn cc ys := by
            have h9 := hc1.ev e9 (by intro h; have := congrArg Prod.fst h; simp at this; omega)
            refine ⟨h9.own.keep fun a ha => hw10.other ?_, h9.tag⟩
            intro hab
            have := h9.tag a ha
            rw [hab, e9.tag _ _ hI7.prim.tag] at this; cases this
          refine app_chg (S := fun tg => tg = (18, t)) { z with x0 := y.v0, x1 := y.v1 } ha11 e10.ok hc10 rfl (by omega) fun p12 c12 H12 g12 hpn12 e12 ho12 _ => ⟨p12, cn + 1, c12, rfl, ?_⟩
          refine next p12 (cn + 1) c12 H12 g12 (d.setSince page p9 (d.sn page + 1) c9) ⟨(hI7.ev.trans e10).trans (e12.mono fun tg h => by subst h; exact ⟨rfl, by simp, Nat.le_refl 18⟩), ?_, ?_, hI7.un, hI7.bk, (hI7.sets.ev e10 Sp.not0).ev e12 (by intro h; cases h), _, ho12, by omega⟩
          · exact ⟨e12.tag _ _ hp10.tag, e12.get hp10.tag (by intro h; cases h) hp10.blk, hp10.lsn, fun i hi => (let ⟨us, u1, u2⟩ := hp10.since i hi; ⟨us, u1.ev e12 (by intro h; have := congrArg Prod.fst h; simp at this; omega), u2⟩),
              (let ⟨zs, u1, u2, u3⟩ := hp10.unsent; ⟨zs, u1.ev e12 (by intro h; cases h), fun q hq => (u2 q hq).ev e12 (by intro h; cases h), u3⟩),
              (hp10.bk.elim .inl fun ⟨kb, u1, u2⟩ => .inr ⟨kb, u1, by
                obtain ⟨id, par, tl, start, stop, pp, pn, pc, ps, nx, ri, es, ck, xs, k1, k2, k3, k4, k5, k6, k7⟩ := u2.ex
                exact ⟨e12.tag _ _ u2.tag, id, par, tl, start, stop, pp, pn, pc, ps, nx, ri, es, ck, xs, e12.get u2.tag (by intro h; cases h) k1, k2, k3.ev e12 (by intro h; cases h), k4, e12.tag _ _ k5, e12.get k5 (by intro h; cases h) k6, k7⟩⟩)⟩
          · intro j hj hj4
            have := hI7.bnd j (by omega) hj4
            have hjp : j ≠ page := by omega
            simp [PD.setSince, fset, hjp]
            exact this
      | succ k2 ih2 =>
        intro j y z H hj hI hb10 hb11
        apply f66_L2_of
        refine ⟨fun _ => ?_, fun hd => absurd (of_decide_eq_false hd) (by simp; omega)⟩
        obtain ⟨b, o, hp, hc⟩ := hI.sets.sets.cells j (by omega)
        have hkey := hI.sets.keys _ (List.getElem_mem (l := ss) (n := j) (by omega))
        have l3 : ∀ (y : Ver) (z : Chg) (H : Heap), CmI H0 g0 d0 cnt lg pb t sp sn ss page cp cn cc H g d → H b10 = some (.cells y.cells 176 (0, 0)) → H b11 = some (.cells z.cells 226 (0, 0)) →
            f66_L3 (some ⟨pb, 0, none⟩) sp sn sc c0 c1 sp sn sc cp cn cc (page : Int) b10 b11 sp sn sc (sn : Int) (j : Int) H (commitPost H0 g0 cnt lg pb t d0) := by
          intro y z H hI h1 h2
          apply f66_L3_of
          unfold f66_L3_pre
          rw [wrapS (by omega)]
          exact ih2 (j + 1) y z H (by omega) hI h1 h2
        refine ⟨b, o, hp, by omega, by omega, _, _, hc, fun _ => ⟨fun _ => ?_, fun _ => l3 y z H hI hb10 hb11⟩⟩
        have hm0 : 0 ≤ (ss[j].key).tmod 2 := Int.tmod_nonneg _ hkey.1
        have hm1 : (ss[j].key).tmod 2 < 2 := Int.tmod_lt_of_pos _ (by omega)
        obtain ⟨q, hq, hq2⟩ : ∃ q : Nat, (ss[j].key).tmod 2 = (q : Int) ∧ q < 2 := ⟨((ss[j].key).tmod 2).toNat, by omega, by omega⟩
        refine ⟨hm0, hm1, _, _, hb10, by simp [Ver.cells]; omega, fun H6 hw6 => ⟨hm0, hm1, ?_⟩⟩
        have e6 : Ev (fun _ => False) H g H6 g := Ev.wr hI.ev.ok hw6 fun tg h => by rw [hg10] at h; cases h
        have hb11_6 := hw6.keep hb11 (Ne.symm hne)
        refine ⟨_, _, hb11_6, by simp [Chg.cells]; omega, fun H7 hw7 => ?_⟩
        have e7 : Ev (fun _ => False) H6 g H7 g := Ev.wr e6.ok hw7 fun tg h => by rw [hg11] at h; cases h
        have hI7 := (hI.quiet e6).quiet e7
        have hb10_7 := hw7.keep hw6.same hne
        rw [hq] at hb10_7 hw7
        obtain rfl | rfl : q = 0 ∨ q = 1 := by omega
        · exact l3 ⟨y.lsn, ss[j].val, y.v1⟩ { z with m0 := true } H7 hI7 hb10_7 hw7.same
        · exact l3 ⟨y.lsn, y.v0, ss[j].val⟩ { z with m1 := true } H7 hI7 hb10_7 hw7.same
    exact inner sn 0 x _ H5 (by omega) hI5 hb10' hb11

end loop

theorem f66_ht (hcnt : cnt < 65536) (hg : GOk H g) (hp : Prim H g cnt lg pb t d) {sp : Option Addr} {sn sc : Nat} {ss : List SetV} (hs : SetsT H g sp sn ss) (step tick : Int) :
    HT Tryz.prog 66 [.pointer (some ⟨pb, 0, none⟩), .int .u64 step, .int .i64 tick, .slice sp sn sc] H (commitPost H g cnt lg pb t d) := by
  apply f66_of
  refine ⟨pb, 0, rfl, _, Cells.of hp.blk rfl, pb, 0, rfl, _, _, hp.blk, by simp [PD.cells], fun H1 hw1 => ?_⟩
  have hw1' : Wr H pb (.cells (PD.cells { d with lsn := IntKind.wrap .u64 (d.lsn + step) }) 169 (0, 0)) H1 := hw1
  obtain ⟨e1, hp1⟩ := hp.scalar hg hw1' (wrapU_in _) (fun _ _ => ⟨rfl, rfl, rfl⟩) ⟨rfl, rfl, rfl⟩ rfl
  refine ⟨pb, 0, rfl, _, Cells.of hp1.blk rfl, pb, 0, rfl, _, _, hp1.blk, by simp [PD.cells], fun H2 hw2 => ?_⟩
  have hw2' : Wr H1 pb (.cells (PD.cells { d with lsn := IntKind.wrap .u64 (d.lsn + step), time := IntKind.wrap .i64 (d.time + tick) }) 169 (0, 0)) H2 := hw2
  obtain ⟨e2, hp2⟩ := hp1.scalar e1.ok hw2' (wrapU_in _) (fun _ _ => ⟨rfl, rfl, rfl⟩) ⟨rfl, rfl, rfl⟩ rfl
  refine ⟨pb, 0, rfl, _, Cells.of hp2.blk rfl, pb, 0, rfl, _, Cells.of hp2.blk rfl, fun _ => ?_⟩
  have hs2 := (hs.ev e1 Sp.not0).ev e2 Sp.not0
  refine f66_L1_ht hcnt (wrapU_in _) 4 0 none 0 0 H2 g _ (by omega) ⟨e1.trans e2, hp2.bound (by omega), fun j _ hj => ?_, ?_, rfl, hs2, [], OwnT.nil Chg.size, by omega⟩
  · exact (hp.since j hj).elim fun _ h => h.2.2
  · exact hp.unsent.elim fun _ h => h.2.2

end

end Go.Proofs.Qxb6500694aGreatDoor
