/-
  THE WORLD, PART D: copyPage.
-/
import Derived.Test.Qxb6500694aGreatDoorDc
import Derived.Test.Qxb6500694aGreatDoorVi
namespace Go.Proofs.Qxb6500694aGreatDoor
open Go Go.Eng Go.Proofs
set_option maxRecDepth 100000
set_option linter.unusedVariables false
set_option linter.unusedSimpArgs false
set_option linter.unusedSectionVars false

/-- The cells of a taking. -/
def takC (m : Man) (ps : Int) (nx : Nat) (ri : Nat) : Array Value :=
  #[.int .u64 m.id, .int .u64 m.par, .int .u32 m.tl, .int .u64 m.start, .int .u64 m.stop, .slice m.pp m.pn m.pc, .int .u64 ps, .int .i64 (nx : Int), .map (some ri)]

/-- A taking at page nx. -/
structure TakM (H : Heap) (g : Gh) (kb : Nat) (t : Int) (nx k : Nat) : Prop where
  tag : g kb = some (15, t)
  ex : ∃ (m : Man) (ps : Int) (ri : Nat) (es : Array MapEntry) (ck : Nat) (xs : List Int), H kb = some (.cells (takC m ps nx ri) 173 (0, 0)) ∧
    OwnT H g (17, t) 3 1 I64.cs m.pp m.pn m.pc xs ∧ m.pn ≤ k ∧ g ri = some (16, t) ∧ H ri = some (.map es ck) ∧ MapOk .i64 es ck

abbrev TakN (H : Heap) (g : Gh) (kb : Nat) (t : Int) (nx : Nat) : Prop := TakM H g kb t nx nx

section
variable {S : Nat × Int → Prop} {H H' : Heap} {g g' : Gh} {cnt lg pb kb : Nat} {t : Int} {d : PD}

theorem Tak.toN (h : Tak H g kb t) : ∃ nx, nx ≤ 4 ∧ TakN H g kb t nx := by
  obtain ⟨id, par, tl, start, stop, pp, pn, pc, ps, nx, ri, es, ck, xs, h1, h2, h3, h4, h5, h6, h7⟩ := h.ex
  exact ⟨nx, h2, h.tag, ⟨id, par, tl, start, stop, pp, pn, pc⟩, ps, ri, es, ck, xs, h1, h3, h4, h5, h6, h7⟩

theorem TakN.to {nx : Nat} (h : TakN H g kb t nx) (hn : nx ≤ 4) : Tak H g kb t := by
  obtain ⟨m, ps, ri, es, ck, xs, h1, h3, h4, h5, h6, h7⟩ := h.ex
  exact ⟨h.tag, m.id, m.par, m.tl, m.start, m.stop, m.pp, m.pn, m.pc, ps, nx, ri, es, ck, xs, h1, hn, h3, h4, h5, h6, h7⟩

/-- The tags of a taking. -/
def St (t : Int) (tg : Nat × Int) : Prop := tg.2 = t ∧ 15 ≤ tg.1 ∧ tg.1 ≤ 17

theorem St.sp {tg : Nat × Int} (h : St t tg) : Sp t tg := ⟨h.1, by have := h.2.1; omega, by have := h.2.2; omega⟩

theorem Prim.tak (hp : Prim H g cnt lg pb t d) (e : Ev (St t) H g H' g') (hk : d.bk = some ⟨kb, 0, none⟩) (ht : Tak H' g' kb t) : Prim H' g' cnt lg pb t d := by
  have hn : ∀ k, k < 15 → ¬ St t (k, t) := fun k hk h => by have := h.2.1; simp at this; omega
  have h0 : ¬ St t (0, 0) := fun h => by have := h.2.1; simp at this
  refine ⟨e.tag _ _ hp.tag, e.get hp.tag (hn _ (by omega)) hp.blk, hp.lsn, fun i hi => ?_, ?_, .inr ⟨kb, hk, ht⟩⟩
  · obtain ⟨vs, h1, h2⟩ := hp.since i hi
    exact ⟨vs, h1.ev e (hn _ (by omega)), h2⟩
  · obtain ⟨zs, h1, h2, h3⟩ := hp.unsent
    exact ⟨zs, h1.ev e (hn _ (by omega)), fun y hy => (h2 y hy).ev e h0, h3⟩

theorem tmod_abs (a : Int) {n : Int} (hn : 0 < n) : -n < a.tmod n ∧ a.tmod n < n := by
  have h1 := Int.tmod_lt_of_pos a hn
  have h2 := Int.tmod_lt_of_pos (-a) hn
  rw [Int.neg_tmod] at h2
  omega

def copyPost (H : Heap) (g : Gh) (cnt lg pb : Nat) (t : Int) (d : PD) (kb nx : Nat) (v : Value) (H' : Heap) : Prop :=
  v = .tuple #[] ∧ ∃ g', Ev (St t) H g H' g' ∧ Prim H' g' cnt lg pb t d ∧ TakN H' g' kb t (nx + 1)

theorem app_i64 {xs : List Int} {p : Option Addr} {n c b ty : Nat} {H1 : Heap} {tg : Nat × Int} {K : Value → Heap → Prop} (x : Int) (ha : Al H (.cells #[.int .i64 x] 3 (0, 0)) b H1) (hg : GOk H g) (hs : OwnT H g tg 3 1 I64.cs p n c xs) (hS : S tg) (hn : n < 2 ^ 34)
    (h3 : ∀ p' c' H' g', p' ≠ none → Ev S H g H' g' → OwnT H' g' tg 3 1 I64.cs p' (n + 1) c' (xs ++ [x]) → (∀ b' o', H b' = some o' → (∀ a, p = some a → a.block ≠ b') → H' b' = some o') → K (.slice p' (n + 1) c') H') :
    SemOk Tryz.prog (Builtin.append_ #[32, 32] ty #[.slice p n c, .slice (some ⟨b, 0, none⟩) 1 1]) H1 K :=
  appT (enc := I64.cs) (x := x) (inf := Tryz.t3) (zero := .int .i64 0) Tryz.underlying32 (by kernel_rfl) (by kernel_rfl) rfl (by decide) rfl ha rfl (by simp [I64.cs, Value.oneCell']) hg hs hS hn h3

theorem f68_L2_ht {H0 : Heap} {g0 : Gh} (hp0 : Prim H0 g0 cnt lg pb t d) (hk : d.bk = some ⟨kb, 0, none⟩) (e : Ev (St t) H0 g0 H g) {nx : Nat} (hn : nx < 4) (ht : TakM H g kb t nx (nx + 1)) :
    f68_L2 (some ⟨kb, 0, none⟩) H (copyPost H0 g0 cnt lg pb t d kb nx) := by
  obtain ⟨m, ps, ri, es, ck, xs, h1, h3, h4, h5, h6, h7⟩ := ht.ex
  apply f68_L2_of
  refine ⟨kb, 0, rfl, _, Cells.of h1 rfl, kb, 0, rfl, _, _, h1, by simp [takC], fun H1 hw => ?_⟩
  rw [wrapS (by omega)] at hw
  have hw' : Wr H kb (.cells (takC m ps (nx + 1) ri) 173 (0, 0)) H1 := hw
  have hne : kb ≠ ri := by
    intro he; rw [he, h6] at h1; cases h1
  have e1 : Ev (fun tg => tg = (15, t)) H g H1 g := Ev.wr e.ok hw' fun tg htg => by rw [ht.tag] at htg; cases htg; rfl
  have e2 : Ev (St t) H g H1 g := e1.mono fun tg h => by subst h; exact ⟨rfl, Nat.le_refl 15, by simp⟩
  have ht1 : TakN H1 g kb t (nx + 1) := ⟨ht.tag, m, ps, ri, es, ck, xs, hw'.same, h3.ev e1 (by intro h; cases h), by omega, h5, e1.get h5 (by intro h; cases h) h6, h7⟩
  have e3 := e.trans e2
  exact ⟨rfl, g, e3, hp0.tak e3 hk (ht1.to (by omega)), ht1⟩

theorem f68_ht (hcnt : cnt ≤ 65536) (hg : GOk H g) (hp : Prim H g cnt lg pb t d) (hk : d.bk = some ⟨kb, 0, none⟩) {nx : Nat} (hn : nx < 4) (ht : TakN H g kb t nx) (pick : Int) :
    HT Tryz.prog 68 [.pointer (some ⟨pb, 0, none⟩), .int .i64 pick] H (copyPost H g cnt lg pb t d kb nx) := by
  obtain ⟨m, ps, ri, es, ck, xs, h1, h3, h4, h5, h6, h7⟩ := ht.ex
  obtain ⟨vs, ho, hs0, hs1⟩ := hp.since nx hn
  have hlen := ho.own.len
  have hbk : Cells H pb (0 + 8) [.pointer (some ⟨kb, 0, none⟩)] := by
    have := hp.blk
    rw [PD.cells, hk] at this
    exact Cells.of this rfl
  have hnpos : (0 : Int) < (d.sn nx : Int) := by omega
  have hm1 := tmod_abs pick hnpos
  have hwrap : IntKind.wrap .i64 (pick.tmod (d.sn nx : Int) + (d.sn nx : Int)) = pick.tmod (d.sn nx : Int) + (d.sn nx : Int) := wrapI (by omega) (by omega)
  have hx0 : 0 ≤ (pick.tmod (d.sn nx : Int) + (d.sn nx : Int)).tmod (d.sn nx : Int) := Int.tmod_nonneg _ (by omega)
  have hx1 := Int.tmod_lt_of_pos (pick.tmod (d.sn nx : Int) + (d.sn nx : Int)) hnpos
  generalize hxd : (pick.tmod (d.sn nx : Int) + (d.sn nx : Int)).tmod (d.sn nx : Int) = x30 at hx0 hx1
  obtain ⟨b31, o31, hp31, hc31⟩ := ho.own.cells (i := x30.toNat) (by omega)
  have fin : ∀ (bb : Bool) (a b c : Int), f68_L1 (some ⟨kb, 0, none⟩) a b c bb H (copyPost H g cnt lg pb t d kb nx) := by
    intro bb a b c
    apply f68_L1_of
    refine ⟨fun _ => ?_, fun _ => f68_L2_ht hp hk (Ev.refl hg) hn ⟨ht.tag, m, ps, ri, es, ck, xs, h1, h3, by omega, h5, h6, h7⟩⟩
    refine ⟨kb, 0, rfl, _, _, _, Cells.of h1 rfl, kb, 0, rfl, _, Cells.of h1 rfl, fun b58 H1 ha => ?_⟩
    refine app_i64 (S := fun tg => tg = (17, t)) (nx : Int) ha hg h3 rfl (by omega) fun p' c' H2 g2 hpn e2 ho2 hkeep => ⟨p', m.pn + 1, c', rfl, ?_⟩
    have hkb2 : H2 kb = some (.cells (takC m ps nx ri) 173 (0, 0)) := e2.get ht.tag (by intro h; cases h) h1
    have hri2 : H2 ri = some (.map es ck) := e2.get h5 (by intro h; cases h) h6
    refine ⟨kb, 0, rfl, _, _, hkb2, by simp [takC], fun H3 hw3 => ?_⟩
    have hw3' : Wr H2 kb (.cells (takC { m with pp := p', pn := m.pn + 1, pc := c' } ps nx ri) 173 (0, 0)) H3 := hw3
    have htag2 : g2 kb = some (15, t) := e2.tag _ _ ht.tag
    have hrt2 : g2 ri = some (16, t) := e2.tag _ _ h5
    have e3 : Ev (fun tg => tg = (15, t)) H2 g2 H3 g2 := Ev.wr e2.ok hw3' fun tg htg => by rw [htag2] at htg; cases htg; rfl
    have hri3 : H3 ri = some (.map es ck) := e3.get hrt2 (by intro h; cases h) hri2
    have ho3 := ho2.ev e3 (by intro h; cases h)
    refine ⟨kb, 0, rfl, _, Cells.of hw3'.same rfl, kb, 0, rfl, _, Cells.of hw3'.same rfl, ?_⟩
    refine (f98_ht a b c).mono fun v H4 ⟨hs4, p5, n5, c5, hv⟩ => ⟨p5, n5, c5, hv, hs4.cells (Cells.of hw3'.same rfl), hs4.cells (Cells.of hw3'.same rfl), ?_⟩
    refine semOk_mapUpdate Tryz.underlying119 Tryz.underlying3 (hs4 _ _ hri3) h7.1 fun H5 hw5 => ?_
    obtain ⟨es', ck', he', hok', _⟩ := mput_ok (n := (nx : Int)) (v := .slice p5 n5 c5) h7
    rw [he'] at hw5
    have e4 : Ev (fun tg => tg = (16, t)) H3 g2 H4 g2 := Ev.sub e3.ok hs4
    have e5 : Ev (fun tg => tg = (16, t)) H4 g2 H5 g2 := Ev.wr e4.ok hw5 fun tg htg => by rw [hrt2] at htg; cases htg; rfl
    have e45 := e4.trans e5
    have eall : Ev (St t) H g H5 g2 := by
      refine ((e2.mono ?_).trans (e3.mono ?_)).trans (e45.mono ?_)
      · intro tg h; subst h; exact ⟨rfl, by simp, Nat.le_refl 17⟩
      · intro tg h; subst h; exact ⟨rfl, Nat.le_refl 15, by simp⟩
      · intro tg h; subst h; exact ⟨rfl, by simp, by simp⟩
    exact f68_L2_ht hp hk eall hn ⟨htag2, { m with pp := p', pn := m.pn + 1, pc := c' }, ps, ri, es', ck', _, e45.get htag2 (by intro h; cases h) hw3'.same, ho3.ev e45 (by intro h; cases h), by simp only; omega, hrt2, hw5.same, hok'⟩
  have hb1 : BinIs Tryz.prog .rem 2 (.tmp 24) (.tmp 25) (.int .i64 pick) (.int .i64 (d.sn nx : Int)) (.int .i64 (pick.tmod (d.sn nx : Int))) := binIs_rem (by omega)
  have hb2 : BinIs Tryz.prog .rem 2 (.tmp 28) (.tmp 29) (.int .i64 (IntKind.wrap .i64 (pick.tmod (d.sn nx : Int) + (d.sn nx : Int)))) (.int .i64 (d.sn nx : Int)) (.int .i64 x30) := by
    rw [hwrap, ← hxd]; exact binIs_rem (by omega)
  have hcs : Cells H pb (0 + 3 + ((nx : Nat) : Int).toNat * 1) [.slice (d.sp nx) (d.sn nx) (d.sc nx)] := Cells.of hp.blk (d.get_since hn)
  exact f68_of _ _ ⟨pb, 0, rfl, _, hbk, kb, 0, rfl, (nx : Int), Cells.of h1 rfl, pb, 0, rfl, by omega, by omega, d.sp nx, d.sn nx, d.sc nx, hcs, _, hb1, _, hb2, b31, o31, hp31, hx0, hx1, _, _, _, hc31, fun _ => ⟨kb, 0, rfl, _, Cells.of h1 rfl, fun _ => fin _ _ _ _, fun _ => ⟨kb, 0, rfl, _, Cells.of h1 rfl, fin _ _ _ _⟩⟩⟩

end

end Go.Proofs.Qxb6500694aGreatDoor
