/-
  THE WORLD, PART K: EndBackup.
-/
import Derived.Test.Qxb6500694aGreatDoorDj
namespace Go.Proofs.Qxb6500694aGreatDoor
open Go Go.Eng Go.Proofs
set_option maxRecDepth 100000
set_option linter.unusedVariables false
set_option linter.unusedSimpArgs false
set_option linter.unusedSectionVars false

/-- What the entry held. -/
theorem mid_old {k : IntKind} {es : Array MapEntry} {c : Nat} {n : Int} {zero : Value} : (midE k es c n zero).2.2.2 = zero ∨ ∃ e ∈ es.toList, (midE k es c n zero).2.2.2 = e.val := by
  unfold midE
  cases hf : ifind n es.toList 0 with
  | none => exact .inl rfl
  | some iv =>
    obtain ⟨i, v⟩ := iv
    obtain ⟨e, _, he, _, hve⟩ := ifind_some hf
    exact .inr ⟨e, List.mem_of_getElem? he, hve.symm⟩

/-- No backup runs any more. -/
theorem Prim.ended {H H' : Heap} {g g' : Gh} {cnt lg pb : Nat} {t : Int} {d d' : PD} {S : Nat × Int → Prop} (hp : Prim H g cnt lg pb t d) (e : Ev S H g H' g') (hS : ∀ tg, S tg → tg = (9, t) ∨ tg = (4, 0) ∨ tg = (5, 0)) (ht0 : t ≠ 0) (hb : H' pb = some (.cells d'.cells 169 (0, 0))) (hl : inU d'.lsn)
    (hs : ∀ i, i < 4 → d'.sp i = d.sp i ∧ d'.sn i = d.sn i ∧ d'.sc i = d.sc i) (hu : d'.up = d.up ∧ d'.un = d.un ∧ d'.uc = d.uc) (hk : d'.bk = none) : Prim H' g' cnt lg pb t d' := by
  have hn : ∀ k, k ≠ 9 → ¬ S (k, t) := by
    intro k hk hs
    rcases hS _ hs with h | h | h
    · exact hk (congrArg Prod.fst h)
    · exact ht0 (congrArg Prod.snd h)
    · exact ht0 (congrArg Prod.snd h)
  have h0 : ¬ S (0, 0) := by
    intro hs
    rcases hS _ hs with h | h | h
    · have := congrArg Prod.fst h; simp at this
    · have := congrArg Prod.fst h; simp at this
    · have := congrArg Prod.fst h; simp at this
  refine ⟨e.tag _ _ hp.tag, hb, hl, fun i hi => ?_, ?_, .inl hk⟩
  · obtain ⟨vs, h1, h2⟩ := hp.since i hi
    obtain ⟨a1, a2, a3⟩ := hs i hi
    rw [a1, a2, a3]
    exact ⟨vs, h1.ev e (hn _ (by omega)), h2⟩
  · obtain ⟨zs, h1, h2, h3⟩ := hp.unsent
    obtain ⟨a1, a2, a3⟩ := hu
    rw [a1, a2, a3]
    exact ⟨zs, h1.ev e (hn _ (by omega)), fun y hy => (h2 y hy).ev e h0, h3⟩

section
variable {H : Heap} {g : Gh} {cnt : Nat} {F : Fix} {esM esL esH esP : Array MapEntry}
variable {e0 : MapEntry} {pb : Nat} {d : PD}


theorem f38_L7_ht (hW : Wd H g cnt F esM esL esH esP) (hcnt : cnt < 65536) (he0 : e0 ∈ esP.toList) (hv : e0.val = .pointer (some ⟨pb, 0, none⟩)) (hp : Prim H g cnt (logLen esL (keyN e0.key)) pb (keyN e0.key) d) {kb nx : Nat} (hk : d.bk = some ⟨kb, 0, none⟩) (ht : TakN H g kb (keyN e0.key) nx) {H0 : Heap} {g0 : Gh} (hE : Ev (fun tg => tg ≠ (0, 0)) H0 g0 H g) :
    f38_L7 (some ⟨F.bw, 0, none⟩) (some ⟨pb, 0, none⟩) H (doPost H0 g0 cnt F esH esP) := by
  have ht0 : keyN e0.key ≠ 0 := by have := hW.keyPos he0; omega
  obtain ⟨m, ps, ri, es, ck, xs, h1, h3, h4, h5, h6, h7⟩ := ht.ex
  have c8 := bkCells hW hcnt he0 hv hp hk
  obtain ⟨nb, hbw⟩ := hW.world
  obtain ⟨cM, hrm, okM⟩ := hW.mM
  obtain ⟨esG, cG, hrg, okG, valG⟩ := hW.mG
  have T := hW.tags
  apply f38_L7_of
  refine ⟨pb, 0, rfl, _, c8, kb, 0, rfl, m.id, m.par, m.tl, m.start, m.stop, m.pp, m.pn, m.pc, Cells.of h1 rfl, fun _ => ⟨pb, 0, rfl, _, Cells.of hp.blk rfl, F.bw, 0, rfl, _, Cells.of hbw rfl, F.ba, 0, rfl, _, Cells.of hW.arch rfl, F.bw, 0, rfl, _, Cells.of hbw rfl, F.ba, 0, rfl, _, Cells.of hW.arch rfl, pb, 0, rfl, _, c8, kb, 0, rfl, _, Cells.of h1 rfl, ?_⟩⟩
  refine semOk_mapEntry (inf := Tryz.t97) (zero := Man.zero.val) Tryz.underlying113 Tryz.underlying26 (by kernel_rfl) (by kernel_rfl) hrm okM.1 fun H1 hw1 => ?_
  obtain ⟨mo, hmo⟩ : ∃ mo : Man, (midE .u64 esM cM m.id Man.zero.val).2.2.2 = mo.val := by
    rcases mid_old (k := .u64) (es := esM) (c := cM) (n := m.id) (zero := Man.zero.val) with h | ⟨e, he, h⟩
    · exact ⟨_, h⟩
    · obtain ⟨mo, hmo, _⟩ := hW.man e he
      exact ⟨mo, h.trans hmo⟩
  obtain ⟨i1, hf1, hm1⟩ := mid_store (zero := Man.zero.val) (n := m.id) (v := Man.val { m with stop := d.lsn }) okM
  have e1 : Ev (fun tg => tg = (4, 0)) H g H1 g := Ev.wr hW.gok hw1 fun tg htg => by rw [T.rm] at htg; cases htg; rfl
  refine ⟨mo.id, mo.par, mo.tl, mo.start, mo.stop, mo.pp, mo.pn, mo.pc, _, by rw [hmo]; rfl, Cells.of (e1.get T.bw (by intro h; cases h) hbw) rfl, ?_⟩
  refine semOk_entryStore hw1.same hf1 fun H2 hw2 => ?_
  have hm1' : Obj.map ((midE .u64 esM cM m.id Man.zero.val).1.modify i1 fun e => { e with val := .agg #[.int .u64 m.id, .int .u64 m.par, .int .u32 m.tl, .int .u64 m.start, .int .u64 d.lsn, .slice m.pp m.pn m.pc] }) (midE .u64 esM cM m.id Man.zero.val).2.1 = mput .u64 esM cM m.id (Man.val { m with stop := d.lsn }) := hm1
  rw [hm1'] at hw2
  obtain ⟨esM', cM', hput, okM', getM', memM', _, szM'⟩ := mput_ok (n := m.id) (v := Man.val { m with stop := d.lsn }) okM
  rw [hput] at hw2
  have e2 : Ev (fun tg => tg = (4, 0)) H1 g H2 g := Ev.wr e1.ok hw2 fun tg htg => by rw [T.rm] at htg; cases htg; rfl
  have e12 := e1.trans e2
  have hrg2 := e12.get T.rg (by intro h; cases h) hrg
  refine semOk_mapEntry (inf := Tryz.t119) (zero := .map none) Tryz.underlying114 Tryz.underlying26 (by kernel_rfl) (by kernel_rfl) hrg2 okG.1 fun H3 hw3 => ?_
  obtain ⟨go, hgo⟩ : ∃ go, (midE .u64 esG cG m.id (.map none)).2.2.2 = .map go := by
    rcases mid_old (k := .u64) (es := esG) (c := cG) (n := m.id) (zero := .map none) with h | ⟨e, he, h⟩
    · exact ⟨_, h⟩
    · obtain ⟨x, hx⟩ := valG e he
      exact ⟨x, h.trans hx⟩
  obtain ⟨i2, hf2, hm2⟩ := mid_store (zero := .map none) (n := m.id) (v := .map (some ri)) okG
  have e3 : Ev (fun tg => tg = (5, 0)) H2 g H3 g := Ev.wr e2.ok hw3 fun tg htg => by rw [T.rg] at htg; cases htg; rfl
  refine ⟨go, _, by rw [hgo], ?_⟩
  refine semOk_entryStore hw3.same hf2 fun H4 hw4 => ?_
  rw [hm2] at hw4
  obtain ⟨esG', cG', hputG, okG', _, memG', _, _⟩ := mput_ok (n := m.id) (v := .map (some ri)) okG
  rw [hputG] at hw4
  have e4 : Ev (fun tg => tg = (5, 0)) H3 g H4 g := Ev.wr e3.ok hw4 fun tg htg => by rw [T.rg] at htg; cases htg; rfl
  have e34 := e3.trans e4
  have e14 : Ev (fun tg => tg = (9, keyN e0.key) ∨ tg = (4, 0) ∨ tg = (5, 0)) H g H4 g := (e12.mono fun _ h => .inr (.inl h)).trans (e34.mono fun _ h => .inr (.inr h))
  have hpb4 := e34.get hp.tag (by intro h; cases h) (e12.get hp.tag (by intro h; cases h) hp.blk)
  refine ⟨pb, 0, rfl, _, _, hpb4, by simp [PD.cells], fun H5 hw5 => ?_⟩
  have hpb5 : H5 pb = some (.cells (PD.cells { d with lid := m.id }) 169 (0, 0)) := hw5.same
  refine ⟨pb, 0, rfl, _, _, hpb5, by simp [PD.cells], fun H6 hw6 => ?_⟩
  have hpb6 : H6 pb = some (.cells (PD.cells { d with lid := m.id, lpos := m.start }) 169 (0, 0)) := hw6.same
  refine ⟨pb, 0, rfl, _, _, hpb6, by simp [PD.cells], fun H7 hw7 => ?_⟩
  have hpb7 : H7 pb = some (.cells (PD.cells { d with lid := m.id, lpos := m.start, bk := none }) 169 (0, 0)) := hw7.same
  have w9 : ∀ {A B : Heap} {o : Obj}, GOk A g → Wr A pb o B → Ev (fun tg => tg = (9, keyN e0.key)) A g B g := fun ha hw => Ev.wr ha hw fun tg htg => by rw [hp.tag] at htg; cases htg; rfl
  have e5 := w9 e4.ok hw5
  have e6 := w9 e5.ok hw6
  have e7 := w9 e6.ok hw7
  have e57 := (e5.trans e6).trans e7
  have e : Ev (fun tg => tg = (9, keyN e0.key) ∨ tg = (4, 0) ∨ tg = (5, 0)) H g H7 g := e14.trans (e57.mono fun _ h => .inl h)
  have hp7 := hp.ended e (fun _ h => h) ht0 hpb7 hp.lsn (fun _ _ => ⟨rfl, rfl, rfl⟩) ⟨rfl, rfl, rfl⟩ rfl
  have n0 : ¬ (((0, 0) : Nat × Int) = (9, keyN e0.key) ∨ ((0, 0) : Nat × Int) = (4, 0) ∨ ((0, 0) : Nat × Int) = (5, 0)) := by
    intro h; rcases h with h | h | h <;> (have := congrArg Prod.fst h; simp at this)
  obtain ⟨cL, hrl, okL⟩ := hW.mL
  obtain ⟨cP, hrp, okP⟩ := hW.mP
  have hkey : ∃ e' ∈ esH.toList, keyN e'.key = keyN e0.key := by
    obtain ⟨_, _, _, _, h3⟩ := hW.prim e0 he0
    exact h3
  refine ⟨rfl, g, esM', esL, hW.re e (by simp) (by simp) (by simp) (by simp) (by omega) ⟨nb, e.get T.bw (by simp) hbw⟩ ⟨cM', ?_, okM'⟩ ⟨esG', cG', ?_, okG', fun x hx => ?_⟩ ⟨cL, e.get T.rl (by simp) hrl, okL⟩ (fun x hx => ?_) (by have := hW.sizeM; omega) (fun x hx => ?_) (fun x hx => ?_), hE.trans (e.mono fun tg h h0 => n0 (h0 ▸ h))⟩
  · exact e57.get T.rm (by intro h; cases h) (e34.get T.rm (by intro h; cases h) hw2.same)
  · exact e57.get T.rg (by intro h; cases h) hw4.same
  · rcases memG' x hx with ⟨_, h⟩ | h
    · exact ⟨_, h⟩
    · exact valG x h
  · rcases memM' x hx with ⟨hkx, h⟩ | h
    · exact ⟨_, h, hkx.symm⟩
    · exact hW.man x h
  · refine (hW.log x hx).ev e n0 ?_
    intro h; rcases h with h | h | h <;> (have := congrArg Prod.fst h; simp at this)
  · by_cases hx0 : x = e0
    · subst hx0
      exact ⟨pb, _, hv, hp7.bound (by omega), hkey⟩
    · have hkne : keyN x.key ≠ keyN e0.key := fun hk => hx0 (inj_of_nodup okP.2.1 x hx e0 he0 hk)
      have hpos := hW.keyPos hx
      refine (hW.prim x hx).ev e n0 (fun k hs => ?_) (by omega) rfl
      rcases hs with h | h | h
      · exact hkne (congrArg Prod.snd h)
      · have := congrArg Prod.snd h; simp at this; omega
      · have := congrArg Prod.snd h; simp at this; omega

end

end Go.Proofs.Qxb6500694aGreatDoor
