/-
  THE WORLD, PART F: the whole world as it lies.
-/
import Derived.Test.Qxb6500694aGreatDoorDe
namespace Go.Proofs.Qxb6500694aGreatDoor
open Go Go.Eng Go.Proofs
set_option maxRecDepth 100000
set_option linter.unusedVariables false
set_option linter.unusedSimpArgs false
set_option linter.unusedSectionVars false

/-- How long a timeline's own log is. -/
def logLen (esL : Array MapEntry) (t : Int) : Nat := match iget esL.toList t with
  | some (.slice _ n _) => n
  | _ => 0

/-- The fixed blocks of the world. -/
structure Fix where
  bs : Nat
  bw : Nat
  ba : Nat
  dk : Addr
  rp : Nat
  rm : Nat
  rg : Nat
  rl : Nat
  rh : Nat

structure Tags (g : Gh) (F : Fix) : Prop where
  bs : g F.bs = some (1, 0)
  bw : g F.bw = some (2, 0)
  ba : g F.ba = some (3, 0)
  rm : g F.rm = some (4, 0)
  rg : g F.rg = some (5, 0)
  rl : g F.rl = some (6, 0)
  rh : g F.rh = some (7, 0)
  rp : g F.rp = some (8, 0)

/-- A history in order. -/
def hisOk (cnt : Nat) (e : MapEntry) : Prop := ∃ m : Hist, e.val = m.val ∧ m.tl = keyN e.key ∧ inU m.br ∧ 0 ≤ m.par ∧ m.par < m.tl ∧ m.tl ≤ cnt + 1 ∧ (m.par = 0 → m.br = 0)

def logOk (H : Heap) (g : Gh) (esP : Array MapEntry) (e : MapEntry) : Prop :=
  ∃ p n c xs, e.val = .slice p n c ∧ OwnT H g (20, keyN e.key) 77 4 Com.cs p n c xs ∧ (∀ x ∈ xs, ComT H g x) ∧ (∃ e' ∈ esP.toList, keyN e'.key = keyN e.key)

def primOk (H : Heap) (g : Gh) (cnt : Nat) (esL esH : Array MapEntry) (e : MapEntry) : Prop :=
  ∃ pb d, e.val = .pointer (some ⟨pb, 0, none⟩) ∧ Prim H g cnt (logLen esL (keyN e.key)) pb (keyN e.key) d ∧ (∃ e' ∈ esH.toList, keyN e'.key = keyN e.key)

/-- The world. -/
structure Wd (H : Heap) (g : Gh) (cnt : Nat) (F : Fix) (esM esL esH esP : Array MapEntry) : Prop where
  gok : GOk H g
  tags : Tags g F
  stage : H F.bs = some (.cells #[.pointer (some ⟨F.bw, 0, none⟩), .pointer (some F.dk)] 50 (0, 0))
  world : ∃ nb, H F.bw = some (.cells #[.pointer (some ⟨F.ba, 0, none⟩), .map (some F.rp), .int .u64 nb] 47 (0, 0))
  arch : H F.ba = some (.cells #[.map (some F.rm), .map (some F.rg), .map (some F.rl), .map (some F.rh)] 118 (0, 0))
  mM : ∃ c, H F.rm = some (.map esM c) ∧ MapOk .u64 esM c
  mG : ∃ es c, H F.rg = some (.map es c) ∧ MapOk .u64 es c ∧ ∀ e ∈ es.toList, ∃ x, e.val = .map x
  mL : ∃ c, H F.rl = some (.map esL c) ∧ MapOk .u32 esL c
  mH : ∃ c, H F.rh = some (.map esH c) ∧ MapOk .u32 esH c
  mP : ∃ c, H F.rp = some (.map esP c) ∧ MapOk .u32 esP c
  man : ∀ e ∈ esM.toList, ∃ m : Man, e.val = m.val ∧ m.id = keyN e.key
  his : ∀ e ∈ esH.toList, hisOk cnt e
  log : ∀ e ∈ esL.toList, logOk H g esP e
  prim : ∀ e ∈ esP.toList, primOk H g cnt esL esH e
  sizeM : esM.size ≤ cnt
  sizeH : esH.size ≤ cnt + 1

section
variable {S : Nat × Int → Prop} {H H' : Heap} {g g' : Gh} {cnt : Nat} {F : Fix} {esM esL esH esP : Array MapEntry}

theorem Tags.ev (h : Tags g F) (e : Ev S H g H' g') : Tags g' F :=
  ⟨e.tag _ _ h.bs, e.tag _ _ h.bw, e.tag _ _ h.ba, e.tag _ _ h.rm, e.tag _ _ h.rg, e.tag _ _ h.rl, e.tag _ _ h.rh, e.tag _ _ h.rp⟩

theorem Wd.logN (h : Wd H g cnt F esM esL esH esP) {e : MapEntry} (he : e ∈ esL.toList) : ∃ p n c xs, e.val = .slice p n c ∧ OwnT H g (20, keyN e.key) 77 4 Com.cs p n c xs ∧ (∀ x ∈ xs, ComT H g x) ∧ n ≤ cnt := by
  obtain ⟨p, n, c, xs, h1, h2, h3, e', he', hk⟩ := h.log e he
  obtain ⟨pb, d, _, hp, _⟩ := h.prim e' he'
  obtain ⟨zs, _, _, hu⟩ := hp.unsent
  obtain ⟨cL, _, hokL⟩ := h.mL
  have hg := iget_of_mem hokL.2.1 he
  have hl : logLen esL (keyN e'.key) = n := by
    unfold logLen
    rw [hk, hg, h1]
  rw [hl] at hu
  exact ⟨p, n, c, xs, h1, h2, h3, by omega⟩

/-- The archive of the world, to be read. -/
theorem Wd.toArch (h : Wd H g cnt F esM esL esH esP) (hc : cnt ≤ 65536) : Arch H F.ba esM esL esH := by
  obtain ⟨cM, h1, k1⟩ := h.mM
  obtain ⟨cL, h2, k2⟩ := h.mL
  obtain ⟨cH, h3, k3⟩ := h.mH
  refine ⟨⟨F.rm, F.rl, F.rh, cM, cL, cH, _, h.arch, h1, h2, h3, k1, k2, k3⟩, h.man, fun e he => ?_, fun e he => ?_, ?_, ?_⟩
  · obtain ⟨p, n, c, xs, a1, a2, a3, a4⟩ := h.logN he
    exact ⟨p, n, c, xs, a1, ReadL.of a2.own, fun x hx => (a3 x hx).ok, by omega⟩
  · obtain ⟨m, a1, a2, a3, a4, a5, a6, a7⟩ := h.his e he
    exact ⟨m, a1, a2, a3, a4, a5, by omega, a7⟩
  · have := h.sizeM; omega
  · have := h.sizeH; omega

/-- Only a primary's own blocks have turned (and the count of backups). -/
theorem Wd.turn (h : Wd H g cnt F esM esL esH esP) {e0 : MapEntry} (he0 : e0 ∈ esP.toList) (e : Ev S H g H' g') (hS : ∀ tg, S tg → Sp (keyN e0.key) tg ∨ tg = (2, 0)) {cnt' : Nat} (hc : cnt ≤ cnt')
    (hw : ∃ nb, H' F.bw = some (.cells #[.pointer (some ⟨F.ba, 0, none⟩), .map (some F.rp), .int .u64 nb] 47 (0, 0))) (hp : primOk H' g' cnt' esL esH e0) : Wd H' g' cnt' F esM esL esH esP := by
  have hn : ∀ k : Nat, k ≠ 2 → (k < 9 ∨ 18 < k) → ∀ t, ¬ S (k, t) := by
    intro k h1 h2 t hs
    rcases hS _ hs with h3 | h3
    · have a := h3.2.1; have b := h3.2.2; simp only at a b; omega
    · exact h1 (congrArg Prod.fst h3)
  obtain ⟨cM, h1, k1⟩ := h.mM
  obtain ⟨esG, cG, h5, k5⟩ := h.mG
  obtain ⟨cL, h2, k2⟩ := h.mL
  obtain ⟨cH, h3, k3⟩ := h.mH
  obtain ⟨cP, h4, k4⟩ := h.mP
  have T := h.tags
  refine ⟨e.ok, T.ev e, e.get T.bs (hn _ (by decide) (by decide) _) h.stage, hw, e.get T.ba (hn _ (by decide) (by decide) _) h.arch,
    ⟨cM, e.get T.rm (hn _ (by decide) (by decide) _) h1, k1⟩, ⟨esG, cG, e.get T.rg (hn _ (by decide) (by decide) _) h5, k5⟩, ⟨cL, e.get T.rl (hn _ (by decide) (by decide) _) h2, k2⟩,
    ⟨cH, e.get T.rh (hn _ (by decide) (by decide) _) h3, k3⟩, ⟨cP, e.get T.rp (hn _ (by decide) (by decide) _) h4, k4⟩, h.man, fun x hx => ?_, fun x hx => ?_, fun x hx => ?_, Nat.le_trans h.sizeM hc, ?_⟩
  · obtain ⟨m, a1, a2, a3, a4, a5, a6, a7⟩ := h.his x hx
    exact ⟨m, a1, a2, a3, a4, a5, by omega, a7⟩
  · obtain ⟨p, n, c, xs, a1, a2, a3, a4⟩ := h.log x hx
    exact ⟨p, n, c, xs, a1, a2.ev e (hn _ (by decide) (by decide) _), fun y hy => (a3 y hy).ev e (hn _ (by decide) (by decide) _), a4⟩
  · by_cases hx0 : x = e0
    · subst hx0; exact hp
    · obtain ⟨pb, d, a1, a2, a3⟩ := h.prim x hx
      have hkne : keyN x.key ≠ keyN e0.key := fun hk => hx0 (inj_of_nodup k4.2.1 x hx e0 he0 hk)
      refine ⟨pb, d, a1, (a2.ev e (fun k hs => ?_) (hn _ (by decide) (by decide) _)).bound hc, a3⟩
      rcases hS _ hs with h3 | h3
      · exact hkne h3.1
      · have hk2 := congrArg Prod.fst h3
        have hk0 := congrArg Prod.snd h3
        simp only at hk0
        obtain ⟨e', he', hk'⟩ := a3
        obtain ⟨m, b1, b2, b3, b4, b5, b6, b7⟩ := h.his e' he'
        omega
  · have := h.sizeH; omega

end

end Go.Proofs.Qxb6500694aGreatDoor
