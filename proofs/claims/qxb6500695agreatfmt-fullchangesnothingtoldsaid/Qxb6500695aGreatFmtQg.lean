/-
  RENAME IS ATOMIC, THE LAW.
-/
import Derived.Test.Qxb6500695aGreatFmtQf
import Derived.Test.Qxb6500695aGreatFmtPi
namespace Go.Proofs.Qxb6500695aGreatFmt
open Go Go.Eng Go.Proofs
set_option maxRecDepth 100000
set_option linter.unusedVariables false
set_option linter.unusedSimpArgs false
set_option linter.unusedSectionVars false

/-- What holds between the steps. -/
structure F4 (E : Nat → Value) (p : Option Addr) (n : Nat) (ops : List OpV) (rb sb4 : Nat) (H : Heap) (g : Gh) (bd M : Nat) (nd : Nat → NdV) (fs : Nat → List Dr) : Prop where
  ok : GOk H g
  gl : Gl H g E
  scr : Scr H g p n ops
  rk : RkR H g rb bd nd
  ri : RkI M nd
  sd : SdR H g sb4 fs
  nm : ∀ k, k < 3 → NmI (nd k).s

theorem binIs_str_neq {P : Program} {t : TypeId} {x y : Operand} {a b : ByteArray} : BinIs P .neq t x y (.string a) (.string b) (.bool (!decide (a = b))) := by
  intro w
  have hd : (a.toList == b.toList) = decide (a = b) := by
    rw [ByteArray.toList_eq, ByteArray.toList_eq]
    by_cases h : a = b
    · subst h; simp
    · have : ¬ a.data.toList = b.data.toList := fun hc => h (bl_inj hc)
      simp [h]
      simpa using this
  simp [eqGuard, binOp, Op.stringOp, hd, bne]

section
variable {S : Nat × Int → Prop} {H H' H0 : Heap} {g g' g0 : Gh} {p : Option Addr} {n c : Nat} {ops : List OpV} {E : Nat → Value} {rb sb4 bd M : Nat} {nd : Nat → NdV} {fs : Nat → List Dr}

abbrev Ro : Nat × Int → Prop := fun tg => tg ≠ (0, 0)

theorem F4.off (h : F4 E p n ops rb sb4 H g bd M nd fs) (ev : Ev S H g H' g') (hS : OffN S) (h45 : ¬ S (45, 0)) (h46 : ∀ z, ¬ S (46, z)) : F4 E p n ops rb sb4 H' g' bd M nd fs :=
  have h0 : ¬ S (0, 0) := fun hc => hS _ hc (.inl rfl)
  ⟨ev.ok, h.gl.ev ev h0, h.scr.ev ev h0, h.rk.off ev hS, h.ri, h.sd.ev ev h0 h45 h46, h.nm⟩

theorem F4.off42 (h : F4 E p n ops rb sb4 H g bd M nd fs) (ev : Ev (fun tg => tg = (42, 0)) H g H' g') : F4 E p n ops rb sb4 H' g' bd M nd fs :=
  h.off ev off42N (fun hc => by cases hc) (fun z hc => by cases hc)

theorem off45N : OffN (fun tg => tg = ((45 : Nat), (0 : Int))) := fun tg h hc => by rw [h] at hc; simp at hc
theorem off46N {z : Int} : OffN (fun tg => tg = ((46 : Nat), z)) := fun tg h hc => by rw [h] at hc; simp at hc

theorem StAt.off {k sb : Nat} (h : StAt H g rb k sb) (ev : Ev S H g H' g') (hS : OffN S) : StAt H' g' rb k sb :=
  h.ev ev (fun hc => hS _ hc (by simp)) (fun hc => hS _ hc (by simp))

/-- One list set, whole. -/
theorem F4.set {k : Nat} {P : Nat → SlP} {q : SlP} {l : List Dr} (h : F4 E p n ops rb sb4 H g bd M nd fs) (hP : H sb4 = some (SdB P)) (hL : ∀ j, j < 3 → j ≠ k → SdL H g j (P j) (fs j)) (hk : k < 3) (hq : SdL H g k q l)
    (hw : Wr H sb4 (.cells (setAll #[(P 0).v, (P 1).v, (P 2).v] (0 + ((k : Nat) : Int).toNat * 1) [q.v]) 78 (0, 0)) H') : Ev (fun tg => tg = (45, 0)) H g H' g ∧ F4 E p n ops rb sb4 H' g bd M nd (fset fs k l) := by
  obtain ⟨e, s⟩ := h.sd.set h.ok hP hL hk hq hw
  have h0 : ¬ ((fun tg : Nat × Int => tg = (45, 0)) (0, 0)) := fun hc => by cases hc
  exact ⟨e, e.ok, h.gl.ev e h0, h.scr.ev e h0, h.rk.off e off45N, h.ri, s, h.nm⟩

end

section
variable {H0 : Heap} {g0 : Gh} {p : Option Addr} {n c : Nat} {ops : List OpV} {E : Nat → Value} {rb sb4 : Nat}

/-- What is to be shown. -/
def post4 (H0 : Heap) (g0 : Gh) (v : Value) (H' : Heap) : Prop := v = .bool true ∧ ∃ g', Ev Ro H0 g0 H' g'

/-- Where a step ends: the next one goes on from any state that holds together. -/
def Goes (E : Nat → Value) (p : Option Addr) (n c : Nat) (ops : List OpV) (rb sb4 i : Nat) (H0 : Heap) (g0 : Gh) : Prop :=
  ∀ (H : Heap) (g : Gh) (bd M : Nat) (nd : Nat → NdV) (fs : Nat → List Dr), Ev Ro H0 g0 H g → F4 E p n ops rb sb4 H g bd M nd fs → (∀ k, k < 3 → Stood (nd k).s (fs k)) → bd ≤ 80 * (i + 1) → M ≤ 4 * (i + 1) →
    f4_L11 (some ⟨rb, 0, none⟩) sb4 p n c (n : Int) (i : Int) H (post4 H0 g0)

theorem f4_L10_ht {i k sb : Nat} (hgo : Goes E p n c ops rb sb4 i H0 g0) (hk : k < 3) {H : Heap} {g : Gh} {bd M : Nat} {nd : Nat → NdV} {fs : Nat → List Dr} (hE : Ev Ro H0 g0 H g) (hF : F4 E p n ops rb sb4 H g bd M nd fs) (hst : ∀ k, k < 3 → Stood (nd k).s (fs k)) (hs : StAt H g rb k sb) (hb : bd ≤ 80 * (i + 1)) (hM : M ≤ 4 * (i + 1)) (hi : i < 65536) :
    f4_L10 (some ⟨rb, 0, none⟩) sb4 (k : Int) (some ⟨sb, 0, none⟩) p n c (n : Int) (i : Int) H (post4 H0 g0) := by
  obtain ⟨P, hP, hL⟩ := hF.sd.ex
  obtain ⟨nb, pwb, dvb, hN, _⟩ := hF.rk.node hk hs
  have hlen := (hL k hk).len
  have hjl := (hst k hk).1
  have hIl := (hF.ri k hk).len
  have hc := SdB.cell hP hk
  apply f4_L10_of
  refine ⟨by omega, by omega, _, _, _, hc, (f35_ht hN.st).mono fun v H1 ⟨he, hv⟩ => ⟨_, hv, ?_⟩⟩
  subst he
  refine ⟨hc, fun hx => ?_, fun _ => hgo _ _ _ _ _ _ hE hF hst hb hM⟩
  have hw : IntKind.wrap .i64 (((P k).2.1 : Int) - 1) = ((nd k).s.jr.length : Int) := by rw [wrapI] <;> omega
  rw [hw] at hx
  simp at hx

/-- A list of one, set: what the code does behind a sync of the directory and behind a crash. -/
theorem one_ht {i k sb r : Nat} (hgo : Goes E p n c ops rb sb4 i H0 g0) (hk : k < 3) {H : Heap} {g : Gh} {bd M : Nat} {nd : Nat → NdV} {fs : Nat → List Dr} (hE : Ev Ro H0 g0 H g) (hF : F4 E p n ops rb sb4 H g bd M nd fs) (hst : ∀ j, j < 3 → j ≠ k → Stood (nd j).s (fs j)) (hk1 : Stood (nd k).s [dirN (nd k).s]) (hr : DirM H g r (dirN (nd k).s)) (hs : StAt H g rb k sb) (hb : bd ≤ 80 * (i + 1)) (hM : M ≤ 4 * (i + 1)) (hi : i < 65536) :
    ∀ (b : Nat) (hp : Heap), Al H (.cells #[.map (some r)] 79 (0, 0)) b hp → 0 ≤ (k : Int) ∧ (k : Int) < 3 ∧ ∃ (cc : Array Value) (T : TypeId), hp sb4 = some (.cells cc T (0, 0)) ∧ (0 + (k : Int).toNat * 1) + 1 ≤ cc.size ∧ ∀ (hp3 : Heap), Wr hp sb4 (.cells (setAll cc (0 + (k : Int).toNat * 1) [.slice (some ⟨b, 0, none⟩) 1 1]) T (0, 0)) hp3 →
      f4_L10 (some ⟨rb, 0, none⟩) sb4 (k : Int) (some ⟨sb, 0, none⟩) p n c (n : Int) (i : Int) hp3 (post4 H0 g0) := by
  intro b hp ha
  obtain ⟨e1, hl⟩ := SdL.one hF.ok ha hr k
  have hF1 := hF.off e1 none_offN (fun h => h) (fun z h => h)
  obtain ⟨P, hP, hL⟩ := hF1.sd.ex
  refine ⟨by omega, by omega, _, _, hP, by simp; omega, fun hp3 hw => ?_⟩
  obtain ⟨e2, hF2⟩ := hF1.set hP (fun j hj _ => hL j hj) hk hl hw
  refine f4_L10_ht hgo hk ((hE.trans (e1.mono fun tg h => h.elim)).trans (e2.mono fun tg h hc => by rw [h] at hc; cases hc)) hF2 (fun j hj => ?_) ((hs.off e1 none_offN).off e2 off45N) hb hM hi
  unfold fset
  by_cases hjk : j = k
  · subst hjk
    rw [if_pos rfl]
    exact hk1
  · rw [if_neg hjk]
    exact hst j hj hjk

/-- One more in a list: what the code does behind a change of the directory. -/
theorem more_ht {i k sb r : Nat} (hgo : Goes E p n c ops rb sb4 i H0 g0) (hk : k < 3) {H : Heap} {g : Gh} {bd M : Nat} {nd : Nat → NdV} {fs : Nat → List Dr} (hE : Ev Ro H0 g0 H g) (hF : F4 E p n ops rb sb4 H g bd M nd fs) (hst : ∀ j, j < 3 → j ≠ k → Stood (nd j).s (fs j)) (hk1 : Stood (nd k).s (fs k ++ [dirN (nd k).s])) (hr : DirM H g r (dirN (nd k).s)) (hs : StAt H g rb k sb) (hb : bd ≤ 80 * (i + 1)) (hM : M ≤ 4 * (i + 1)) (hi : i < 65536) :
    0 ≤ (k : Int) ∧ (k : Int) < 3 ∧ ∃ (x : Option Addr) (xn xc : Nat), Cells H sb4 (0 + (k : Int).toNat * 1) [.slice x xn xc] ∧ ∀ (b : Nat) (hp1 : Heap), Al H (.cells #[.map (some r)] 79 (0, 0)) b hp1 →
      SemOk Tryz.prog (Builtin.append_ #[77, 77] 77 #[.slice x xn xc, .slice (some ⟨b, 0, none⟩) 1 1]) hp1 fun v hp2 => ∃ (y : Option Addr) (yn yc : Nat), v = .slice y yn yc ∧ (0 ≤ (k : Int) ∧ (k : Int) < 3 ∧ ∃ (cc : Array Value) (T : TypeId), hp2 sb4 = some (.cells cc T (0, 0)) ∧ (0 + (k : Int).toNat * 1) + 1 ≤ cc.size ∧ ∀ (hp3 : Heap), Wr hp2 sb4 (.cells (setAll cc (0 + (k : Int).toNat * 1) [.slice y yn yc]) T (0, 0)) hp3 →
        f4_L10 (some ⟨rb, 0, none⟩) sb4 (k : Int) (some ⟨sb, 0, none⟩) p n c (n : Int) (i : Int) hp3 (post4 H0 g0)) := by
  obtain ⟨P, hP, hL⟩ := hF.sd.ex
  have hlen := (hL k hk).len
  have hjl := hk1.1
  have hIl := (hF.ri k hk).len
  refine ⟨by omega, by omega, _, _, _, SdB.cell hP hk, fun b hp1 ha => ?_⟩
  refine SdL.app hF.ok (hL k hk) ha hr (by rw [hlen]; simp at hjl; omega) fun p' c' H1 g1 e1 hl => ⟨_, _, _, rfl, by omega, by omega, _, _, e1.get hF.sd.tag (fun hc => by simp at hc) hP, by simp; omega, fun hp3 hw => ?_⟩
  have n0 : ¬ ((fun tg : Nat × Int => tg = (46, (k : Int))) (0, 0)) := fun hc => by simp at hc
  have n45 : ¬ ((fun tg : Nat × Int => tg = (46, (k : Int))) (45, 0)) := fun hc => by simp at hc
  have hP1 := e1.get hF.sd.tag n45 hP
  have hL1 : ∀ j, j < 3 → j ≠ k → SdL H1 g1 j (P j) (fs j) := fun j hj hjk => (hL j hj).ev e1 n0 (fun hc => hjk (by simp at hc; omega))
  have h45 : ¬ ((fun tg : Nat × Int => tg = (45, 0)) (0, 0)) := fun hc => by cases hc
  -- the new list, in its place
  have hw' : Wr H1 sb4 (SdB (pset P k (p', (P k).2.1 + 1, c'))) hp3 := by
    rw [← SdB.set hk]
    exact hw
  have e2 : Ev (fun tg => tg = (45, 0)) H1 g1 hp3 g1 := Ev.wr e1.ok hw' fun tg htg => by rw [e1.tag _ _ hF.sd.tag] at htg; cases htg; rfl
  have hF2 : F4 E p n ops rb sb4 hp3 g1 bd M nd (fset fs k (fs k ++ [dirN (nd k).s])) := by
    refine ⟨e2.ok, (hF.gl.ev e1 n0).ev e2 h45, (hF.scr.ev e1 n0).ev e2 h45, (hF.rk.off e1 off46N).off e2 off45N, hF.ri, ⟨e1.tag _ _ hF.sd.tag, _, hw'.same, fun j hj => ?_⟩, hF.nm⟩
    unfold pset fset
    by_cases hjk : j = k
    · subst hjk
      rw [if_pos rfl, if_pos rfl]
      exact hl.ev e2 h45 (fun hc => by simp at hc)
    · rw [if_neg hjk, if_neg hjk]
      exact (hL1 j hj hjk).ev e2 h45 (fun hc => by simp at hc)
  refine f4_L10_ht hgo hk ((hE.trans (e1.mono fun tg h hc => by rw [h] at hc; simp at hc)).trans (e2.mono fun tg h hc => by rw [h] at hc; cases hc)) hF2 (fun j hj => ?_) ((hs.off e1 off46N).off e2 off45N) hb hM hi
  unfold fset
  by_cases hjk : j = k
  · subst hjk
    rw [if_pos rfl]
    exact hk1
  · rw [if_neg hjk]
    exact hst j hj hjk

end

end Go.Proofs.Qxb6500695aGreatFmt
