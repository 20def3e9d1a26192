/-
  FORKS: the directory, its loops.
-/
import Derived.Test.Qxb6500695aGreatFmtFe
namespace Go.Proofs.Qxb6500695aGreatFmt
open Go Go.Eng Go.Proofs
set_option maxRecDepth 100000
set_option linter.unusedVariables false
set_option linter.unusedSimpArgs false
set_option linter.unusedSectionVars false

section
variable {H G0 : Heap} {q g q0 : Gh} {k : Int} {ss cap bd sb pwb cb tr dn a m it : Nat} {s : StV} {op : Option Addr} {oc : Nat} {jp : Option Addr} {jc : Nat}

/-- A record of the journal's copy is written. -/
theorem Cp.putJ {G G1 : Heap} {qq : Gh} {τ : Nat → Option Nat} {fa fm : NM} {jl : List Jr} {i jb o : Nat} {arr : Array Value} {j' : Jr} (hK : FkG H q g k sb ss cap bd pwb s G0 q0) (h : Cp H q k ss cap bd s cb tr G0 q0 dn a m op oc jp jc G qq τ fa fm jl) (hp : jp = some ⟨jb, o, none⟩)
    (hset : ∀ x H', Wr G jb (.cells (setAll arr (o + i * 5) (Jr.cs x)) 271 (0, 0)) H' → OwnL H' 271 5 Jr.cs jp jl.length jc (jl.set i x))
    (hw : Wr G jb (.cells (setAll arr (o + i * 5) (Jr.cs j')) 271 (0, 0)) G1) : Cp H q k ss cap bd s cb tr G0 q0 dn a m op oc jp jc G1 qq τ fa fm (jl.set i j') := by
  have tj := h.dp.jo.tag _ hp
  have e : Ev (fun tg => tg = (25, k)) G qq G1 qq := Ev.wr h.tw.fx.ev.ok hw fun tg htg => by rw [tj] at htg; cases htg; rfl
  have nn : ∀ {j : Nat}, j ≠ 25 → ¬ ((fun tg : Nat × Int => tg = (25, k)) (j, k)) := fun hj hc => hj (by simp at hc; exact hc)
  have hac : jb ≠ cb := fun hc => by have := h.tw.cbq; rw [← hc, tj] at this; cases this
  have hat : jb ≠ tr := fun hc => by have := h.tw.trq; rw [← hc, tj] at this; cases this
  have hj0 := h.j0 _ hp
  refine ⟨h.tw.upd hK.hq (hK.new hj0) hac hat hw e (fun hc => by simp at hc) (fun z tg ht => SpO.n2 ht ⟨by decide, by decide⟩), h.rl.wr hK.hq0 hj0 hw, ?_, h.dn0, h.a0, h.m0, h.j0, h.ne⟩
  refine ⟨h.dp.td, ?_, h.dp.ta, h.dp.ma.ev h.dp.ta e (nn (by decide)), h.dp.od.ev e (nn (by decide)), h.dp.tm, h.dp.mm.ev h.dp.tm e (nn (by decide)), ?_⟩
  · rw [List.length_set]
    exact e.get h.dp.td (nn (by decide)) h.dp.blk
  · rw [List.length_set]
    exact ⟨hset _ _ hw, h.dp.jo.tag⟩

/-- The copies say what the source says, by twins. -/
structure Said (s : StV) (τ : Nat → Option Nat) (fa fm : NM) : Prop where
  a : ∀ x, fa x = (s.m x).bind τ
  ad : ∀ x b, s.m x = some b → τ b ≠ none
  m : ∀ x, fm x = (s.st x).bind τ
  md : ∀ x b, s.st x = some b → τ b ≠ none

theorem bind_ext {f τ τ' : Nat → Option Nat} {o : Option Nat} (he : ∀ a x, τ a = some x → τ' a = some x) (hd : ∀ b, o = some b → τ b ≠ none) : o.bind τ = o.bind τ' := by
  cases o with
  | none => rfl
  | some b =>
    simp only [Option.bind_some]
    cases hb : τ b with
    | none => exact absurd hb (hd b rfl)
    | some x => rw [he b x hb]

theorem ext_ne {τ τ' : Nat → Option Nat} (he : ∀ a x, τ a = some x → τ' a = some x) {b : Nat} (h : τ b ≠ none) : τ' b ≠ none := by
  cases hb : τ b with
  | none => exact absurd hb h
  | some x => rw [he b x hb]; simp

theorem Said.ext {τ τ' : Nat → Option Nat} {fa fm : NM} (h : Said s τ fa fm) (he : ∀ a x, τ a = some x → τ' a = some x) : Said s τ' fa fm :=
  ⟨fun x => by rw [h.a, bind_ext (f := τ) he (h.ad x)], fun x b hb => ext_ne he (h.ad x b hb), fun x => by rw [h.m, bind_ext (f := τ) he (h.md x)], fun x b hb => ext_ne he (h.md x b hb)⟩

/-- A record has its twins. -/
def JrD (τ : Nat → Option Nat) (j : Jr) : Prop := τ j.ob ≠ none ∧ ∀ v, j.vic = some v → τ v ≠ none

theorem Jr.tw_ext {τ τ' : Nat → Option Nat} (he : ∀ a x, τ a = some x → τ' a = some x) {j : Jr} (h : JrD τ j) : Jr.tw τ' j = Jr.tw τ j := by
  unfold Jr.tw
  rw [bind_ext (f := τ) he h.2]
  cases hb : τ j.ob with
  | none => exact absurd hb h.1
  | some x => rw [he _ x hb]

/-- What the directory's copy leaves. -/
def post138 (H : Heap) (q : Gh) (k : Int) (ss cap bd : Nat) (s : StV) (cb tr : Nat) (G0 : Heap) (q0 : Gh) (v : Value) (G' : Heap) : Prop :=
  ∃ dn qq' τ' fa fm, v = .pointer (some ⟨dn, 0, none⟩) ∧ Tw H q k ss cap bd s cb tr G' qq' τ' ∧ Rl G0 q0 tr G' qq' ∧ G0 dn = none ∧ DirR G' qq' k dn fa s.xs fm (s.jr.map (Jr.tw τ')) ∧ Said s τ' fa fm ∧ ∀ j ∈ s.jr, JrD τ' j

theorem f138_L6_ht (hK : FkG H q g k sb ss cap bd pwb s G0 q0) :
    ∀ (d i : Nat) (G : Heap) (qq : Gh) (τ : Nat → Option Nat) (fa fm : NM), s.jr.length - i = d → i ≤ s.jr.length → Cp H q k ss cap bd s cb tr G0 q0 dn a m op oc jp jc G qq τ fa fm ((s.jr.take i).map (Jr.tw τ) ++ s.jr.drop i) → Said s τ fa fm → (∀ j ∈ s.jr.take i, JrD τ j) →
      f138_L6 cb (some ⟨dn, 0, none⟩) (s.jr.length : Int) (i : Int) G (post138 H q k ss cap bd s cb tr G0 q0) := by
  have hjl := hK.jl
  intro d
  induction d with
  | zero =>
    intro i G qq τ fa fm hd hi hC hsd hj
    have hil : i = s.jr.length := by omega
    subst hil
    rw [List.take_length] at hj
    rw [List.take_length, List.drop_length, List.append_nil] at hC
    apply f138_L6_of
    exact ⟨fun hx => by have := of_decide_eq_true hx; omega, fun _ => ⟨dn, qq, τ, fa, fm, rfl, hC.tw, hC.rl, hC.dn0, hC.dp.dir, hsd, hj⟩⟩
  | succ d ih =>
    intro i G qq τ fa fm hd hi hC hsd hjd
    have hil : i < s.jr.length := by omega
    have hll : ((s.jr.take i).map (Jr.tw τ) ++ s.jr.drop i).length = s.jr.length := by simp; omega
    have hget : ((s.jr.take i).map (Jr.tw τ) ++ s.jr.drop i)[i]'(by omega) = s.jr[i] := by
      rw [List.getElem_append_right (by simp; omega)]
      simp
      congr 1
      omega
    obtain ⟨hjo, hjv⟩ := hK.hjT s.jr[i] (List.getElem_mem hil)
    obtain ⟨b, o, hp, hc⟩ := hC.dp.jo.own.cells (i := i) (by omega)
    rw [hget] at hc
    have hblk := hC.dp.blk
    rw [hll] at hblk
    apply f138_L6_of
    refine ⟨fun _ => ?_, fun hx => by have := of_decide_eq_false hx; omega⟩
    have hc3 : Cells G b (o + i * 5 + 3) [.pointer (oP (some s.jr[i].ob))] := hc.part 3 rfl (by simp [Jr.cs])
    refine ⟨dn, 0, rfl, jp, s.jr.length, jc, Cells.of hblk rfl, dn, 0, rfl, jp, s.jr.length, jc, Cells.of hblk rfl, b, o, hp, by omega, by omega, _, by simpa using hc3, ?_⟩
    refine (f136_ht hK.hg hK.hr hK.hq hK.hS (by have := hK.hbd; omega) hC.tw hjo).mono fun v G1 ⟨b1, q1, τ1, hv1, tw1, ht1, hx1, but1, e1, un1⟩ => ⟨_, hv1, ?_⟩
    have C1 := hC.tw' tw1 but1 e1
    have hblk1 := C1.dp.blk
    rw [hll] at hblk1
    obtain ⟨b', o', arr, hp', hb', hsz', hcc', hset'⟩ := C1.dp.jo.own.at (i := i) (by omega)
    rw [hp] at hp'
    cases hp'
    rw [hget] at hcc'
    have harr : ∀ y, y < (Jr.cs s.jr[i]).length → arr[o + i * 5 + y]? = (Jr.cs s.jr[i])[y]? := by
      obtain ⟨c', T', fr', h1', h2'⟩ := hcc'
      rw [hb'] at h1'
      cases h1'
      exact h2'
    refine ⟨Cells.of hblk1 rfl, Cells.of hblk1 rfl, b, o, hp, by omega, by omega, arr, 271, hb', by simp; omega, fun G2 hw2 => ?_⟩
    have hf2 : setAll arr (o + (i : Int).toNat * 5 + 3) [.pointer (oP (some b1))] = setAll arr (o + i * 5) (Jr.cs { s.jr[i] with ob := b1 }) := by
      rw [Int.toNat_natCast]
      exact setAll_field (vs := Jr.cs s.jr[i]) harr (by simp [Jr.cs]) (by simp [Jr.cs]; omega)
    rw [hf2] at hw2
    have C2 := C1.putJ hK hp (fun x H' hw => hset' x H' hw) hw2
    have hblk2 := C2.dp.blk
    rw [List.length_set, hll] at hblk2
    -- the victim
    have victim : ∀ (G3 : Heap) (q3 : Gh) (τ3 : Nat → Option Nat) (w : Option Nat), Cp H q k ss cap bd s cb tr G0 q0 dn a m op oc jp jc G3 q3 τ3 fa fm (((s.jr.take i).map (Jr.tw τ) ++ s.jr.drop i).set i { s.jr[i] with ob := b1 }) → (∀ a x, τ1 a = some x → τ3 a = some x) → (w = s.jr[i].vic.bind τ3) → (∀ v, s.jr[i].vic = some v → τ3 v ≠ none) →
        Cells G3 dn (0 + 3) [.slice jp s.jr.length jc] ∧ Cells G3 dn (0 + 3) [.slice jp s.jr.length jc] ∧ ∃ (b111 o111 : Nat), jp = some ⟨b111, o111, none⟩ ∧ 0 ≤ (i : Int) ∧ (i : Int) < (s.jr.length : Int) ∧ (∃ (c_hp4 : Array Value) (T_hp4 : TypeId), G3 b111 = some (.cells c_hp4 T_hp4 (0, 0)) ∧ (o111 + (i : Int).toNat * 5 + 4) + 1 ≤ c_hp4.size ∧ ∀ (hp4 : Heap), Wr G3 b111 (.cells (setAll c_hp4 (o111 + (i : Int).toNat * 5 + 4) [.pointer (oP w)]) T_hp4 (0, 0)) hp4 → (f138_L6 cb (some ⟨dn, 0, none⟩) (s.jr.length : Int) (IntKind.wrap .i64 ((i : Int) + (1 : Int))) hp4 (post138 H q k ss cap bd s cb tr G0 q0))) := by
      intro G3 q3 τ3 w C3 hx3 hw3 hd3
      have hblk3 := C3.dp.blk
      rw [List.length_set, hll] at hblk3
      obtain ⟨b3', o3', arr3, hp3', hb3', hsz3', hcc3', hset3'⟩ := C3.dp.jo.own.at (i := i) (by rw [List.length_set]; omega)
      rw [hp] at hp3'
      cases hp3'
      have hget3 : ((((s.jr.take i).map (Jr.tw τ) ++ s.jr.drop i).set i { s.jr[i] with ob := b1 }))[i]'(by rw [List.length_set]; omega) = { s.jr[i] with ob := b1 } := by simp
      rw [hget3] at hcc3'
      have harr3 : ∀ y, y < (Jr.cs { s.jr[i] with ob := b1 }).length → arr3[o + i * 5 + y]? = (Jr.cs { s.jr[i] with ob := b1 })[y]? := by
        obtain ⟨c', T', fr', h1', h2'⟩ := hcc3'
        rw [hb3'] at h1'
        cases h1'
        exact h2'
      refine ⟨Cells.of hblk3 rfl, Cells.of hblk3 rfl, b, o, hp, by omega, by omega, arr3, 271, hb3', by simp; omega, fun G4 hw4 => ?_⟩
      have hf4 : setAll arr3 (o + (i : Int).toNat * 5 + 4) [.pointer (oP w)] = setAll arr3 (o + i * 5) (Jr.cs { s.jr[i] with ob := b1, vic := w }) := by
        rw [Int.toNat_natCast]
        exact setAll_field (vs := Jr.cs { s.jr[i] with ob := b1 }) harr3 (by simp [Jr.cs]) (by simp [Jr.cs]; omega)
      rw [hf4] at hw4
      have C4 := C3.putJ hK hp (fun x H' hw => hset3' x H' hw) hw4
      have hx13 : ∀ a x, τ a = some x → τ3 a = some x := fun a x hax => hx3 a x (hx1 a x hax)
      have htw : ({ s.jr[i] with ob := b1, vic := w } : Jr) = Jr.tw τ3 s.jr[i] := by
        unfold Jr.tw
        rw [hx3 _ _ ht1, ← hw3]
        rfl
      have hdi : JrD τ3 s.jr[i] := ⟨by rw [hx3 _ _ ht1]; simp, hd3⟩
      have hlist : (((s.jr.take i).map (Jr.tw τ) ++ s.jr.drop i).set i { s.jr[i] with ob := b1 }).set i { s.jr[i] with ob := b1, vic := w } = (s.jr.take (i + 1)).map (Jr.tw τ3) ++ s.jr.drop (i + 1) := by
        rw [htw, List.set_set]
        have h1 : (s.jr.take i).map (Jr.tw τ) = (s.jr.take i).map (Jr.tw τ3) := List.map_congr_left fun j hj => (Jr.tw_ext hx13 (hjd j hj)).symm
        rw [h1, take_succ hil, List.map_append, List.drop_eq_getElem_cons hil, List.set_append_right _ _ (by simp; omega)]
        have h2 : i - ((s.jr.take i).map (Jr.tw τ3)).length = 0 := by simp; omega
        rw [h2, List.set_cons_zero, List.append_assoc]
        rfl
      rw [hlist] at C4
      rw [wrapS (by omega)]
      refine ih (i + 1) G4 q3 τ3 fa fm (by omega) (by omega) C4 (hsd.ext hx13) fun j hj => ?_
      rw [take_succ hil] at hj
      rcases List.mem_append.1 hj with hj | hj
      · exact ⟨ext_ne hx13 (hjd j hj).1, fun v hv => ext_ne hx13 ((hjd j hj).2 v hv)⟩
      · rw [List.mem_singleton.1 hj]
        exact hdi
    have hc4 : Cells G2 b (o + i * 5 + 4) [.pointer (oP s.jr[i].vic)] := by
      obtain ⟨b4, o4, hp4, hc4⟩ := C2.dp.jo.own.cells (i := i) (by rw [List.length_set]; omega)
      rw [hp] at hp4
      cases hp4
      have hg4 : ((((s.jr.take i).map (Jr.tw τ) ++ s.jr.drop i).set i { s.jr[i] with ob := b1 }))[i]'(by rw [List.length_set]; omega) = { s.jr[i] with ob := b1 } := by simp
      rw [hg4] at hc4
      exact hc4.part 4 rfl (by simp [Jr.cs])
    refine ⟨dn, 0, rfl, jp, s.jr.length, jc, Cells.of hblk2 rfl, dn, 0, rfl, jp, s.jr.length, jc, Cells.of hblk2 rfl, b, o, hp, by omega, by omega, _, by simpa using hc4, ?_⟩
    cases hvic : s.jr[i].vic with
    | none =>
      refine f136_nil.mono fun v G3 ⟨hv3, he3⟩ => ⟨_, hv3, ?_⟩
      subst he3
      exact victim G3 q1 τ1 none C2 (fun _ _ h => h) (by rw [hvic]; rfl) (fun v hv => by rw [hvic] at hv; cases hv)
    | some v0 =>
      refine (f136_ht hK.hg hK.hr hK.hq hK.hS (by have := hK.hbd; omega) C2.tw (hjv v0 hvic)).mono fun v G3 ⟨b3, q3, τ3, hv3, tw3, ht3, hx3, but3, e3, un3⟩ => ⟨_, hv3, ?_⟩
      exact victim G3 q3 τ3 (some b3) (C2.tw' tw3 but3 e3) hx3 (by rw [hvic]; exact ht3.symm) (fun v hv => by rw [hvic] at hv; cases hv; rw [ht3]; simp)

end

end Go.Proofs.Qxb6500695aGreatFmt
