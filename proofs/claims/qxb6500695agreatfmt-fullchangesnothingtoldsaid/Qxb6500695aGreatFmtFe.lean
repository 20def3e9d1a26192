/-
  FORKS: the directory.
-/
import Derived.Test.Qxb6500695aGreatFmtFd
namespace Go.Proofs.Qxb6500695aGreatFmt
open Go Go.Eng Go.Proofs
set_option maxRecDepth 100000
set_option linter.unusedVariables false
set_option linter.unusedSimpArgs false
set_option linter.unusedSectionVars false

/-- From the call's start: all that lay there stands, but for the map of twins. -/
structure Rl (G0 : Heap) (q0 : Gh) (tr : Nat) (G : Heap) (qq : Gh) : Prop where
  but : But G0 tr G
  ev : Ev (fun _ => False) G0 q0 G qq

section
variable {G0 G G1 : Heap} {q0 qq q1 : Gh} {tr x : Nat} {o : Obj}

theorem Rl.refl (h : GOk G0 q0) : Rl G0 q0 tr G0 q0 := ⟨fun _ _ h _ => h, Ev.refl h⟩
theorem Rl.fx (h : Rl G0 q0 tr G qq) (f : Fx G qq G1 q1) : Rl G0 q0 tr G1 q1 := ⟨fun x o hx hne => f.sub x o (h.but x o hx hne), h.ev.trans f.ev⟩
theorem Rl.tw (h : Rl G0 q0 tr G qq) (hb : But G tr G1) (e : Ev (fun _ => False) G qq G1 q1) : Rl G0 q0 tr G1 q1 := ⟨fun x o hx hne => hb x o (h.but x o hx hne) hne, h.ev.trans e⟩
theorem Rl.wr (hq : GOk G0 q0) (h : Rl G0 q0 tr G qq) (hx : G0 x = none) (hw : Wr G x o G1) : Rl G0 q0 tr G1 qq := by
  refine ⟨fun y oy hy hne => hw.keep (h.but y oy hy hne) (fun hc => by rw [hc, hx] at hy; cases hy), ⟨fun y t hy => ?_, h.ev.tag, fun y t hy hS => ?_⟩⟩
  · by_cases hyx : y = x
    · rw [hyx, hw.same]; simp
    · rw [hw.other hyx]; exact h.ev.ok y t hy
  · rw [hw.other fun hc => hq y t hy (by rw [hc]; exact hx)]
    exact h.ev.keep y t hy hS
end

/-- The directory's parts, by name. -/
structure DirP (G : Heap) (qq : Gh) (k : Int) (dn a m : Nat) (op : Option Addr) (oc : Nat) (jp : Option Addr) (jc : Nat) (fa : NM) (xs : List ByteArray) (fm : NM) (jl : List Jr) : Prop where
  td : qq dn = some (21, k)
  blk : G dn = some (.cells #[.map (some a), .slice op xs.length oc, .map (some m), .slice jp jl.length jc] 171 (0, 0))
  ta : qq a = some (22, k)
  ma : MapIs G a fa
  od : OwnT G qq (23, k) 9 1 Str.cs op xs.length oc xs
  tm : qq m = some (24, k)
  mm : MapIs G m fm
  jo : OwnT G qq (25, k) 271 5 Jr.cs jp jl.length jc jl

theorem DirP.ev {S : Nat × Int → Prop} {G G' : Heap} {qq qq' : Gh} {k : Int} {dn a m : Nat} {op : Option Addr} {oc : Nat} {jp : Option Addr} {jc : Nat} {fa : NM} {xs : List ByteArray} {fm : NM} {jl : List Jr} (h : DirP G qq k dn a m op oc jp jc fa xs fm jl) (e : Ev S G qq G' qq') (hS : ∀ tg, SpD k tg → ¬ S tg) : DirP G' qq' k dn a m op oc jp jc fa xs fm jl :=
  ⟨e.tag _ _ h.td, e.get h.td (hS _ ⟨rfl, by simp, by simp⟩) h.blk, e.tag _ _ h.ta, h.ma.ev h.ta e (hS _ ⟨rfl, by simp, by simp⟩), h.od.ev e (hS _ ⟨rfl, by simp, by simp⟩), e.tag _ _ h.tm, h.mm.ev h.tm e (hS _ ⟨rfl, by simp, by simp⟩), h.jo.ev e (hS _ ⟨rfl, by simp, by simp⟩)⟩

theorem DirP.dir {G : Heap} {qq : Gh} {k : Int} {dn a m : Nat} {op : Option Addr} {oc : Nat} {jp : Option Addr} {jc : Nat} {fa : NM} {xs : List ByteArray} {fm : NM} {jl : List Jr} (h : DirP G qq k dn a m op oc jp jc fa xs fm jl) : DirR G qq k dn fa xs fm jl :=
  ⟨h.td, a, op, _, oc, m, jp, _, jc, h.blk, h.ta, h.ma, h.od, h.tm, h.mm, h.jo⟩

/-- A record of the fork's journal. -/
def Jr.tw (τ : Nat → Option Nat) (j : Jr) : Jr := { j with ob := (τ j.ob).getD 0, vic := j.vic.bind τ }

section
variable {H G0 : Heap} {q g q0 : Gh} {k : Int} {ss cap bd sb pwb cb tr dn a m it : Nat} {s : StV} {op : Option Addr} {oc : Nat} {jp : Option Addr} {jc : Nat}

/-- What is given. -/
structure FkG (H : Heap) (q g : Gh) (k : Int) (sb ss cap bd pwb : Nat) (s : StV) (G0 : Heap) (q0 : Gh) : Prop where
  hg : GOk H g
  hq : GOk H q
  hr : RoIn g q
  hS : StR H g k sb ss cap bd pwb s
  hbd : bd < 2 ^ 31
  hmT : ∀ x b, s.m x = some b → b ∈ s.T
  hsT : ∀ x b, s.st x = some b → b ∈ s.T
  hjT : ∀ j ∈ s.jr, j.ob ∈ s.T ∧ ∀ v, j.vic = some v → v ∈ s.T
  hq0 : GOk G0 q0
  sub0 : Sub H G0
  jl : s.jr.length < 2 ^ 31
  xl : s.xs.length < 2 ^ 30

theorem FkG.new (hK : FkG H q g k sb ss cap bd pwb s G0 q0) {x : Nat} (hx : G0 x = none) : H x = none := by
  cases hc : H x with
  | none => rfl
  | some o => rw [hK.sub0 x o hc] at hx; cases hx

/-- What holds while a map is copied: f is what the map is to say of the names met. -/
structure Cp (H : Heap) (q : Gh) (k : Int) (ss cap bd : Nat) (s : StV) (cb tr : Nat) (G0 : Heap) (q0 : Gh) (dn a m : Nat) (op : Option Addr) (oc : Nat) (jp : Option Addr) (jc : Nat) (G : Heap) (qq : Gh) (τ : Nat → Option Nat) (fa fm : NM) (jl : List Jr) : Prop where
  tw : Tw H q k ss cap bd s cb tr G qq τ
  rl : Rl G0 q0 tr G qq
  dp : DirP G qq k dn a m op oc jp jc fa s.xs fm jl
  dn0 : G0 dn = none
  a0 : G0 a = none
  m0 : G0 m = none
  j0 : ∀ x, jp = some x → G0 x.block = none
  ne : dn ≠ cb ∧ dn ≠ tr

theorem Cp.scr {G G1 : Heap} {qq : Gh} {τ : Nat → Option Nat} {fa fm : NM} {jl : List Jr} {it : Nat} {o : Obj} (hK : FkG H q g k sb ss cap bd pwb s G0 q0) (h : Cp H q k ss cap bd s cb tr G0 q0 dn a m op oc jp jc G qq τ fa fm jl) (hi0 : G0 it = none) (hiq : qq it = none) (hic : it ≠ cb) (hit : it ≠ tr) (hw : Wr G it o G1) : Cp H q k ss cap bd s cb tr G0 q0 dn a m op oc jp jc G1 qq τ fa fm jl := by
  have e : Ev (fun _ => False) G qq G1 qq := Ev.untag h.tw.fx.ev.ok hiq fun x hx => hw.other hx
  exact ⟨h.tw.upd hK.hq (hK.new hi0) hic hit hw e (fun h => h) (fun _ _ _ h => h), h.rl.wr hK.hq0 hi0 hw, h.dp.ev e fun _ _ h => h, h.dn0, h.a0, h.m0, h.j0, h.ne⟩

theorem Cp.tw' {G G1 : Heap} {qq q1 : Gh} {τ τ1 : Nat → Option Nat} {fa fm : NM} {jl : List Jr} (h : Cp H q k ss cap bd s cb tr G0 q0 dn a m op oc jp jc G qq τ fa fm jl) (h1 : Tw H q k ss cap bd s cb tr G1 q1 τ1) (hb : But G tr G1) (e : Ev (fun _ => False) G qq G1 q1) : Cp H q k ss cap bd s cb tr G0 q0 dn a m op oc jp jc G1 q1 τ1 fa fm jl :=
  ⟨h1, h.rl.tw hb e, h.dp.ev e fun _ _ h => h, h.dn0, h.a0, h.m0, h.j0, h.ne⟩

theorem SpO.n2 {z : Int} {tg : Nat × Int} {j : Nat} {y : Int} (h : SpO z tg) (hj : 19 ≤ j ∧ j ≤ 99) : ¬ ((fun tg : Nat × Int => tg = (j, y)) tg) := fun hc => by
  have := h.rng.2
  have hc' : tg = (j, y) := hc
  rw [hc'] at this
  simp at this
  omega

/-- The live map takes a name. -/
theorem Cp.putA {G G1 : Heap} {qq : Gh} {τ : Nat → Option Nat} {fa fm : NM} {jl : List Jr} {es : Array MapEntry} {ck : Nat} {x : ByteArray} {b' : Nat} (hK : FkG H q g k sb ss cap bd pwb s G0 q0) (h : Cp H q k ss cap bd s cb tr G0 q0 dn a m op oc jp jc G qq τ fa fm jl) (hes : G a = some (.map es ck)) (hok : MapOkS es ck) (hget : ∀ y, sget es.toList y = (fa y).map fun b => .pointer (oP (some b)))
    (hw : Wr G a (mputS es ck x (.pointer (oP (some b')))) G1) : Cp H q k ss cap bd s cb tr G0 q0 dn a m op oc jp jc G1 qq τ (mset fa x (some b')) fm jl := by
  obtain ⟨es', ck', p1, p2, p3, _⟩ := mputS_ok (c := ck) (n := x) (v := .pointer (oP (some b'))) hok
  rw [p1] at hw
  have e : Ev (fun tg => tg = (22, k)) G qq G1 qq := Ev.wr h.tw.fx.ev.ok hw fun tg htg => by rw [h.dp.ta] at htg; cases htg; rfl
  have nn : ∀ {j : Nat}, j ≠ 22 → ¬ ((fun tg : Nat × Int => tg = (22, k)) (j, k)) := fun hj hc => hj (by simp at hc; exact hc)
  have hac : a ≠ cb := fun hc => by have := h.tw.cbq; rw [← hc, h.dp.ta] at this; cases this
  have hat : a ≠ tr := fun hc => by have := h.tw.trq; rw [← hc, h.dp.ta] at this; cases this
  refine ⟨h.tw.upd hK.hq (hK.new h.a0) hac hat hw e (fun hc => by simp at hc) (fun z tg ht => SpO.n2 ht ⟨by decide, by decide⟩), h.rl.wr hK.hq0 h.a0 hw, ?_, h.dn0, h.a0, h.m0, h.j0, h.ne⟩
  refine ⟨h.dp.td, e.get h.dp.td (nn (by decide)) h.dp.blk, h.dp.ta, ⟨es', ck', hw.same, p2, fun y => ?_⟩, h.dp.od.ev e (nn (by decide)), h.dp.tm, h.dp.mm.ev h.dp.tm e (nn (by decide)), h.dp.jo.ev e (nn (by decide))⟩
  rw [p3, hget]
  unfold mset
  split <;> rfl

/-- The stable map takes a name. -/
theorem Cp.putM {G G1 : Heap} {qq : Gh} {τ : Nat → Option Nat} {fa fm : NM} {jl : List Jr} {es : Array MapEntry} {ck : Nat} {x : ByteArray} {b' : Nat} (hK : FkG H q g k sb ss cap bd pwb s G0 q0) (h : Cp H q k ss cap bd s cb tr G0 q0 dn a m op oc jp jc G qq τ fa fm jl) (hes : G m = some (.map es ck)) (hok : MapOkS es ck) (hget : ∀ y, sget es.toList y = (fm y).map fun b => .pointer (oP (some b)))
    (hw : Wr G m (mputS es ck x (.pointer (oP (some b')))) G1) : Cp H q k ss cap bd s cb tr G0 q0 dn a m op oc jp jc G1 qq τ fa (mset fm x (some b')) jl := by
  obtain ⟨es', ck', p1, p2, p3, _⟩ := mputS_ok (c := ck) (n := x) (v := .pointer (oP (some b'))) hok
  rw [p1] at hw
  have e : Ev (fun tg => tg = (24, k)) G qq G1 qq := Ev.wr h.tw.fx.ev.ok hw fun tg htg => by rw [h.dp.tm] at htg; cases htg; rfl
  have nn : ∀ {j : Nat}, j ≠ 24 → ¬ ((fun tg : Nat × Int => tg = (24, k)) (j, k)) := fun hj hc => hj (by simp at hc; exact hc)
  have hac : m ≠ cb := fun hc => by have := h.tw.cbq; rw [← hc, h.dp.tm] at this; cases this
  have hat : m ≠ tr := fun hc => by have := h.tw.trq; rw [← hc, h.dp.tm] at this; cases this
  refine ⟨h.tw.upd hK.hq (hK.new h.m0) hac hat hw e (fun hc => by simp at hc) (fun z tg ht => SpO.n2 ht ⟨by decide, by decide⟩), h.rl.wr hK.hq0 h.m0 hw, ?_, h.dn0, h.a0, h.m0, h.j0, h.ne⟩
  refine ⟨h.dp.td, e.get h.dp.td (nn (by decide)) h.dp.blk, h.dp.ta, h.dp.ma.ev h.dp.ta e (nn (by decide)), h.dp.od.ev e (nn (by decide)), h.dp.tm, ⟨es', ck', hw.same, p2, fun y => ?_⟩, h.dp.jo.ev e (nn (by decide))⟩
  rw [p3, hget]
  unfold mset
  split <;> rfl

end

end Go.Proofs.Qxb6500695aGreatFmt
