/-
  FORKS: the directory's first part; stores, devices, nodes.
-/
import Derived.Test.Qxb6500695aGreatFmtFg
import Derived.Test.Qxb6500695aGreatFmtNd
namespace Go.Proofs.Qxb6500695aGreatFmt
open Go Go.Eng Go.Proofs
set_option maxRecDepth 100000
set_option linter.unusedVariables false
set_option linter.unusedSimpArgs false
set_option linter.unusedSectionVars false

section
variable {H G0 : Heap} {q g q0 : Gh} {k : Int} {ss cap bd sb pwb cb tr db : Nat} {s : StV}

/-- The new directory's parts, as far as they are laid. -/
structure Db (H : Heap) (q : Gh) (k : Int) (ss cap bd : Nat) (s : StV) (cb tr : Nat) (G0 : Heap) (q0 : Gh) (G : Heap) (qq : Gh) (A M : Option Nat) (N J : Option (Option Addr × Nat)) : Prop where
  tw : Tw H q k ss cap bd s cb tr G qq (fun _ => none)
  rl : Rl G0 q0 tr G qq
  a : ∀ x, A = some x → qq x = some (22, k) ∧ G x = some (.map #[] 0) ∧ G0 x = none
  m : ∀ x, M = some x → qq x = some (24, k) ∧ G x = some (.map #[] 0) ∧ G0 x = none
  n : ∀ x, N = some x → OwnT G qq (23, k) 9 1 Str.cs x.1 s.xs.length x.2 s.xs
  j : ∀ x, J = some x → OwnT G qq (25, k) 271 5 Jr.cs x.1 s.jr.length x.2 s.jr ∧ ∀ y, x.1 = some y → G0 y.block = none

theorem Db.grow {G G1 : Heap} {qq q1 : Gh} {A M : Option Nat} {N J : Option (Option Addr × Nat)} (h : Db H q k ss cap bd s cb tr G0 q0 G qq A M N J) (f : Fx G qq G1 q1) : Db H q k ss cap bd s cb tr G0 q0 G1 q1 A M N J :=
  ⟨h.tw.step f, h.rl.fx f, fun x hx => let ⟨h1, h2, h3⟩ := h.a x hx; ⟨f.ev.tag _ _ h1, f.sub _ _ h2, h3⟩, fun x hx => let ⟨h1, h2, h3⟩ := h.m x hx; ⟨f.ev.tag _ _ h1, f.sub _ _ h2, h3⟩, fun x hx => (h.n x hx).ev f.ev (fun h => h), fun x hx => ⟨(h.j x hx).1.ev f.ev (fun h => h), (h.j x hx).2⟩⟩

theorem Db.fresh {G : Heap} {qq : Gh} {A M : Option Nat} {N J : Option (Option Addr × Nat)} (h : Db H q k ss cap bd s cb tr G0 q0 G qq A M N J) {x : Nat} (hx : G x = none) : G0 x = none ∧ x ≠ cb ∧ x ≠ tr := by
  obtain ⟨es, ck, t1, _⟩ := h.tw.trv
  have hxt : x ≠ tr := fun hc => by rw [hc, t1] at hx; cases hx
  refine ⟨?_, (fun hc => by rw [hc, h.tw.cbv] at hx; cases hx), hxt⟩
  cases hc : G0 x with
  | none => rfl
  | some o => rw [h.rl.but x o hc hxt] at hx; cases hx

theorem Db.setA {G G1 : Heap} {qq : Gh} {A M : Option Nat} {N J : Option (Option Addr × Nat)} {b : Nat} (h : Db H q k ss cap bd s cb tr G0 q0 G qq A M N J) (ha : Al G (.map #[] 0) b G1) : ∃ q1, Db H q k ss cap bd s cb tr G0 q0 G1 q1 (some b) M N J := by
  obtain ⟨f, t⟩ := Fx.al h.tw.fx.ev.ok ha (22, k)
  have h1 := h.grow f
  exact ⟨_, h1.tw, h1.rl, fun x hx => by cases hx; exact ⟨t, ha.same, (h.fresh ha.fresh).1⟩, h1.m, h1.n, h1.j⟩

theorem Db.setM {G G1 : Heap} {qq : Gh} {A M : Option Nat} {N J : Option (Option Addr × Nat)} {b : Nat} (h : Db H q k ss cap bd s cb tr G0 q0 G qq A M N J) (ha : Al G (.map #[] 0) b G1) : ∃ q1, Db H q k ss cap bd s cb tr G0 q0 G1 q1 A (some b) N J := by
  obtain ⟨f, t⟩ := Fx.al h.tw.fx.ev.ok ha (24, k)
  have h1 := h.grow f
  exact ⟨_, h1.tw, h1.rl, h1.a, fun x hx => by cases hx; exact ⟨t, ha.same, (h.fresh ha.fresh).1⟩, h1.n, h1.j⟩

theorem Db.setN {G G1 : Heap} {qq : Gh} {A M : Option Nat} {N J : Option (Option Addr × Nat)} {p : Option Addr} {c : Nat} (h : Db H q k ss cap bd s cb tr G0 q0 G qq A M N J) (hs : Sub G G1) (hn : New G p) (ho : OwnL G1 9 1 Str.cs p s.xs.length c s.xs) : ∃ q1, Db H q k ss cap bd s cb tr G0 q0 G1 q1 A M (some (p, c)) J := by
  obtain ⟨q1, f, ot⟩ := Fx.own h.tw.fx.ev.ok hs hn ho (23, k)
  have h1 := h.grow f
  exact ⟨_, h1.tw, h1.rl, h1.a, h1.m, fun x hx => by cases hx; exact ot, h1.j⟩

theorem Db.setJ {G G1 : Heap} {qq : Gh} {A M : Option Nat} {N J : Option (Option Addr × Nat)} {p : Option Addr} {c : Nat} (h : Db H q k ss cap bd s cb tr G0 q0 G qq A M N J) (hs : Sub G G1) (hn : New G p) (ho : OwnL G1 271 5 Jr.cs p s.jr.length c s.jr) : ∃ q1, Db H q k ss cap bd s cb tr G0 q0 G1 q1 A M N (some (p, c)) := by
  obtain ⟨q1, f, ot⟩ := Fx.own h.tw.fx.ev.ok hs hn ho (25, k)
  have h1 := h.grow f
  exact ⟨_, h1.tw, h1.rl, h1.a, h1.m, h1.n, fun x hx => by cases hx; exact ⟨ot, fun y hy => (h.fresh (hn y hy)).1⟩⟩

/-- A directory's copy. -/
theorem f138_ht (hK : FkG H q g k sb ss cap bd pwb s G0 q0) (hd : DirR H g k db s.m s.xs s.st s.jr) (ht : Tw H q k ss cap bd s cb tr G0 q0 (fun _ => none)) :
    HT Tryz.prog 138 [.pointer (some ⟨db, 0, none⟩), .func (.func 136) #[] #[.pointer (some ⟨cb, 0, none⟩)]] G0 (post138 H q k ss cap bd s cb tr G0 q0) := by
  obtain ⟨lr, op, on, oc, sr, jp, jn, jc, d1, d2, d3, d4, d5, d6, d7⟩ := hd.ex
  have hon := d4.own.len
  have hjn := d7.own.len
  subst hon hjn
  obtain ⟨es, ck, m1, m2, m3⟩ := d3
  obtain ⟨es0, ck0, k1, k2, k3⟩ := d6
  have hxl := hK.xl
  have hjl := hK.jl
  have D0 : Db H q k ss cap bd s cb tr G0 q0 G0 q0 none none none none := ⟨ht, Rl.refl hK.hq0, (fun x h => by cases h), (fun x h => by cases h), (fun x h => by cases h), (fun x h => by cases h)⟩
  have cell : ∀ {G : Heap} {qq : Gh} {A M : Option Nat} {N J : Option (Option Addr × Nat)}, Db H q k ss cap bd s cb tr G0 q0 G qq A M N J → G db = some (.cells #[.map (some lr), .slice op s.xs.length oc, .map (some sr), .slice jp s.jr.length jc] 171 (0, 0)) := fun h => h.tw.fx.sub _ _ d1
  have names : ∀ {G : Heap} {qq : Gh} {A M : Option Nat} {J : Option (Option Addr × Nat)}, Db H q k ss cap bd s cb tr G0 q0 G qq A M none J → HT Tryz.prog 132 [.slice op s.xs.length oc] G fun v G1 => ∃ p' c' q1, v = .slice p' s.xs.length c' ∧ Db H q k ss cap bd s cb tr G0 q0 G1 q1 A M (some (p', c')) J := by
    intro G qq A M J h
    have ho := d4.own.sub h.tw.fx.sub
    refine (f132_ht (c := oc) (ys := s.xs) rfl hxl (fun hn => ?_) fun hpos => ?_).mono fun v G1 ⟨hs, p', c', hv, hn, ho'⟩ => ?_
    · rcases ho.own with ⟨_, h2, _⟩ | ⟨b, o, arr, h2, _⟩
      · exact h2
      · rw [hn] at h2; cases h2
    · rcases ho.own with ⟨_, h2, _⟩ | ⟨b, o, arr, h2, _⟩
      · omega
      · refine ⟨b, o, h2, ?_⟩
        have hc : Cells G b o (s.xs.flatMap Str.cs) := by rw [h2] at ho; exact ho.own.cells
        rw [flat_str] at hc
        exact hc
    · obtain ⟨q1, h1⟩ := h.setN hs hn ho'
      exact ⟨p', c', q1, hv, h1⟩
  have jrs : ∀ {G : Heap} {qq : Gh} {A M : Option Nat} {N : Option (Option Addr × Nat)}, Db H q k ss cap bd s cb tr G0 q0 G qq A M N none → HT Tryz.prog 183 [.slice jp s.jr.length jc] G fun v G1 => ∃ p' c' q1, v = .slice p' s.jr.length c' ∧ Db H q k ss cap bd s cb tr G0 q0 G1 q1 A M N (some (p', c')) := by
    intro G qq A M N h
    refine (f183_ht (d7.own.sub h.tw.fx.sub) (by omega)).mono fun v G1 ⟨hs, p', c', hv, hn, ho'⟩ => ?_
    obtain ⟨q1, h1⟩ := h.setJ hs hn ho'
    exact ⟨p', c', q1, hv, h1⟩
  have fin : ∀ {G : Heap} {qq : Gh} {a m : Nat} {n j : Option Addr × Nat}, Db H q k ss cap bd s cb tr G0 q0 G qq (some a) (some m) (some n) (some j) → ∀ (dn : Nat) (G1 : Heap), Al G (.cells #[.map (some a), .slice n.1 s.xs.length n.2, .map (some m), .slice j.1 s.jr.length j.2] 171 (0, 0)) dn G1 →
      f138_L1 (some ⟨db, 0, none⟩) cb (some ⟨dn, 0, none⟩) G1 (post138 H q k ss cap bd s cb tr G0 q0) := by
    intro G qq a m n j h dn G1 ha
    obtain ⟨f, t⟩ := Fx.al h.tw.fx.ev.ok ha (21, k)
    have h1 := h.grow f
    obtain ⟨a1, a2, a3⟩ := h1.a a rfl
    obtain ⟨b1, b2, b3⟩ := h1.m m rfl
    obtain ⟨f1, f2, f3⟩ := h.fresh ha.fresh
    have C : Cp H q k ss cap bd s cb tr G0 q0 dn a m n.1 n.2 j.1 j.2 G1 (gset qq dn (21, k)) (fun _ => none) (fun _ => none) (fun _ => none) s.jr := ⟨h1.tw, h1.rl, ⟨t, ha.same, a1, ⟨#[], 0, a2, MapOkS.empty 0, fun _ => rfl⟩, h1.n n rfl, b1, ⟨#[], 0, b2, MapOkS.empty 0, fun _ => rfl⟩, (h1.j j rfl).1⟩, f1, a3, b3, (h1.j j rfl).2, f2, f3⟩
    apply f138_L1_of
    refine ⟨db, 0, rfl, _, Cells.of (cell h1) rfl, ?_⟩
    refine semOk_range Tryz.underlying168 (h1.tw.fx.sub _ _ m1) fun it G2 ha2 => ⟨_, rfl, ?_⟩
    obtain ⟨i1, i2, i3⟩ := C.fresh ha2.fresh
    have hq2 : gset qq dn (21, k) it = none := by
      cases hc : gset qq dn (21, k) it with
      | none => rfl
      | some t => exact absurd ha2.fresh (C.tw.fx.ev.ok it t hc)
    exact f138_L2_ht hK d1 m1 m2 m3 k1 k2 k3 i1 i2 i3 _ [] #[] G2 _ _ _ rfl (Met.start es) (C.grow (Fx.ofSub C.tw.fx.ev.ok ha2.sub)) hq2 ha2.same Half.nil
  -- the tails
  have tailMJ : ∀ {G : Heap} {qq : Gh} {a : Nat} {n : Option Addr × Nat}, Db H q k ss cap bd s cb tr G0 q0 G qq (some a) none (some n) none →
      (∀ (b27 : Nat) (hp5 : Heap), Al G (.map #[] 0) b27 hp5 → HT Tryz.prog 183 [.slice jp s.jr.length jc] hp5 fun v hp6 => ∃ (x32 : Option Addr) (x32n x32c : Nat), v = .slice x32 x32n x32c ∧ ∀ (b34 : Nat) (hp7 : Heap), Al hp6 (.cells #[.map (some a), .slice n.1 s.xs.length n.2, .map (some b27), .slice x32 x32n x32c] 171 (0, 0)) b34 hp7 → f138_L1 (some ⟨db, 0, none⟩) cb (some ⟨b34, 0, none⟩) hp7 (post138 H q k ss cap bd s cb tr G0 q0)) ∧
      HT Tryz.prog 183 [.slice jp s.jr.length jc] G fun v hp8 => ∃ (x32 : Option Addr) (x32n x32c : Nat), v = .slice x32 x32n x32c ∧ ∀ (b27 : Nat) (hp9 : Heap), Al hp8 (.map #[] 0) b27 hp9 → ∀ (b34 : Nat) (hp10 : Heap), Al hp9 (.cells #[.map (some a), .slice n.1 s.xs.length n.2, .map (some b27), .slice x32 x32n x32c] 171 (0, 0)) b34 hp10 → f138_L1 (some ⟨db, 0, none⟩) cb (some ⟨b34, 0, none⟩) hp10 (post138 H q k ss cap bd s cb tr G0 q0) := by
    intro G qq a n h
    refine ⟨fun b27 G1 ha => ?_, ?_⟩
    · obtain ⟨q1, h1⟩ := h.setM ha
      exact (jrs h1).mono fun v G2 ⟨p', c', q2, hv, h2⟩ => ⟨_, _, _, hv, fun b34 G3 ha3 => fin h2 b34 G3 ha3⟩
    · exact (jrs h).mono fun v G2 ⟨p', c', q2, hv, h2⟩ => ⟨_, _, _, hv, fun b27 G3 ha3 b34 G4 ha4 => by
        obtain ⟨q3, h3⟩ := h2.setM ha3
        exact fin h3 b34 G4 ha4⟩
  apply f138_of
  refine ⟨db, 0, rfl, _, Cells.of (cell D0) rfl, db, 0, rfl, op, s.xs.length, oc, Cells.of (cell D0) rfl, db, 0, rfl, _, Cells.of (cell D0) rfl, db, 0, rfl, jp, s.jr.length, jc, Cells.of (cell D0) rfl, ?_⟩
  refine semOk_lenM Tryz.underlying168 (D0.tw.fx.sub _ _ m1) ⟨_, rfl, Cells.of (cell D0) rfl, Cells.of (cell D0) rfl, Cells.of (cell D0) rfl, ?_, ?_⟩
  · intro b16 G1 ha1
    obtain ⟨q1, D1⟩ := D0.setA ha1
    refine (names D1).mono fun v G2 ⟨p', c', q2, hv, D2⟩ => ⟨_, _, _, hv, Cells.of (cell D2) rfl, Cells.of (cell D2) rfl, ?_⟩
    refine semOk_lenM Tryz.underlying168 (D2.tw.fx.sub _ _ k1) ⟨_, rfl, Cells.of (cell D2) rfl, ?_⟩
    exact tailMJ D2
  · refine (names D0).mono fun v G1 ⟨p', c', q1, hv, D1⟩ => ⟨_, _, _, hv, Cells.of (cell D1) rfl, Cells.of (cell D1) rfl, ?_, ?_⟩
    · intro b16 G2 ha2
      obtain ⟨q2, D2⟩ := D1.setA ha2
      refine semOk_lenM Tryz.underlying168 (D2.tw.fx.sub _ _ k1) ⟨_, rfl, Cells.of (cell D2) rfl, ?_⟩
      exact tailMJ D2
    · refine semOk_lenM Tryz.underlying168 (D1.tw.fx.sub _ _ k1) ⟨_, rfl, Cells.of (cell D1) rfl, ?_, ?_, ?_⟩
      · intro b16 G2 ha2
        obtain ⟨q2, D2⟩ := D1.setA ha2
        exact tailMJ D2
      · intro b27 G2 ha2
        obtain ⟨q2, D2⟩ := D1.setM ha2
        refine ⟨fun b16 G3 ha3 => ?_, ?_⟩
        · obtain ⟨q3, D3⟩ := D2.setA ha3
          exact (jrs D3).mono fun v G4 ⟨p4, c4, q4, hv4, D4⟩ => ⟨_, _, _, hv4, fun b34 G5 ha5 => fin D4 b34 G5 ha5⟩
        · exact (jrs D2).mono fun v G3 ⟨p3, c3, q3, hv3, D3⟩ => ⟨_, _, _, hv3, fun b16 G4 ha4 b34 G5 ha5 => by
            obtain ⟨q4, D4⟩ := D3.setA ha4
            exact fin D4 b34 G5 ha5⟩
      · refine (jrs D1).mono fun v G2 ⟨p2, c2, q2, hv2, D2⟩ => ⟨_, _, _, hv2, ?_, ?_⟩
        · intro b16 G3 ha3 b27 G4 ha4 b34 G5 ha5
          obtain ⟨q3, D3⟩ := D2.setA ha3
          obtain ⟨q4, D4⟩ := D3.setM ha4
          exact fin D4 b34 G5 ha5
        · intro b27 G3 ha3 b16 G4 ha4 b34 G5 ha5
          obtain ⟨q3, D3⟩ := D2.setM ha3
          obtain ⟨q4, D4⟩ := D3.setA ha4
          exact fin D4 b34 G5 ha5

end

end Go.Proofs.Qxb6500695aGreatFmt
