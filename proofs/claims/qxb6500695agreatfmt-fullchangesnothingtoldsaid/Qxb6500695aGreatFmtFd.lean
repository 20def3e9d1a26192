/-
  FORKS: objects and their twins.
-/
import Derived.Test.Qxb6500695aGreatFmtFb
import Derived.Test.Qxb6500695aGreatFmtFc
namespace Go.Proofs.Qxb6500695aGreatFmt
open Go Go.Eng Go.Proofs
set_option maxRecDepth 100000
set_option linter.unusedVariables false
set_option linter.unusedSimpArgs false
set_option linter.unusedSectionVars false

theorem setAll_field {arr : Array Value} {off j : Nat} {vs : List Value} {v : Value} (hc : ∀ i, i < vs.length → arr[off + i]? = vs[i]?) (hj : j < vs.length) (hsz : off + vs.length ≤ arr.size) : setAll arr (off + j) [v] = setAll arr off (vs.set j v) := by
  apply Array.ext_getElem?
  intro i
  rw [setAll_get _ _ _ _ (by simp; omega), setAll_get _ _ _ _ (by rw [List.length_set]; exact hsz), List.length_set]
  simp only [List.length_cons, List.length_nil]
  by_cases h1 : off ≤ i ∧ i < off + vs.length
  · rw [if_pos h1, List.getElem?_set]
    by_cases h2 : i = off + j
    · rw [if_pos (by omega), if_pos (by omega), show i - (off + j) = 0 by omega]
      simp [hj]
    · rw [if_neg (by omega), if_neg (by omega)]
      have := hc (i - off) (by omega)
      rw [← this]
      congr 1
      omega
  · rw [if_neg h1, if_neg (by omega)]

section
variable {H G G' : Heap} {q qq g : Gh} {z k : Int} {ob ss ns bd sb cap pwb cb tr : Nat} {o : Ob} {s : StV}

/-- An object's copy. -/
theorem f137_ht (hg : GOk H g) (hq : GOk H q) (hr : RoIn g q) (h : ObS H g z ob ss ns bd o) (hbd : bd < 2 ^ 32) :
    HT Tryz.prog 137 [.pointer (some ⟨ob, 0, none⟩)] H fun v H' => ∃ ob' q' pb', v = .pointer (some ⟨ob', 0, none⟩) ∧ H ob' = none ∧ Fx H q H' q' ∧ ObS H' q' z ob' ss ns bd { o with pb := pb' } := by
  obtain ⟨sp, sn, sc, h1, h2⟩ := h.ex
  have hnb := h.nb
  have hlen := h2.own.len
  simp at hlen
  apply f137_of
  refine ⟨ob, 0, rfl, _, _, _, _, sp, sn, sc, _, Cells.of h1 rfl, fun b3 H1 ha => ⟨_, _, ha.same, by simp, fun H2 hw2 => ?_⟩⟩
  have hw2' : Wr H1 b3 (.cells #[.int .u64 o.id, .pointer (some ⟨o.pb, 0, none⟩), .int .i64 (o.size : Int), .int .i64 (o.stable : Int), .slice sp sn sc, .int .i64 (o.res : Int)] 166 (0, 0)) H2 := hw2
  obtain ⟨f1, t1⟩ := Fx.al hq ha (11, z)
  have f2 := f1.wr hq ha.fresh hw2'
  have k2 := f2.sub _ _ h1
  have hg2 : GOk H2 g := (Ev.sub (S := fun _ => False) hg f2.sub).ok
  have hp2 := h.pl.sub hg f2.sub
  refine ⟨ob, 0, rfl, _, Cells.of k2 rfl, ?_⟩
  refine (f135_ht hg2 f2.ev.ok (hr.fx f2) hp2 hbd).mono fun v H3 ⟨pb', q3, hv3, hpb0, f3, pl3⟩ => ⟨_, hv3, ?_⟩
  have b3k := f3.sub _ _ hw2'.same
  refine ⟨_, _, b3k, by simp, fun H4 hw4 => ?_⟩
  have hw4' : Wr H3 b3 (.cells #[.int .u64 o.id, .pointer (some ⟨pb', 0, none⟩), .int .i64 (o.size : Int), .int .i64 (o.stable : Int), .slice sp sn sc, .int .i64 (o.res : Int)] 166 (0, 0)) H4 := hw4
  have f23 := f2.trans f3
  have f4 := f23.wr hq ha.fresh hw4'
  have t3 := f3.ev.tag _ _ t1
  have e4 : Ev (fun tg => tg = (11, z)) H3 q3 H4 q3 := Ev.wr f3.ev.ok hw4' fun tg htg => by rw [t3] at htg; cases htg; rfl
  have k4 := f4.sub _ _ h1
  refine ⟨ob, 0, rfl, sp, sn, sc, Cells.of k4 rfl, ?_⟩
  refine (f182_ht (h2.own.sub f4.sub) (by omega)).mono fun v H5 ⟨s5, sp', sc', hv5, hn5, ho5⟩ => ⟨_, _, _, hv5, ?_⟩
  obtain ⟨q5, f5, ot5⟩ := Fx.own f4.ev.ok s5 hn5 ho5 (16, z)
  have b5k := f5.sub _ _ hw4'.same
  refine ⟨_, _, b5k, by simp, fun H6 hw6 => ?_⟩
  have hw6' : Wr H5 b3 (.cells #[.int .u64 o.id, .pointer (some ⟨pb', 0, none⟩), .int .i64 (o.size : Int), .int .i64 (o.stable : Int), .slice sp' sn sc', .int .i64 (o.res : Int)] 166 (0, 0)) H6 := hw6
  have f45 := f4.trans f5
  have f6 := f45.wr hq ha.fresh hw6'
  have t5 := f5.ev.tag _ _ t3
  have e6 : Ev (fun tg => tg = (11, z)) H5 q5 H6 q5 := Ev.wr f5.ev.ok hw6' fun tg htg => by rw [t5] at htg; cases htg; rfl
  have n11 : ∀ {j : Nat} {y : Int}, j ≠ 11 → ¬ ((fun tg : Nat × Int => tg = (11, z)) (j, y)) := fun hj hc => hj (by simp at hc; exact hc.1)
  have sp11 : ∀ tg, SpP z tg → ¬ ((fun tg : Nat × Int => tg = (11, z)) tg) := fun tg ht hc => SpO.n11P ht hc
  have pl6 : PlOk H6 q5 z pb' ss ns bd o.pl := ((pl3.ev e4 (n11 (by decide)) sp11).ev f5.ev (fun h => h) fun _ _ h => h).ev e6 (n11 (by decide)) sp11
  exact ⟨b3, q5, pb', rfl, ha.fresh, f6, t5, ⟨sp', sn, sc', hw6'.same, ot5.ev e6 (n11 (by decide))⟩, pl6, h.nb, h.fit, h.rb⟩

/-- The fork under way: which objects have twins. -/
structure Tw (H : Heap) (q : Gh) (k : Int) (ss cap bd : Nat) (s : StV) (cb tr : Nat) (G : Heap) (qq : Gh) (τ : Nat → Option Nat) : Prop where
  fx : Fx H q G qq
  cb0 : H cb = none
  cbq : qq cb = none
  cbv : G cb = some (.cells #[.map (some tr)] 229 (0, 0))
  tr0 : H tr = none
  trq : qq tr = none
  trv : ∃ es ck, G tr = some (.map es ck) ∧ KeysO H es.toList ∧ ∀ b, oget es.toList b = (τ b).map obV
  ob : ∀ b b', τ b = some b' → b ∈ s.T ∧ ∃ pb', ObS G qq (zO k (s.O b).id) b' ss cap bd { s.O b with pb := pb' }

/-- All but one block stands. -/
def But (G : Heap) (tr : Nat) (G' : Heap) : Prop := ∀ x o, G x = some o → x ≠ tr → G' x = some o

def tset (τ : Nat → Option Nat) (b b' : Nat) : Nat → Option Nat := fun x => if x = b then some b' else τ x

theorem KeysO.mono {es : List MapEntry} (h : KeysO G es) (hk : ∀ b c T, G b = some (.cells c T (0, 0)) → ∃ c T, G' b = some (.cells c T (0, 0))) : KeysO G' es := fun e he => by
  obtain ⟨b, h1, c, T, h2⟩ := h e he
  obtain ⟨c', T', h3⟩ := hk b c T h2
  exact ⟨b, h1, c', T', h3⟩

/-- A twin asked for. -/
theorem f136_ht {τ : Nat → Option Nat} (hg : GOk H g) (hr : RoIn g q) (hq : GOk H q) (hS : StR H g k sb ss cap bd pwb s) (hbd : bd < 2 ^ 32) (h : Tw H q k ss cap bd s cb tr G qq τ) {b : Nat} (hb : b ∈ s.T) :
    HT Tryz.prog 136 [.pointer (oP (some b)), .pointer (some ⟨cb, 0, none⟩)] G fun v G' => ∃ b' qq' τ', v = .pointer (oP (some b')) ∧ Tw H q k ss cap bd s cb tr G' qq' τ' ∧ τ' b = some b' ∧ (∀ a x, τ a = some x → τ' a = some x) ∧ But G tr G' ∧ Ev (fun _ => False) G qq G' qq' ∧ ∀ x o, G x = some o → qq x = none → qq' x = none := by
  obtain ⟨es, ck, t1, t2, t3⟩ := h.trv
  have hgG : GOk G g := (Ev.sub (S := fun _ => False) hg h.fx.sub).ok
  have hO := (hS.obs b hb).ev (Ev.sub (S := fun _ => False) hg h.fx.sub) (fun h => h) fun _ _ h => h
  obtain ⟨sp, sn, sc, ho, _⟩ := hO.ex
  have hbc : IsC G b := ⟨_, _, ho⟩
  apply f136_of
  refine ⟨_, binIs_ptr_eql Tryz.underlying152, (fun h => by cases h), fun _ => ⟨_, Cells.of h.cbv rfl, ?_⟩⟩
  obtain ⟨_, _, _, hoH, _⟩ := (hS.obs b hb).ex
  have hbH : IsC H b := ⟨_, _, hoH⟩
  refine semOk_lookO t1 hbc (t2.mono fun x c T hx => ⟨c, T, h.fx.sub _ _ hx⟩) ?_
  rw [t3]
  cases hτ : τ b with
  | some b' => exact ⟨some ⟨b', 0, none⟩, true, rfl, (fun h => by cases h), fun _ => by
      apply f136_L1_of
      exact ⟨b', qq, τ, rfl, h, hτ, fun _ _ hx => hx, fun _ _ hx _ => hx, Ev.refl h.fx.ev.ok, fun _ _ _ hx => hx⟩⟩
  | none =>
    refine ⟨none, false, rfl, fun _ => ?_, (fun h => by cases h)⟩
    refine (f137_ht hgG h.fx.ev.ok (hr.fx h.fx) hO hbd).mono fun v G1 ⟨b', q1, pb', hv1, hb0, f1, O1⟩ => ⟨_, hv1, _, Cells.of (f1.sub _ _ h.cbv) rfl, ?_⟩
    have t11 := f1.sub _ _ t1
    have hk1 : KeysO G1 es.toList := t2.mono fun x c T hx => ⟨c, T, f1.sub _ _ (h.fx.sub _ _ hx)⟩
    have hbc1 : IsC G1 b := ⟨_, _, f1.sub _ _ ho⟩
    have hno : oget es.toList b = none := by rw [t3, hτ]; rfl
    refine semOk_putO t11 hbc1 hk1 hno fun G2 hw2 => ?_
    apply f136_L1_of
    have trq1 : q1 tr = none := by
      cases hc : q1 tr with
      | none => rfl
      | some t =>
        rcases f1.new tr t hc with hx | hx
        · rw [h.trq] at hx; cases hx
        · rw [t1] at hx; cases hx
    have cbq1 : q1 cb = none := by
      cases hc : q1 cb with
      | none => rfl
      | some t =>
        rcases f1.new cb t hc with hx | hx
        · rw [h.cbq] at hx; cases hx
        · rw [h.cbv] at hx; cases hx
    have hct : cb ≠ tr := fun hc => by have := h.cbv; rw [hc, t1] at this; cases this
    have e2 : Ev (fun _ => False) G1 q1 G2 q1 := Ev.untag f1.ev.ok trq1 fun x hx => hw2.other hx
    refine ⟨b', q1, tset τ b b', rfl, ⟨(h.fx.trans f1).wr hq h.tr0 hw2, h.cb0, cbq1, hw2.keep (f1.sub _ _ h.cbv) hct, h.tr0, trq1, ⟨_, _, hw2.same, fun e he => ?_, fun x => ?_⟩, fun a x hax => ?_⟩, by simp [tset], fun a x hax => ?_, fun x o hx hne => hw2.keep (f1.sub x o hx) hne, f1.ev.trans e2, fun x o hx hxq => ?_⟩
    · simp at he
      rcases he with he | rfl
      · exact t2 e (by simpa using he)
      · exact ⟨b, rfl, hbH⟩
    · rw [oget_push _ _ _ _ _ hno, t3]
      unfold tset
      split <;> rfl
    · unfold tset at hax
      split at hax
      · rename_i hab
        subst hab
        cases hax
        exact ⟨hb, pb', O1.ev e2 (fun h => h) fun _ _ h => h⟩
      · obtain ⟨h1, pbx, h2⟩ := h.ob a x hax
        exact ⟨h1, pbx, (h2.ev f1.ev (fun h => h) fun _ _ h => h).ev e2 (fun h => h) fun _ _ h => h⟩
    · unfold tset
      split
      · rename_i hab
        subst hab
        rw [hτ] at hax; cases hax
      · exact hax
    · cases hc : q1 x with
      | none => rfl
      | some t =>
        rcases f1.new x t hc with hy | hy
        · rw [hxq] at hy; cases hy
        · rw [hx] at hy; cases hy

theorem Tw.step {τ : Nat → Option Nat} {G1 : Heap} {q1 : Gh} (h : Tw H q k ss cap bd s cb tr G qq τ) (f : Fx G qq G1 q1) : Tw H q k ss cap bd s cb tr G1 q1 τ := by
  obtain ⟨es, ck, t1, t2, t3⟩ := h.trv
  have none_of : ∀ {x : Nat} {o : Obj}, qq x = none → G x = some o → q1 x = none := fun {x o} hx ho => by
    cases hc : q1 x with
    | none => rfl
    | some t =>
      rcases f.new x t hc with hy | hy
      · rw [hx] at hy; cases hy
      · rw [ho] at hy; cases hy
  exact ⟨h.fx.trans f, h.cb0, none_of h.cbq h.cbv, f.sub _ _ h.cbv, h.tr0, none_of h.trq t1, ⟨es, ck, f.sub _ _ t1, t2, t3⟩, fun b b' hb => let ⟨h1, pb', h2⟩ := h.ob b b' hb; ⟨h1, pb', h2.ev f.ev (fun h => h) fun _ _ h => h⟩⟩

/-- A new block turned. -/
theorem Tw.upd {S : Nat × Int → Prop} {τ : Nat → Option Nat} {G1 : Heap} {x : Nat} {o : Obj} (hq : GOk H q) (h : Tw H q k ss cap bd s cb tr G qq τ) (hx0 : H x = none) (hxc : x ≠ cb) (hxt : x ≠ tr) (hw : Wr G x o G1) (ev : Ev S G qq G1 qq) (h0 : ¬ S (0, 0)) (ho : ∀ z tg, SpO z tg → ¬ S tg) : Tw H q k ss cap bd s cb tr G1 qq τ := by
  obtain ⟨es, ck, t1, t2, t3⟩ := h.trv
  exact ⟨h.fx.wr hq hx0 hw, h.cb0, h.cbq, hw.keep h.cbv (Ne.symm hxc), h.tr0, h.trq, ⟨es, ck, hw.keep t1 (Ne.symm hxt), t2, t3⟩, fun b b' hb => let ⟨h1, pb', h2⟩ := h.ob b b' hb; ⟨h1, pb', h2.ev ev h0 (ho _)⟩⟩

/-- No twin of no object. -/
theorem f136_nil : HT Tryz.prog 136 [.pointer (oP none), .pointer (some ⟨cb, 0, none⟩)] G fun v G' => v = .pointer (oP none) ∧ G' = G := by
  apply f136_of
  exact ⟨_, binIs_ptr_eql Tryz.underlying152, fun _ => ⟨rfl, rfl⟩, (fun h => by cases h)⟩

end

end Go.Proofs.Qxb6500695aGreatFmt
