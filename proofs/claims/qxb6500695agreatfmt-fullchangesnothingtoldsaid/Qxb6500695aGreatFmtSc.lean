/-
  THE STORE, PART C: reserve, put.
-/
import Derived.Test.Qxb6500695aGreatFmtSb
namespace Go.Proofs.Qxb6500695aGreatFmt
open Go Go.Eng Go.Proofs
set_option maxRecDepth 100000
set_option linter.unusedVariables false
set_option linter.unusedSimpArgs false
set_option linter.unusedSectionVars false

/-- Room taken for an object to reach a size. -/
def resv (ss cap : Nat) (s : StV) (b size : Nat) : Option StV :=
  if sect ss size ≤ (s.O b).res then some s
  else if (sect ss size : Int) - ((s.O b).res : Int) > (cap : Int) - s.used then none
  else some { s with used := s.used + ((sect ss size : Int) - ((s.O b).res : Int)), O := oset s.O b { s.O b with res := sect ss size } }

/-- A write's part that is done to the object. -/
def wrOb (ss : Nat) (o : Ob) (off : Nat) (src : List Int) : Ob :=
  if off + src.length > o.size then ({ o with pl := wrF ss src.length o.pl off src } : Ob).setSize (off + src.length) else { o with pl := wrF ss src.length o.pl off src }

/-- A write, as it is meant. -/
def putF (ss cap : Nat) (s : StV) (b off : Nat) (src : List Int) : Option StV :=
  if src = [] then some s else if off + src.length > cap * ss then none
  else match resv ss cap s b (off + src.length) with
    | none => none
    | some s1 => some { s1 with O := oset s1.O b (wrOb ss (s1.O b) off src) }

/-- What is known of the numbers. -/
structure StN (ss cap bd : Nat) (s : StV) : Prop where
  shp : 0 < ss ∧ ss ≤ 16 ∧ cap ≤ 12
  used : 0 ≤ s.used ∧ s.used ≤ (cap : Int)
  ids : (s.T.map fun b => (s.O b).id).Nodup
  pos : ∀ b ∈ s.T, 0 ≤ (s.O b).id
  bd : bd < 2 ^ 31
  nxt : s.nxt < 2 ^ 31

section
variable {S : Nat × Int → Prop} {H H' : Heap} {g g' : Gh} {k : Int} {sb ss cap bd pwb : Nat} {s : StV} {E : Nat → Value}

theorem ObS.setRes {z : Int} {ob ns res' : Nat} {o : Ob} {sp : Option Addr} {sn sc : Nat} (hg : GOk H g) (h : ObS H g z ob ss ns bd o) (h2 : OwnT H g (16, z) 2 1 I64.cs sp sn sc (o.sizes.map nI))
    (hw : Wr H ob (.cells #[.int .u64 o.id, .pointer (some ⟨o.pb, 0, none⟩), .int .i64 (o.size : Int), .int .i64 (o.stable : Int), .slice sp sn sc, .int .i64 (res' : Int)] 166 (0, 0)) H') (hr : res' ≤ ns) : Ev (fun tg => tg = (11, z)) H g H' g ∧ ObS H' g z ob ss ns bd { o with res := res' } := by
  have e : Ev (fun tg => tg = (11, z)) H g H' g := Ev.wr hg hw fun tg htg => by rw [h.tag] at htg; cases htg; rfl
  exact ⟨e, h.tag, ⟨sp, sn, sc, hw.same, h2.ev e (fun hc => by cases hc)⟩, h.pl.ev e (fun hc => by cases hc) fun _ ht => SpO.n11P ht, h.nb, h.fit, hr⟩

theorem f123_ht (hg : GOk H g) (hG : Gl H g E) (h : StR H g k sb ss cap bd pwb s) (hN : StN ss cap bd s) {b size : Nat} (hb : b ∈ s.T) (hsz : size ≤ cap * ss) :
    HT Tryz.prog 123 [.pointer (some ⟨sb, 0, none⟩), .pointer (some ⟨b, 0, none⟩), .int .i64 (size : Int)] H fun v H' => ∃ s', Ev (SpI k) H g H' g ∧ StR H' g k sb ss cap bd pwb s' ∧ ((v = .nilIface ∧ resv ss cap s b size = some s') ∨ (v = E 1 ∧ resv ss cap s b size = none ∧ s' = s)) := by
  obtain ⟨db, q, h1, hd⟩ := h.ex
  have hO := h.obs b hb
  obtain ⟨sp, sn, sc, o1, o2⟩ := hO.ex
  have hm : cap * ss ≤ 12 * 16 := Nat.mul_le_mul hN.shp.2.2 hN.shp.2.1
  have hsl := sect_le hN.shp.1 hsz
  have hcl := hN.shp.2.2
  have hrb := hO.rb
  have hu := hN.used
  apply f123_of
  refine ⟨sb, 0, rfl, _, Cells.of h1 rfl, b, 0, rfl, _, Cells.of o1 rfl, ?_⟩
  refine (f176_ht ⟨hN.shp.1, hN.shp.2.1⟩ (by omega)).mono fun v H1 ⟨he, hv⟩ => ⟨_, hv, ?_⟩
  subst he
  have hw1 : IntKind.wrap .i64 ((sect ss size : Int) - ((s.O b).res : Int)) = (sect ss size : Int) - ((s.O b).res : Int) := by rw [wrapI] <;> omega
  have hw2 : IntKind.wrap .i64 ((cap : Int) - s.used) = (cap : Int) - s.used := by rw [wrapI] <;> omega
  refine ⟨Cells.of o1 rfl, fun hd1 => ?_, fun hd1 => ?_⟩
  · rw [hw1] at hd1
    have hd1 := of_decide_eq_true hd1
    refine ⟨s, Ev.refl hg, h, .inl ⟨rfl, ?_⟩⟩
    unfold resv
    rw [if_pos (by omega)]
  · rw [hw1] at hd1
    have hd1 := of_decide_eq_false hd1
    refine ⟨sb, 0, rfl, _, Cells.of h1 rfl, sb, 0, rfl, _, Cells.of h1 rfl, fun hd2 => ?_, fun hd2 => ?_⟩
    · rw [hw1, hw2] at hd2
      have hd2 := of_decide_eq_true hd2
      refine ⟨sb, 0, rfl, _, Cells.of h1 rfl, sb, 0, rfl, _, _, h1, by simp, fun H2 hw => ?_⟩
      obtain ⟨e2, r2⟩ := h.own (used' := s.used) (nxt' := s.nxt) (q' := { q with h := IntKind.wrap .u64 (q.h + 1) }) hg hd hw rfl
      obtain ⟨t, x, he, hc⟩ := (hG.ev e2 (fun hc => by cases hc)).get 1 (by decide) (by decide)
      refine ⟨t, x, hc, s, e2.mono fun tg h => SpI.st h, r2, .inr ⟨he.symm, ?_, rfl⟩⟩
      unfold resv
      rw [if_neg (by omega), if_pos (by omega)]
    · rw [hw1, hw2] at hd2
      have hd2 := of_decide_eq_false hd2
      refine ⟨sb, 0, rfl, _, Cells.of h1 rfl, sb, 0, rfl, _, _, h1, by simp, fun H2 hw => ?_⟩
      have hw3 : IntKind.wrap .i64 (s.used + ((sect ss size : Int) - ((s.O b).res : Int))) = s.used + ((sect ss size : Int) - ((s.O b).res : Int)) := by rw [wrapI] <;> omega
      obtain ⟨e2, r2⟩ := h.own (used' := s.used + ((sect ss size : Int) - ((s.O b).res : Int))) (nxt' := s.nxt) (q' := q) hg hd hw (by rw [hw1, hw3]; rfl)
      have o12 := e2.get hO.tag (fun hc => by cases hc) o1
      have hO2 := r2.obs b hb
      have o22 := o2.ev e2 (fun hc => by cases hc)
      refine ⟨b, 0, rfl, _, Cells.of o12 rfl, b, 0, rfl, _, _, o12, by simp, fun H3 hw4 => ?_⟩
      have hw5 : IntKind.wrap .i64 (((s.O b).res : Int) + ((sect ss size : Int) - ((s.O b).res : Int))) = (sect ss size : Int) := by rw [wrapI] <;> omega
      rw [hw1, hw5] at hw4
      obtain ⟨e3, O3⟩ := ObS.setRes (res' := sect ss size) e2.ok hO2 o22 hw4 hsl
      have r3 := r2.obj (b := b) hN.ids hb e3 (fun tg h => .inl (.inl h)) O3 rfl (Nat.le_refl _)
      refine ⟨_, (e2.mono fun tg h => SpI.st h).trans (e3.mono fun tg h => SpI.obj (hN.pos b hb) (.inl h)), r3, .inl ⟨rfl, ?_⟩⟩
      unfold resv
      rw [if_neg (by omega), if_neg (by omega)]

theorem resv_some {b size : Nat} {s' : StV} (h : resv ss cap s b size = some s') : s'.T = s.T ∧ s'.m = s.m ∧ s'.xs = s.xs ∧ s'.st = s.st ∧ s'.jr = s.jr ∧ s'.nxt = s.nxt ∧ (∀ x, (s'.O x).id = (s.O x).id) ∧ (∀ x, (s'.O x).pb = (s.O x).pb) := by
  unfold resv at h
  split at h
  · cases h; exact ⟨rfl, rfl, rfl, rfl, rfl, rfl, fun _ => rfl, fun _ => rfl⟩
  · split at h
    · cases h
    · cases h
      refine ⟨rfl, rfl, rfl, rfl, rfl, rfl, fun x => ?_, fun x => ?_⟩
      all_goals
        simp only [oset]
        split
        · rename_i hx; rw [hx]
        · rfl

theorem StN.same {s' : StV} (h : StN ss cap bd s) (hT : s'.T = s.T) (hid : ∀ x, (s'.O x).id = (s.O x).id) (hn : s'.nxt = s.nxt) (hu : 0 ≤ s'.used ∧ s'.used ≤ (cap : Int)) : StN ss cap bd s' := by
  have : (s'.T.map fun b => (s'.O b).id) = s.T.map fun b => (s.O b).id := by
    rw [hT]
    exact List.map_congr_left fun x _ => hid x
  exact ⟨h.shp, hu, by rw [this]; exact h.ids, fun b hb => by rw [hid]; exact h.pos b (by rw [← hT]; exact hb), h.bd, by rw [hn]; exact h.nxt⟩

theorem resv_used {b size : Nat} {s' : StV} (hu : 0 ≤ s.used ∧ s.used ≤ (cap : Int)) (h : resv ss cap s b size = some s') : 0 ≤ s'.used ∧ s'.used ≤ (cap : Int) := by
  unfold resv at h
  split at h
  · cases h; exact hu
  · split at h
    · cases h
    · cases h
      simp only
      omega

theorem isI_E (hG : Gl H g E) (b : Nat) (hb : b < 9) (h5 : b ≠ 5) : IsI (E b) ∧ isNil (E b) = false := by
  obtain ⟨t, x, he, _⟩ := hG.get b hb h5
  rw [he]
  exact ⟨.inr ⟨t, x, rfl⟩, rfl⟩

theorem f122_ht (hg : GOk H g) (hG : Gl H g E) (h : StR H g k sb ss cap bd pwb s) (hN : StN ss cap bd s) {b off n c : Nat} {p : Option Addr} {src : List Int} (hb : b ∈ s.T) (hsrc : Src H p n c src) (ht : ∀ a, p = some a → 0 < n → g a.block = some (0, 0)) (hoff : off < 2 ^ 63) (hn : n < 2 ^ 32) :
    HT Tryz.prog 122 [.pointer (some ⟨sb, 0, none⟩), .pointer (some ⟨b, 0, none⟩), .slice p n c, .int .i64 (off : Int)] H fun v H' => ∃ s' g', Ev (SpI k) H g H' g' ∧ StR H' g' k sb ss cap (bd + 16) pwb s' ∧ ((v = .nilIface ∧ putF ss cap s b off src = some s') ∨ (v = E 1 ∧ putF ss cap s b off src = none ∧ s' = s)) := by
  obtain ⟨db, q, h1, hd⟩ := h.ex
  have hlen := hsrc.len
  have hm : cap * ss ≤ 12 * 16 := Nat.mul_le_mul hN.shp.2.2 hN.shp.2.1
  have hcl := hN.shp.2.2
  have hbdl := hN.bd
  apply f122_of
  refine ⟨fun h0 => ?_, fun h0 => ?_⟩
  · have h0' : src = [] := List.eq_nil_of_length_eq_zero (by have := beq_iff_eq.1 h0; omega)
    refine ⟨s, g, Ev.refl hg, h.mono (Nat.le_add_right _ _), .inl ⟨rfl, ?_⟩⟩
    unfold putF
    rw [if_pos h0']
  · have hne : src ≠ [] := by
      intro hc
      rw [hc] at hlen
      simp at hlen
      rw [hlen] at h0
      simp at h0
    have hput : putF ss cap s b off src = if off + src.length > cap * ss then none else match resv ss cap s b (off + src.length) with
        | none => none
        | some s1 => some { s1 with O := oset s1.O b (wrOb ss (s1.O b) off src) } := by
      unfold putF
      rw [if_neg hne]
    refine (f101_ht h hN.shp.2).mono fun v H1 ⟨he, hv⟩ => ⟨_, hv, ?_⟩
    subst he
    have hw1 : IntKind.wrap .i64 (((cap * ss : Nat) : Int) - (n : Int)) = ((cap * ss : Nat) : Int) - (n : Int) := by rw [wrapI] <;> omega
    refine ⟨fun hd1 => ?_, fun hd1 => ?_⟩
    · rw [hw1] at hd1
      have hd1 := of_decide_eq_true hd1
      refine ⟨sb, 0, rfl, _, Cells.of h1 rfl, sb, 0, rfl, _, _, h1, by simp, fun H2 hw => ?_⟩
      obtain ⟨e2, r2⟩ := h.own (used' := s.used) (nxt' := s.nxt) (q' := { q with h := IntKind.wrap .u64 (q.h + 1) }) hg hd hw rfl
      obtain ⟨t, x, he, hc⟩ := (hG.ev e2 (fun hc => by cases hc)).get 1 (by decide) (by decide)
      refine ⟨t, x, hc, s, g, e2.mono fun tg h => SpI.st h, r2.mono (Nat.le_add_right _ _), .inr ⟨he.symm, ?_, rfl⟩⟩
      rw [hput, if_pos (by omega)]
    · rw [hw1] at hd1
      have hd1 := of_decide_eq_false hd1
      have hfit : off + n ≤ cap * ss := by omega
      have hw2 : IntKind.wrap .i64 ((off : Int) + (n : Int)) = ((off + n : Nat) : Int) := by rw [wrapI] <;> omega
      rw [hw2]
      rw [if_neg (by omega), ← hlen] at hput
      refine (f123_ht hg hG h hN hb hfit).mono fun v H2 ⟨s1, e2, r2, hor⟩ => ⟨_, rfl, ?_⟩
      rcases hor with ⟨hv, hs1⟩ | ⟨hv, hs1, hss⟩
      · subst hv
        refine ⟨_, binIs_if_neq (.inl rfl) Tryz.underlying48, (fun h => by cases h), fun _ => ?_⟩
        rw [hs1] at hput
        simp only at hput
        obtain ⟨a1, a2, a3, a4, a5, a6, a7, a8⟩ := resv_some hs1
        have hN1 := hN.same a1 a7 a6 (resv_used hN.used hs1)
        have hb1 : b ∈ s1.T := by rw [a1]; exact hb
        obtain ⟨db1, q1, k1, kd1⟩ := r2.ex
        have hO := r2.obs b hb1
        obtain ⟨sp, sn, sc, o1, o2⟩ := hO.ex
        have hsrc2 : Src H2 p n c src := by
          refine ⟨hsrc.len, hsrc.nc, ?_⟩
          rcases hsrc.row with hr | ⟨b', o', hp, hc⟩
          · exact .inl hr
          · rcases Nat.eq_zero_or_pos n with h0 | h0
            · exact .inl (List.length_eq_zero_iff.1 (hsrc.len.symm.trans h0))
            · exact .inr ⟨b', o', hp, Cells.ev hc (ht _ hp h0) e2 SpI.zero⟩
        refine ⟨sb, 0, rfl, _, Cells.of k1 rfl, b, 0, rfl, _, Cells.of o1 rfl, ?_⟩
        refine (f118_ht e2.ok hO.pl (by omega) hsrc2 (fun a ha h0 => e2.tag _ _ (ht a ha h0)) hfit).mono fun v H3 ⟨g3, mm, hv3, e3, p3⟩ => ⟨_, hv3, ?_⟩
        have O3 := hO.plane e3 p3 (by omega)
        have r3 := r2.obj (b := b) (bd' := bd + cap + 1) hN1.ids hb1 e3 (fun tg h => .inl (.inr (.inr h))) O3 rfl (by omega)
        have n20 : ¬ SpP (zO k (s1.O b).id) (20, k) := fun h => by rcases h.2 with h | h | h | h | h <;> simp at h
        have k3 := e3.get r2.tag n20 k1
        have kd3 : DirR H3 g3 k db1 s1.m s1.xs s1.st s1.jr := kd1.ev e3 fun tg ht hc => by
          have := ht.2
          rcases hc.2 with h | h | h | h | h <;> omega
        refine ⟨Cells.of k3 rfl, sb, 0, rfl, _, _, k3, by simp, fun H4 hw4 => ?_⟩
        obtain ⟨e4, r4⟩ := r3.own (used' := s1.used) (nxt' := s1.nxt) (q' := { q1 with c := IntKind.wrap .u64 (q1.c + IntKind.wrap .u64 mm) }) e3.ok kd3 hw4 rfl
        have k4 : H4 sb = some (stB ss cap s1.used s1.nxt db1 pwb { q1 with c := IntKind.wrap .u64 (q1.c + IntKind.wrap .u64 mm) }) := hw4.same
        have kd4 := kd3.ev e4 fun tg ht hc => by rw [hc] at ht; have := ht.2.1; simp at this
        refine ⟨sb, 0, rfl, _, Cells.of k4 rfl, sb, 0, rfl, _, _, k4, by simp, fun H5 hw5 => ?_⟩
        obtain ⟨e5, r5⟩ := r4.own (used' := s1.used) (nxt' := s1.nxt) (q' := { q1 with c := IntKind.wrap .u64 (q1.c + IntKind.wrap .u64 mm), b := IntKind.wrap .u64 (q1.b + 1) }) e4.ok kd4 hw5 rfl
        have hEv : Ev (SpI k) H1 g H5 g3 := ((e2.trans (e3.mono fun tg h => SpI.obj (hN1.pos b hb1) (.inr (.inr h)))).trans (e4.mono fun tg h => SpI.st h)).trans (e5.mono fun tg h => SpI.st h)
        have O5 := r5.obs b hb1
        have hO5 : oset s1.O b { s1.O b with pl := wrF ss n (s1.O b).pl off src } b = { s1.O b with pl := wrF ss n (s1.O b).pl off src } := by simp [oset]
        obtain ⟨sp5, sn5, sc5, o15, o25⟩ := O5.ex
        simp only [hO5] at O5 o15 o25
        refine ⟨b, 0, rfl, _, Cells.of o15 rfl, fun hg5 => ?_, fun hg5 => ?_⟩
        · have hg5 := of_decide_eq_true hg5
          refine (f125_ht e5.ok O5 (by omega) (s := off + n) hfit).mono fun v H6 ⟨g6, hv6, e6, O6⟩ => ⟨hv6, ?_⟩
          apply f122_L1_of
          have hids5 : (s1.T.map fun x => (oset s1.O b { s1.O b with pl := wrF ss n (s1.O b).pl off src } x).id).Nodup := by
            have : (s1.T.map fun x => (oset s1.O b { s1.O b with pl := wrF ss n (s1.O b).pl off src } x).id) = s1.T.map fun x => (s1.O x).id := by
              refine List.map_congr_left fun x _ => ?_
              simp only [oset]
              split
              · rename_i hx; rw [hx]
              · rfl
            rw [this]; exact hN1.ids
          have r6 := r5.obj (b := b) (bd' := bd + cap + 1 + 1) hids5 hb1 e6 (fun tg h => .inl (by simp only [hO5]; exact h)) (by simp only [hO5]; exact O6) (by simp only [hO5]; unfold Ob.setSize; split <;> rfl) (by omega)
          refine ⟨_, g6, hEv.trans (e6.mono fun tg h => SpI.obj (hN1.pos b hb1) h), r6.mono (by omega), .inl ⟨rfl, ?_⟩⟩
          rw [hput]
          congr 2
          unfold wrOb
          rw [← hlen, if_pos (by omega)]
          funext x
          simp only [oset]
          split <;> rfl
        · have hg5 := of_decide_eq_false hg5
          apply f122_L1_of
          refine ⟨_, g3, hEv, r5.mono (by omega), .inl ⟨rfl, ?_⟩⟩
          rw [hput]
          congr 2
          unfold wrOb
          rw [← hlen, if_neg (by omega)]
      · obtain ⟨hI, hnil⟩ := isI_E hG 1 (by decide) (by decide)
        subst hv
        refine ⟨_, binIs_if_neq hI Tryz.underlying48, fun _ => ?_, (fun h => by rw [hnil] at h; cases h)⟩
        refine ⟨s1, g, e2, r2.mono (Nat.le_add_right _ _), .inr ⟨rfl, ?_, hss⟩⟩
        rw [hput, hs1]

end

end Go.Proofs.Qxb6500695aGreatFmt
