/-
  objectsSettled: THE SECTORS OF AN OBJECT.
-/
import Derived.Test.Qxb6500695aGreatFmtKk
namespace Go.Proofs.Qxb6500695aGreatFmt
open Go Go.Eng Go.Proofs
set_option maxRecDepth 100000
set_option linter.unusedVariables false
set_option linter.unusedSimpArgs false
set_option linter.unusedSectionVars false

section
variable {S : Nat × Int → Prop} {H H' : Heap} {g g' : Gh} {k mb wb sb ss cap bd pwb bk cn : Nat} {E : Nat → Value} {P : Pw} {s : StV} {B : Int → Option Bk} {tr : List Ask} {M M' : Plc → Prop}
variable {nm : ByteArray} {ob fb : Nat} {i2 i3 : Int} {x34 : Option Addr} {x34n x34c : Nat} {x35 x36 : Int} {R : Value → Heap → Prop} {x : Bk}

/-- A past, where its map is known. -/
theorem PsR.at {e : Int} {pb ns sn sc r ck : Nat} {sp : Option Addr} {es : Array MapEntry} {zs : List Nat} {C : Int → List Sv} (h : PsR H g e pb ss ns bd zs C) (hp : H pb = some (.cells #[.slice sp sn sc, .map (some r)] 63 (0, 0))) :
    OwnT H g (16, e) 2 1 I64.cs sp sn sc (zs.map nI) ∧ PsM H g e r ss ns bd C fun _ => True := by
  obtain ⟨sp', sn', sc', r', q1, q2, q3⟩ := h.ex
  rw [hp] at q1
  simp only [Option.some.injEq, Obj.cells.injEq] at q1
  obtain ⟨q1, _, _⟩ := q1
  have qq : sp = sp' ∧ sn = sn' ∧ sc = sc' ∧ r = r' := by
    simp at q1
    exact ⟨q1.1.1, q1.1.2.1, q1.1.2.2, q1.2⟩
  obtain ⟨rfl, rfl, rfl, rfl⟩ := qq
  exact ⟨q2, q3⟩

theorem PsM.at {e : Int} {r ns ck : Nat} {es : Array MapEntry} {C : Int → List Sv} (h : PsM H g e r ss ns bd C fun _ => True) (hr : H r = some (.map es ck)) : MapOk .i64 es ck ∧ (∀ en ∈ es.toList, CacheE H g e ss ns bd en C) ∧ ∀ i, iget es.toList i = none → C i = [] := by
  obtain ⟨_, es', ck', q1, q2, q3, q4⟩ := h
  rw [hr] at q1
  simp only [Option.some.injEq, Obj.map.injEq] at q1
  obtain ⟨rfl, rfl⟩ := q1
  exact ⟨q2, fun en hen => q3 en hen trivial, q4⟩

theorem PsM.weaken {e : Int} {r ns : Nat} {C : Int → List Sv} {D : Int → Prop} (h : PsM H g e r ss ns bd C fun _ => True) : PsM H g e r ss ns bd C D := by
  obtain ⟨q0, es', ck', q1, q2, q3, q4⟩ := h
  exact ⟨q0, es', ck', q1, q2, fun en hen _ => q3 en hen trivial, q4⟩

/-- The fresh past so far. -/
def freT (ss : Nat) (o : Ob) (ks : List Int) : Int → List Sv := fun j => if j ∈ ks then [some (secNow ss o j.toNat)] else []

theorem f28_L4_ht {H0 : Heap} {g0 : Gh} {M0 : Plc → Prop} {kk : Nat} {ch : Int → Nat} {es : Array MapEntry} {ck r ib sn sc : Nat} {sp : Option Addr} (hN : StN ss cap bd s) (hmT : ∀ x b, s.m x = some b → b ∈ s.T) (hup : P.down = false) (hf : fnd s nm = some ob) (hx : B (s.O ob).id = some x) (hbk : bk < 2 ^ 31) (hbk1 : 1 ≤ bk) (hcr : Cr1 ss tr (s.O ob) x.zs x.C kk ch)
    (hnext : ∀ H' g' M', Ev (S28 k cn) H0 g0 H' g' → Cx H' g' k mb wb sb ss cap bd pwb bk (cn + 1) E P s (Bset B (s.O ob).id ⟨fb, cn, [(s.O ob).size], resC ss (s.O ob) x.C⟩) tr M' → (∀ q, M' q ↔ (M0 q ∨ ∃ i : Nat, x.C (i : Int) ≠ [] ∧ q = (3, (s.O ob).id, (i : Int)) ∧ lastA tr q ≠ none)) → f28_L10 (some ⟨sb, 0, none⟩) (some mb) (some ⟨wb, 0, none⟩) (ss : Int) x34 x34n x34c x35 x36 H' R) :
    ∀ (d : Nat) (H : Heap) (g : Gh) (M : Plc → Prop) (seen : Array Nat) (vs : List MapEntry), es.size - vs.length = d → Ev (S28 k cn) H0 g0 H g → Cx H g k mb wb sb ss cap bd pwb bk cn E P s B tr M → PsR H g (cd k cn) fb ss cap bk [(s.O ob).size] (freT ss (s.O ob) (vs.map fun e => keyN e.key)) →
      H x.pb = some (.cells #[.slice sp sn sc, .map (some r)] 63 (0, 0)) → H r = some (.map es ck) → g ib = some (51, 0) → H ib = some (.mapIter (some r) ck seen ck) → Met es seen vs → (∀ q, M q ↔ (M0 q ∨ ∃ e ∈ vs, q = (3, (s.O ob).id, keyN e.key) ∧ lastA tr q ≠ none)) →
      f28_L4 (some ⟨sb, 0, none⟩) (some mb) (some ⟨wb, 0, none⟩) (ss : Int) nm (s.O ob).id ((s.O ob).size : Int) i2 i3 (some ⟨x.pb, 0, none⟩) (some ⟨fb, 0, none⟩) x34 x34n x34c x35 x36 (some ⟨ib, 0, none⟩) H R := by
  have hss := hN.shp
  have hm : cap * ss ≤ 12 * 16 := Nat.mul_le_mul hss.2.2 hss.2.1
  intro d
  induction d using Nat.strongRecOn with
  | ind d ih =>
  intro H g M seen vs hd e0 hC hF hp hr tib hib hmet hM
  have hxc : x.c < cn := hC.B.lt _ _ hx
  have hPs := hC.B.ps _ _ hx
  obtain ⟨_, hPm⟩ := hPs.at (es := es) (ck := ck) hp
  have tr14 : g r = some (14, cd k x.c) := hPm.1
  obtain ⟨hok, hce, hnone⟩ := hPm.at hr
  have hfs := (hC.R.obs ob (fnd_T hmT hf)).fit.1
  have nne : cd k x.c ≠ cd k cn := fun hc => by have := cd_inj hc; omega
  apply f28_L4_of
  refine semOk_next hib hr hok (fun hall => .inl ⟨rfl, ?_⟩) fun en hen hns H1 hw1 => .inr ⟨en.key, en.val, rfl, ?_⟩
  · -- all has been met
    apply f28_L5_of
    refine ⟨(fun h => by cases h), fun _ => ?_⟩
    have hperm := hmet.perm hok.2.2.2 hall
    have hkeys : ∀ j : Int, j ∈ vs.map (fun e => keyN e.key) ↔ x.C j ≠ [] := by
      intro j
      constructor
      · intro hj
        obtain ⟨e1, h1, h2⟩ := List.mem_map.1 hj
        have := (hce e1 (hmet.mem e1 h1)).2.2.2.1
        rw [h2] at this
        exact List.length_pos_iff.1 this
      · intro hj
        cases hg : iget es.toList j with
        | none => exact absurd (hnone j hg) hj
        | some v =>
          obtain ⟨e1, h1, h2, _⟩ := iget_mem hg
          exact List.mem_map.2 ⟨e1, hperm.mem_iff.2 h1, h2⟩
    have hfr : freT ss (s.O ob) (vs.map fun e => keyN e.key) = resC ss (s.O ob) x.C := by
      funext j
      unfold freT resC
      by_cases hj : x.C j = []
      · rw [if_neg (fun hc => (hkeys j).1 hc hj), if_pos hj]
      · rw [if_pos ((hkeys j).2 hj), if_neg hj]
    rw [hfr] at hF
    refine f28_L8_ht (Cf := resC ss (s.O ob) x.C) (M := M) hN hmT hup hf hx hbk hcr.un (fun H' g' e1 c1 => hnext H' g' M e1 c1 fun q => ?_) _ 0 H g rfl (.inl rfl) e0 hC hF
    rw [hM]
    constructor
    · rintro (h | ⟨e1, h1, h2, h3⟩)
      · exact .inl h
      · have hk1 := (hce e1 (hmet.mem e1 h1)).1
        refine .inr ⟨(keyN e1.key).toNat, ?_, ?_, h3⟩
        · rw [Int.toNat_of_nonneg hk1]
          exact (hkeys _).1 (List.mem_map.2 ⟨e1, h1, rfl⟩)
        · rw [Int.toNat_of_nonneg hk1]; exact h2
    · rintro (h | ⟨i, h1, h2, h3⟩)
      · exact .inl h
      · obtain ⟨e1, h4, h5⟩ := List.mem_map.1 ((hkeys _).2 h1)
        exact .inr ⟨e1, h4, by rw [h2, h5], h3⟩
  · -- one more
    have e1 : Ev (fun tg => tg = (51, 0)) H g H1 g := Ev.wr e0.ok hw1 fun tg htg => by rw [tib] at htg; cases htg; rfl
    have n51 : ∀ {j : Nat} {z : Int}, j ≠ 51 → ¬ ((fun tg : Nat × Int => tg = (51, 0)) (j, z)) := fun hj hc => hj (by simpa using congrArg Prod.fst hc)
    have C1 := hC.ev hN.pos e1 fun tg h => .inl h
    have F1 := hF.one e1 (.inr (.inr rfl))
    have hp1 := e1.get hPs.tag (n51 (by decide)) hp
    have hr1 := e1.get tr14 (n51 (by decide)) hr
    apply f28_L5_of
    refine ⟨fun _ => ?_, (fun h => by cases h)⟩
    refine semOk_entry hw1.same hr1 hok hen ?_
    have hE := (hce en hen).ev e1 (n51 (by decide)) (n51 (by omega))
    obtain ⟨q, n, c, hval, hh⟩ := hE.hil
    have hk0 := hE.1
    have hkn := hE.2.1
    obtain ⟨m, hkey⟩ := hok.1 en hen
    have hkm : keyN en.key = m := by rw [hkey]; rfl
    rw [hkm] at hh hk0 hkn
    obtain ⟨i, rfl⟩ : ∃ i : Nat, m = (i : Int) := ⟨m.toNat, by omega⟩
    rw [Int.toNat_natCast] at hh
    have hlen := hh.len
    have hnb := hh.nb
    obtain ⟨hc1, hc2, hc3⟩ := hcr.kn i hh.ne
    refine ⟨(i : Int), q, n, c, by rw [hkey, hval], fun _ => ?_⟩
    refine (f29m_ht e1.ok C1.T 3 (s.O ob).id (i : Int) n (by omega)).mono fun v H2 ⟨hv2, e2, T2⟩ => ⟨_, hv2, ?_⟩
    have hag : agr tr (3, (s.O ob).id, (i : Int)) n = true := agr_ok (c := ch (i : Int)) (by rw [hc2, hlen])
    rw [hag]
    refine ⟨(fun h => by cases h), fun _ => ?_⟩
    have n34 : ∀ {j : Nat} {z : Int}, j ≠ 34 → ¬ ((fun tg : Nat × Int => tg = (34, 0)) (j, z)) := fun hj hc => hj (by simpa using congrArg Prod.fst hc)
    have C2 := C1.ev34 hN.pos e2 T2
    have F2 := F1.one e2 (.inr (.inl rfl))
    have hh2 := hh.ev e2 (n34 (by decide)) (n34 (by omega))
    have hp2 := e2.get hPs.tag (n34 (by decide)) hp1
    have hr2 := e2.get tr14 (n34 (by decide)) hr1
    have hib2 := e2.get tib (n34 (by decide)) hw1.same
    obtain ⟨wp, wn, wc, ab, cb, mb', ce, cc, w1, w2, w3, w4⟩ := T2.choice (3, (s.O ob).id, (i : Int))
    refine ⟨wb, 0, rfl, _, Cells.of w1 rfl, cb, ce, cc, rfl, w3, _, w4, ?_⟩
    have hcho : cho tr (3, (s.O ob).id, (i : Int)) = ch (i : Int) := cho_eq (m := (x.C (i : Int)).length) hc2 hc1
    obtain ⟨b43, o43, sy, bs, y1, y2, y3, y4⟩ := hh2.get hc1
    rw [hcho]
    refine ⟨b43, o43, y1, by omega, by omega, sy.p, sy.n, sy.c, by simpa [Sec.val] using y2, ?_⟩
    have hwant : secNow ss (s.O ob) i = cutL ss (s.O ob).size i bs := by
      rw [hc3, List.getElem?_eq_getElem hc1, y3]
      rfl
    refine (f84_ht ⟨hss.1, hss.2.1⟩ y4).mono fun v H3 ⟨hsub, wk, arr, wc', hv3, hwc, hwk0, hwk, hasz, harr⟩ => ⟨_, _, _, hv3, hsub _ _ w3, Cells.of (hsub _ _ w1) rfl, ?_⟩
    have e3 : Ev (fun _ => False) H2 g H3 g := Ev.sub e2.ok hsub
    have hwg : g wk = none := GOk.fresh e2.ok hwk0
    have hbl := y4.len
    refine f28_L6_ht (H := H3) (arr0 := arr) (wk := wk) (bs := bs) ⟨hss.1, hss.2.1⟩ (by omega) (by omega) hbl harr hasz (fun H4 arr' hk4 hb4 hs4 ha4 => ?_) _ 0 H3 arr rfl (Nat.zero_le _) (fun _ _ => rfl) hwk hasz (fun j hj => ?_)
    · apply f28_L6_of
      refine ⟨fun hx => by have := of_decide_eq_true hx; omega, fun _ => ?_⟩
      have e4 : Ev (fun _ => False) H3 g H4 g := Ev.untag e3.ok hwg hk4
      have e5 : Ev (fun _ => False) H4 g H4 (gset g wk (0, 0)) := Ev.tagU e4.ok hwg (by rw [hb4]; simp)
      have e25 : Ev (fun _ => False) H2 g H4 (gset g wk (0, 0)) := (e3.trans e4).trans e5
      have C5 := C2.evF hN.pos e25
      have F5 := F2.ev e25 (fun h => h) fun _ _ h => h
      have secW : SecOk H4 (gset g wk (0, 0)) ss ⟨some ⟨wk, 0, none⟩, ss, wc'⟩ (cutL ss (s.O ob).size i bs) := ⟨rfl, hwc, by simp [cutL], wk, 0, arr', rfl, by simp [gset], hb4, by omega, by rw [List.drop_zero]; exact ha4⟩
      refine (f80_ht e5.ok C5.G C5.R C5.W hN hmT hup hf (i := i) (by omega)).mono fun v H6 ⟨sz, g6, hv6, e6, R6, sec6⟩ => ⟨sz.p, sz.n, sz.c, hv6, ?_⟩
      have n20 : ∀ {j : Nat} {z : Int}, j ≠ 20 → ¬ ((fun tg : Nat × Int => tg = (20, (k : Int))) (j, z)) := fun hj hc => hj (by simpa using congrArg Prod.fst hc)
      have C6 := C5.ev20 e6 R6
      have F6 := F5.one e6 (.inl rfl)
      rw [hwant] at sec6
      have secW6 : SecOk H6 g6 ss ⟨some ⟨wk, 0, none⟩, ss, wc'⟩ (cutL ss (s.O ob).size i bs) := SecV.ev (v := some (cutL ss (s.O ob).size i bs)) secW e6 (n20 (by decide))
      refine (f34s_ht (sy := ⟨some ⟨wk, 0, none⟩, ss, wc'⟩) sec6 secW6).mono fun v H7 ⟨he7, hv7⟩ => ⟨_, hv7, (fun h => by cases h), fun _ => ?_⟩
      subst he7
      obtain ⟨fp, fn, fc, fr, f1, f2, f3⟩ := F6.ex
      refine ⟨fb, 0, rfl, _, Cells.of f1 rfl, fun b154 H8 ha8 => ?_⟩
      obtain ⟨e8, hh8⟩ := HiL.one (i := i) (e := cd k cn) (bd := bk) (sx := ⟨some ⟨wk, 0, none⟩, ss, wc'⟩) e6.ok ha8 secW6 hbk1
      have f3' : PsM H8 _ (cd k cn) fr ss cap bk (freT ss (s.O ob) (vs.map fun e => keyN e.key)) fun j => j ≠ (i : Int) := (f3.ev e8 (fun h => h) (fun h => h) fun _ _ h => h).weaken
      refine PsM.put e8.ok f3' (by omega) hh8 fun H9 e9 p9 => ?_
      have n14 : ∀ {j : Nat} {z : Int}, j ≠ 14 → ¬ ((fun tg : Nat × Int => tg = (14, cd k cn)) (j, z)) := fun hj hc => hj (by simpa using congrArg Prod.fst hc)
      have hCs : Cset (freT ss (s.O ob) (vs.map fun e => keyN e.key)) (i : Int) [some (cutL ss (s.O ob).size i bs)] = freT ss (s.O ob) ((vs ++ [en]).map fun e => keyN e.key) := by
        funext j
        unfold Cset freT
        rw [List.map_append]
        by_cases hj : j = (i : Int)
        · subst hj
          rw [if_pos rfl, if_pos (by simp [hkm]), Int.toNat_natCast, hwant]
        · rw [if_neg hj]
          by_cases hj2 : j ∈ vs.map fun e => keyN e.key
          · rw [if_pos hj2, if_pos (List.mem_append_left _ hj2)]
          · rw [if_neg hj2, if_neg]
            intro hc
            rcases List.mem_append.1 hc with hc | hc
            · exact hj2 hc
            · simp [hkm] at hc
              exact hj hc
      rw [hCs] at p9
      have e89 : Ev (SpB (cd k cn)) H7 g6 H9 _ := (e8.mono fun tg h => h.elim).trans (e9.mono fun tg h => by rw [h]; exact ⟨rfl, by simp⟩)
      have C9 := C6.ev hN.pos e89 fun tg h => .inr h
      have eH7 : Ev (S28 k cn) H g H7 g6 := (((e1.mono fun tg h => .inr (.inr (.inl h))).trans (e2.mono fun tg h => .inr (.inl h))).trans (e25.mono fun tg h => h.elim)).trans (e6.mono fun tg h => .inl h)
      have eAll : Ev (S28 k cn) H0 g0 H9 _ := (e0.trans eH7).trans (e89.mono fun tg h => .inr (.inr (.inr (.inr ⟨cn, Nat.le_refl _, h⟩))))
      have keep : ∀ {b : Nat} {tg : Nat × Int} {o : Obj}, g b = some tg → tg.1 ≠ 20 → ¬ SpB (cd k cn) tg → H2 b = some o → H9 b = some o := fun {b tg o} ht h20 hsb ho => by
        have t5 := e25.tag _ _ ht
        exact e89.get (e6.tag _ _ t5) hsb (e6.get t5 (fun hc => h20 (by rw [hc])) (e25.get ht (fun h => h) ho))
      have hmet' := hmet.push hen hns
      have hl' := hmet'.len
      rw [List.length_append, List.length_singleton] at hl'
      have F9 : PsR H9 _ (cd k cn) fb ss cap bk [(s.O ob).size] (freT ss (s.O ob) ((vs ++ [en]).map fun e => keyN e.key)) := ⟨e9.tag _ _ (e8.tag _ _ F6.tag), by simp, hbk1, fp, fn, fc, fr, e9.get (e8.tag _ _ F6.tag) (n14 (by decide)) (ha8.keep f1), (f2.ev e8 (fun h => h)).ev e9 (n14 (by decide)), p9⟩
      refine ih (d - 1) (by omega) H9 _ _ (seen.push en.born) (vs ++ [en]) (by rw [List.length_append, List.length_singleton]; omega) eAll C9 F9 (keep hPs.tag (by simp) (fun hc => nne hc.1) hp2) (keep tr14 (by simp) (fun hc => nne hc.1) hr2) (e89.tag _ _ (e6.tag _ _ (e25.tag _ _ tib))) (keep tib (by decide) SpB.n51 hib2) hmet' (fun qq => ?_)
      rw [hM]
      constructor
      · rintro ((h | ⟨e1', h1, h2, h3⟩) | ⟨h1, h2⟩)
        · exact .inl h
        · exact .inr ⟨e1', List.mem_append_left _ h1, h2, h3⟩
        · exact .inr ⟨en, by simp, by rw [h1, hkm], by rw [h1]; exact h2⟩
      · rintro (h | ⟨e1', h1, h2, h3⟩)
        · exact .inl (.inl h)
        · rcases List.mem_append.1 h1 with h1 | h1
          · exact .inl (.inr ⟨e1', h1, h2, h3⟩)
          · rw [List.mem_singleton.1 h1, hkm] at h2
            exact .inr ⟨h2, by rw [← h2]; exact h3⟩
    · rw [if_neg (by omega)]
      have : arr[j]? = (arr.toList.take ss)[j]? := by rw [List.getElem?_take, if_pos hj, Array.getElem?_toList]
      rw [this, harr, List.getElem?_map, List.getElem?_eq_getElem (by omega)]
      rfl

end

end Go.Proofs.Qxb6500695aGreatFmt
