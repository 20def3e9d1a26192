/-
  THE PLANE, PART J: flush.
-/
import Derived.Test.Qxb6500695aGreatFmtXi
namespace Go.Proofs.Qxb6500695aGreatFmt
open Go Go.Eng Go.Proofs
set_option maxRecDepth 100000
set_option linter.unusedVariables false
set_option linter.unusedSimpArgs false
set_option linter.unusedSectionVars false

/-- What a range over a map has met. -/
structure Met (es : Array MapEntry) (seen : Array Nat) (vs : List MapEntry) : Prop where
  born : seen.toList = vs.map (·.born)
  mem : ∀ e ∈ vs, e ∈ es.toList
  nodup : seen.toList.Nodup

theorem Met.start (es : Array MapEntry) : Met es #[] [] := ⟨rfl, by simp, by simp⟩

theorem Met.push {es : Array MapEntry} {seen : Array Nat} {vs : List MapEntry} (h : Met es seen vs) {e : MapEntry} (he : e ∈ es.toList) (hn : e.born ∉ seen) : Met es (seen.push e.born) (vs ++ [e]) := by
  refine ⟨by simp [h.born], fun x hx => ?_, ?_⟩
  · rcases List.mem_append.1 hx with h1 | h1
    · exact h.mem x h1
    · rw [List.mem_singleton.1 h1]; exact he
  · rw [Array.toList_push, List.nodup_append]
    refine ⟨h.nodup, by simp, fun a ha b hb => ?_⟩
    rw [List.mem_singleton.1 hb]
    intro hab
    exact hn (by rw [← hab]; exact Array.mem_toList_iff.1 ha)

theorem nodup_of_map {α β : Type} {f : α → β} {l : List α} (h : (l.map f).Nodup) : l.Nodup :=
  List.Pairwise.of_map f (fun a b hne he => hne (by rw [he])) h

theorem inj_of_nodup {α β : Type} {f : α → β} : ∀ {l : List α}, (l.map f).Nodup → ∀ a ∈ l, ∀ b ∈ l, f a = f b → a = b
  | [], _, a, ha, _, _, _ => by cases ha
  | x :: l, h, a, ha, b, hb, he => by
    rw [List.map_cons, List.nodup_cons] at h
    rcases List.mem_cons.1 ha with ha1 | ha1
    · rcases List.mem_cons.1 hb with hb1 | hb1
      · rw [ha1, hb1]
      · exact absurd (List.mem_map.2 ⟨b, hb1, by rw [← he, ha1]⟩) h.1
    · rcases List.mem_cons.1 hb with hb1 | hb1
      · exact absurd (List.mem_map.2 ⟨a, ha1, by rw [he, hb1]⟩) h.1
      · exact inj_of_nodup h.2 a ha1 b hb1 he

theorem Met.vnodup {es : Array MapEntry} {seen : Array Nat} {vs : List MapEntry} (h : Met es seen vs) : vs.Nodup := by
  have := h.nodup
  rw [h.born] at this
  exact nodup_of_map this

theorem Met.perm {es : Array MapEntry} {seen : Array Nat} {vs : List MapEntry} (h : Met es seen vs) (hb : (es.toList.map (·.born)).Nodup) (hall : ∀ e ∈ es.toList, e.born ∈ seen) : vs.Perm es.toList := by
  have h2 : es.toList.Nodup := nodup_of_map hb
  rw [List.perm_ext_iff_of_nodup h.vnodup h2]
  intro e
  refine ⟨h.mem e, fun he => ?_⟩
  have h3 : e.born ∈ seen.toList := Array.mem_toList_iff.2 (hall e he)
  rw [h.born] at h3
  obtain ⟨e', he', hb'⟩ := List.mem_map.1 h3
  rw [← inj_of_nodup hb e' (h.mem e' he') e he hb']
  exact he'

theorem Met.len {es : Array MapEntry} {seen : Array Nat} {vs : List MapEntry} (h : Met es seen vs) : vs.length ≤ es.size := by
  have := h.vnodup.length_le_of_subset h.mem
  simpa using this

theorem Pl.eng_dur (P : Pl) (i : Nat) (bs : List Int) (j : Nat) : (P.eng i bs).dur j = if j = i then some bs else P.dur j := by
  unfold Pl.eng Pl.dur
  simp only [List.getElem?_set]
  by_cases hj : i = j
  · subst hj
    by_cases hi : i < P.media.length
    · simp [hi]
    · rw [if_neg hi, if_pos rfl, if_pos (by simp; omega), if_pos rfl]
      rfl
  · rw [if_neg hj, if_neg (Ne.symm hj)]
    by_cases hi : i < P.media.length
    · rw [if_pos hi]
    · rw [if_neg hi, List.getElem?_append]
      by_cases hjl : j < P.media.length
      · rw [if_pos hjl]
      · rw [if_neg hjl, List.getElem?_eq_none (l := P.media) (by omega)]
        by_cases h3 : j - P.media.length < i + 1 - P.media.length
        · rw [List.getElem?_replicate, if_pos h3]; rfl
        · rw [List.getElem?_replicate, if_neg h3]

section
variable {H : Heap} {g : Gh} {e : Int} {pb ss ns bd : Nat} {P : Pl}

/-- The cache is emptied. -/
theorem PlOk.cleared {H' : Heap} (hg : GOk H g) (h : PlOk H g e pb ss ns bd P) {mp : Option Addr} {mn mc r ck : Nat} (hpb : H pb = some (.cells #[.int .i64 (ss : Int), .slice mp mn mc, .map (some r)] 244 (0, 0))) (hw : Wr H r (.map #[] ck) H') :
    Ev (fun tg => tg = (14, e)) H g H' g ∧ PlOk H' g e pb ss ns bd ⟨P.media, fun _ => []⟩ := by
  obtain ⟨mp', mn', mc', r', ml, es, ck', h1, h2, h3, h4, h5, h6, h7, h8, h9⟩ := h.ex
  rw [hpb] at h1
  simp at h1
  obtain ⟨⟨rfl, rfl, rfl⟩, rfl⟩ := h1
  have ev : Ev (fun tg => tg = (14, e)) H g H' g := Ev.wr hg hw fun tg htg => by rw [h5] at htg; cases htg; rfl
  refine ⟨ev, h.ssb, h.nsb, h.tp, mp, mn, mc, r, ml, #[], ck, ev.get h.tp (fun h => by cases h) hpb, h2.ev ev (fun h => by cases h), h3.ev ev (fun h => by cases h), h4, h5, hw.same, MapOk.empty _ _, by simp, fun _ _ => rfl⟩

/-- Only scratch has turned. -/
theorem PlOk.scratch {H' : Heap} {g' : Gh} (h : PlOk H g e pb ss ns bd P) (ev : Ev (fun tg => tg = (18, e)) H g H' g') : PlOk H' g' e pb ss ns bd P := by
  obtain ⟨mp, mn, mc, r, ml, es, ck, h1, h2, h3, h4, h5, h6, h7, h8, h9⟩ := h.ex
  exact ⟨h.ssb, h.nsb, ev.tag _ _ h.tp, mp, mn, mc, r, ml, es, ck, ev.get h.tp (fun h => by cases h) h1, h2.ev ev (fun h => by cases h), h3.ev ev (fun h => by cases h), h4, ev.tag _ _ h5, ev.get h5 (fun h => by cases h) h6, h7, fun en hen => (h8 en hen).ev ev (fun h => by cases h) (fun h => by have := congrArg Prod.fst h; simp at this; omega), h9⟩

theorem f119_L1_ht {H0 : Heap} {g0 : Gh} {r ck : Nat} {es : Array MapEntry} (hok : MapOk .i64 es ck) {bi : Nat} {n0 : Int} (hbd : bd < 2 ^ 32) (P0 : Pl)
    (hP0 : ∀ i, iget es.toList i = none → P0.cache i = []) :
    ∀ (k : Nat) (vs : List MapEntry) (seen : Array Nat) (H : Heap) (g : Gh) (P : Pl), vs.length + k = es.size + 1 → Met es seen vs → Ev (SpP e) H0 g0 H g → PlOk H g e pb ss ns bd P → P.cache = P0.cache → H r = some (.map es ck) → g r = some (14, e) → g bi = some (18, e) → H bi = some (.mapIter (some r) ck seen ck) →
      (∀ en ∈ es.toList, CacheE H g e ss ns bd en P0.cache) →
      (∀ i : Nat, P.dur i = if (∃ en ∈ vs, keyN en.key = (i : Int)) then (P0.cache (i : Int)).getLast?.getD none else P0.dur i) →
      f119_L1 (some ⟨pb, 0, none⟩) n0 (some ⟨bi, 0, none⟩) H fun v H' => ∃ g' P', v = .int .i64 n0 ∧ Ev (SpP e) H0 g0 H' g' ∧ PlOk H' g' e pb ss ns bd P' ∧ P'.clean ∧ ∀ i, P'.dur i = P0.lat i := by
  intro k
  induction k with
  | zero =>
    intro vs seen H g P hk hmet
    have := hmet.len
    omega
  | succ k ih =>
    intro vs seen H g P hk hmet hE h hPc hr hgr hgi hbi hent hdur
    have hnb := h.nsb
    apply f119_L1_of
    refine semOk_next hbi hr hok (fun hall => .inl ⟨rfl, ?_⟩) (fun en hen hns h1 hw1 => .inr ⟨en.key, en.val, rfl, ?_⟩)
    · apply f119_L2_of
      refine ⟨(fun h => by cases h), fun _ => ?_⟩
      obtain ⟨mp, mn, mc, r', ml, es', ck', k1, k2, k3, k4, k5, k6, k7, k8, k9⟩ := h.ex
      refine ⟨pb, 0, rfl, _, Cells.of k1 rfl, ?_⟩
      refine semOk_clearM Tryz.underlying61 k6 fun H' hw => ⟨rfl, ?_⟩
      obtain ⟨e2, h2⟩ := h.cleared hE.ok k1 hw
      refine ⟨g, _, rfl, hE.trans (e2.mono fun tg htg => by rw [htg]; exact ⟨rfl, .inr (.inr (.inl rfl))⟩), h2, fun _ => rfl, fun i => ?_⟩
      have hd := hdur i
      have hperm := hmet.perm hok.2.2.2 hall
      show (Pl.mk P.media fun _ => []).dur i = _
      have heq : (Pl.mk P.media fun _ => []).dur i = P.dur i := rfl
      rw [heq, hd]
      unfold Pl.lat
      by_cases hex : ∃ en ∈ vs, keyN en.key = (i : Int)
      · rw [if_pos hex]
        obtain ⟨en, hen, hkey⟩ := hex
        have hne := (hent en (hmet.mem en hen)).2.2.2.1
        rw [hkey] at hne
        cases hl : (P0.cache (i : Int)).getLast? with
        | none =>
          rw [List.getLast?_eq_none_iff] at hl
          rw [hl] at hne; simp at hne
        | some v => rfl
      · rw [if_neg hex]
        have hnone : iget es.toList (i : Int) = none := iget_eq_none.2 fun en hen hkey => hex ⟨en, (hperm.mem_iff).2 hen, hkey⟩
        rw [hP0 _ hnone]
        rfl
    · have e1 : Ev (fun tg => tg = (18, e)) H g h1 g := Ev.wr hE.ok hw1 fun tg htg => by rw [hgi] at htg; cases htg; rfl
      have h1' : PlOk h1 g e pb ss ns bd P := h.scratch e1
      have hent1 : ∀ en ∈ es.toList, CacheE h1 g e ss ns bd en P0.cache := fun en hen => (hent en hen).ev e1 (fun h => by cases h) (fun h => by have := congrArg Prod.fst h; simp at this; omega)
      have hE1 : Ev (SpP e) H0 g0 h1 g := hE.trans (e1.mono fun tg htg => by rw [htg]; exact ⟨rfl, .inr (.inr (.inr (.inl rfl)))⟩)
      have hr1 : h1 r = some (.map es ck) := e1.get hgr (fun h => by cases h) hr
      apply f119_L2_of
      refine ⟨fun _ => ?_, (fun h => by cases h)⟩
      refine semOk_entry hw1.same hr1 hok hen ?_
      obtain ⟨kn, hkn⟩ := hok.1 en hen
      obtain ⟨c1, c2, c3, c4, c5, q, n, c, l, c6, c7, c8⟩ := hent1 en hen
      have hkN : keyN en.key = kn := by rw [hkn]; rfl
      rw [hkN] at c1 c2 c3 c4 c5 c7 c8
      obtain ⟨kk, rfl⟩ : ∃ kk : Nat, kn = (kk : Int) := ⟨kn.toNat, by omega⟩
      have hll := c7.own.len
      have hl8 := c8.len
      refine ⟨(kk : Int), q, n, c, by rw [hkn, c6], ?_⟩
      obtain ⟨b, o, hp, hc⟩ := c7.own.cells (i := n - 1) (by omega)
      rw [wrapP (by omega) (by omega)]
      refine ⟨b, o, hp, by omega, by omega, _, _, _, hc, ?_⟩
      have hsv := c8.get (n - 1) (by omega) (by omega)
      obtain ⟨bs, hbs⟩ : ∃ bs, (P0.cache (kk : Int))[n - 1]'(by omega) = some bs := by
        cases hx : (P0.cache (kk : Int))[n - 1]'(by omega) with
        | none => exact absurd hx (c5 _ (List.getElem_mem _))
        | some bs => exact ⟨bs, rfl⟩
      rw [hbs] at hsv
      have hlast : (P0.cache (kk : Int)).getLast? = some (some bs) := by
        rw [List.getLast?_eq_getElem?, List.getElem?_eq_getElem (by omega), ← hbs]
        congr 2
        omega
      refine (f174_ht hE1.ok h1' (i := kk) (by omega) hsv).mono fun v h2 ⟨g2, hv, e2, h2'⟩ => ⟨hv, ?_⟩
      have n18 : ¬ SpM e (18, e) := fun h => by rcases h with h | h <;> cases h
      refine ih (vs ++ [en]) (seen.push en.born) h2 g2 _ (by simp; omega) (hmet.push hen hns) (hE1.trans (e2.mono fun _ h => h.le)) h2' (by rw [← hPc]; rfl) (e2.get hgr SpM.n14 hr1) (e2.tag _ _ hgr) (e2.tag _ _ hgi) (e2.get hgi n18 hw1.same) (fun x hx => (hent1 x hx).ev e2 (fun h => SpP.zero h.le) SpM.n100) fun i => ?_
      rw [Pl.eng_dur, hdur i]
      by_cases hi : i = kk
      · subst hi
        rw [if_pos rfl, if_pos ⟨en, by simp, hkN⟩, hlast]
        rfl
      · rw [if_neg hi]
        have hiff : (∃ x ∈ vs ++ [en], keyN x.key = (i : Int)) ↔ ∃ x ∈ vs, keyN x.key = (i : Int) := by
          constructor
          · rintro ⟨x, hx, hk'⟩
            rcases List.mem_append.1 hx with h3 | h3
            · exact ⟨x, h3, hk'⟩
            · rw [List.mem_singleton.1 h3, hkN] at hk'
              omega
          · rintro ⟨x, hx, hk'⟩
            exact ⟨x, List.mem_append_left _ hx, hk'⟩
        by_cases hex : ∃ x ∈ vs, keyN x.key = (i : Int)
        · rw [if_pos hex, if_pos (hiff.2 hex)]
        · rw [if_neg hex, if_neg (fun h => hex (hiff.1 h))]

theorem f119_ht (hg : GOk H g) (h : PlOk H g e pb ss ns bd P) (hbd : bd < 2 ^ 32) :
    HT Tryz.prog 119 [.pointer (some ⟨pb, 0, none⟩)] H fun v H' => ∃ g' P' n0, v = .int .i64 n0 ∧ Ev (SpP e) H g H' g' ∧ PlOk H' g' e pb ss ns bd P' ∧ P'.clean ∧ ∀ i, P'.dur i = P.lat i := by
  obtain ⟨mp, mn, mc, r, ml, es, ck, h1, h2, h3, h4, h5, h6, h7, h8, h9⟩ := h.ex
  apply f119_of
  refine ⟨pb, 0, rfl, _, Cells.of h1 rfl, ?_⟩
  refine semOk_lenM Tryz.underlying61 h6 ⟨_, rfl, pb, 0, rfl, _, Cells.of h1 rfl, ?_⟩
  refine semOk_range Tryz.underlying61 h6 fun bi H1 ha => ⟨_, rfl, ?_⟩
  obtain ⟨e1, t1⟩ := Ev.al (S := fun tg => tg = (18, e)) hg ha (18, e)
  have key := f119_L1_ht (H0 := H) (g0 := g) (e := e) (pb := pb) (ss := ss) (ns := ns) h7 (bi := bi) (n0 := (es.size : Int)) hbd P h9 (es.size + 1) [] #[] H1 _ P (by simp) (Met.start es) (e1.mono fun tg htg => by rw [htg]; exact ⟨rfl, .inr (.inr (.inr (.inl rfl)))⟩) (h.scratch e1) rfl (ha.keep h6) (e1.tag _ _ h5) t1 ha.same (fun en hen => (h8 en hen).ev e1 (fun h => by cases h) (fun h => by have := congrArg Prod.fst h; simp at this; omega)) (fun i => by simp)
  exact fun d B => RTmono (key d B) fun v H' ⟨g', P', hv, rest⟩ => ⟨g', P', _, hv, rest⟩

end

end Go.Proofs.Qxb6500695aGreatFmt
