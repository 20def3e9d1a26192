/-
  A PAST: synced.
-/
import Derived.Test.Qxb6500695aGreatFmtKg
namespace Go.Proofs.Qxb6500695aGreatFmt
open Go Go.Eng Go.Proofs
set_option maxRecDepth 100000
set_option linter.unusedVariables false
set_option linter.unusedSimpArgs false
set_option linter.unusedSectionVars false

def kb (en : MapEntry) : Value × Nat := (en.key, en.born)

/-- A value set at a key that is there: keys and ages stand. -/
theorem mput_kb {k : IntKind} {es : Array MapEntry} {c : Nat} {n : Int} {v : Value} {en : MapEntry} (H : MapOk k es c) (hen : en ∈ es.toList) (hk : keyN en.key = n) :
    ∃ es', mput k es c n v = .map es' c ∧ MapOk k es' c ∧ es'.toList.map kb = es.toList.map kb ∧ (∀ m, iget es'.toList m = if m = n then some v else iget es.toList m) ∧ ∀ e ∈ es'.toList, (keyN e.key = n ∧ e.val = v) ∨ e ∈ es.toList := by
  obtain ⟨es', c', h1, h2, h3, h4, _, _⟩ := mput_ok (n := n) (v := v) H
  have h1' := h1
  unfold mput at h1
  cases hf : ifind n es.toList 0 with
  | none => exact absurd hk (iget_none.1 hf en hen)
  | some iv =>
    obtain ⟨i, x⟩ := iv
    rw [hf] at h1
    simp only [Obj.map.injEq] at h1
    obtain ⟨hm, rfl⟩ := h1
    refine ⟨es', h1', h2, ?_, h3, h4⟩
    subst hm
    obtain ⟨e0, _, he0, hk0, _⟩ := ifind_some hf
    rw [Nat.sub_zero] at he0
    have hkey : e0.key = .int k n := by
      obtain ⟨m, hm⟩ := H.1 e0 (List.mem_of_getElem? he0)
      rw [hm] at hk0 ⊢
      have : m = n := hk0
      rw [this]
    apply List.ext_getElem?
    intro j
    rw [Array.toList_modify, List.getElem?_map, List.getElem?_map, List.getElem?_modify]
    by_cases hj : i = j
    · subst hj
      rw [he0]
      simp [kb, hkey]
    · simp [hj]

theorem kb_mem {es es0 : List MapEntry} (h : es.map kb = es0.map kb) {en : MapEntry} (hen : en ∈ es) : ∃ e0 ∈ es0, e0.key = en.key ∧ e0.born = en.born := by
  have : kb en ∈ es0.map kb := by rw [← h]; exact List.mem_map.2 ⟨en, hen, rfl⟩
  obtain ⟨e0, h0, h1⟩ := List.mem_map.1 this
  exact ⟨e0, h0, congrArg Prod.fst h1, congrArg Prod.snd h1⟩

theorem drop_last {α : Type} {L : List α} (h : L ≠ []) : ∃ x, L.getLast? = some x ∧ L.drop (L.length - 1) = [x] := by
  rcases List.eq_nil_or_concat L with hc | ⟨l, x, hc⟩
  · exact absurd hc h
  · rw [List.concat_eq_append] at hc
    subst hc
    exact ⟨x, by simp, by simp⟩

section
variable {S : Nat × Int → Prop} {H H' : Heap} {g g' : Gh} {e k : Int} {pb r ss ns bd : Nat} {zs : List Nat} {C : Int → List Sv}

/-- Synced so far. -/
def syncT (C : Int → List Sv) (ks : List Int) : Int → List Sv := fun j => if j ∈ ks then syncC C j else C j

theorem syncC_nil {j : Int} : syncC C j = [] ↔ C j = [] := by
  unfold syncC
  cases hx : (C j).getLast? with
  | none => simp [List.getLast?_eq_none_iff.1 hx]
  | some v =>
    simp
    intro hc
    rw [hc] at hx
    cases hx

theorem f25_L1_ht {H0 : Heap} {g0 : Gh} {ib ck sn sc : Nat} {sp : Option Addr} {es0 : Array MapEntry} (hok0 : MapOk .i64 es0 ck) (tr : g r = some (14, e)) (tp : g pb = some (11, e)) (hib : g ib = none) (hbd : bd < 2 ^ 32) :
    ∀ (d : Nat) (H : Heap) (es : Array MapEntry) (seen : Array Nat) (vs : List MapEntry), es0.size - vs.length = d → Ev (SpB e) H0 g0 H g → H ib = some (.mapIter (some r) ck seen ck) → H pb = some (.cells #[.slice sp sn sc, .map (some r)] 63 (0, 0)) → OwnT H g (16, e) 2 1 I64.cs sp sn sc ([lastZ zs].map nI) →
      H r = some (.map es ck) → MapOk .i64 es ck → es.toList.map kb = es0.toList.map kb → Met es0 seen vs → (∀ en ∈ es.toList, CacheE H g e ss ns bd en (syncT C (vs.map fun x => keyN x.key))) → (∀ i, iget es.toList i = none → C i = []) → (1 ≤ bd) →
      f25_L1 (some ⟨pb, 0, none⟩) (some ⟨ib, 0, none⟩) H fun v H' => v = .tuple #[] ∧ ∃ g', Ev (SpB e) H0 g0 H' g' ∧ PsR H' g' e pb ss ns bd [lastZ zs] (syncC C) := by
  intro d
  induction d using Nat.strongRecOn with
  | ind d ih =>
  intro H es seen vs hd e0 hi hp ho hr hok hkb hm hc hn hb1
  have nS : ∀ {j : Nat}, j ≠ 14 → ¬ ((fun tg : Nat × Int => tg = (14, e)) (j, e)) := fun hj hx => hj (by simpa using congrArg Prod.fst hx)
  have n14z : ¬ ((fun tg : Nat × Int => tg = (14, e)) (0, 0)) := fun hx => by have := congrArg Prod.fst hx; simp at this
  apply f25_L1_of
  refine semOk_next hi hr hok (fun hall => .inl ⟨rfl, ?_⟩) fun en hen hns H1 hw1 => .inr ⟨en.key, en.val, rfl, ?_⟩
  · apply f25_L2_of
    refine ⟨(fun h => by cases h), fun _ => ⟨rfl, g, e0, tp, by simp, hb1, sp, sn, sc, r, hp, ho, tr, es, ck, hr, hok, fun en hen _ => (hc en hen).congr ?_, fun i hi => syncC_nil.2 (hn i hi)⟩⟩
    obtain ⟨e1, h1, h2, h3⟩ := kb_mem hkb hen
    have hb : en.born ∈ seen.toList := by simpa using hall en hen
    rw [hm.born] at hb
    obtain ⟨e2, h4, h5⟩ := List.mem_map.1 hb
    have h6 : e2 = e1 := inj_of_nodup hok0.2.2.2 e2 (hm.mem e2 h4) e1 h1 (by rw [h5, h3])
    unfold syncT
    rw [if_pos (List.mem_map.2 ⟨e2, h4, by rw [h6, h2]⟩)]
  · apply f25_L2_of
    refine ⟨fun _ => ?_, (fun h => by cases h)⟩
    have hir : ib ≠ r := fun hx => by rw [hx, tr] at hib; cases hib
    have hip : ib ≠ pb := fun hx => by rw [hx, tp] at hib; cases hib
    have ev1 : Ev (fun _ => False) H g H1 g := Ev.untag e0.ok hib fun x hx => hw1.other hx
    have hr1 : H1 r = some (.map es ck) := by rw [hw1.other (Ne.symm hir)]; exact hr
    have hp1 : H1 pb = some (.cells #[.slice sp sn sc, .map (some r)] 63 (0, 0)) := by rw [hw1.other (Ne.symm hip)]; exact hp
    refine semOk_entry hw1.same hr1 hok hen ?_
    have hE := (hc en hen).ev ev1 (fun h => h) (fun h => h)
    obtain ⟨q, n, c, hval, hh⟩ := hE.hil
    have hk0 := hE.1
    have hkn := hE.2.1
    obtain ⟨m, hkey⟩ := hok.1 en hen
    have hkm : keyN en.key = m := by rw [hkey]; rfl
    have hlen := hh.len
    have hpos : 0 < (syncT C (vs.map fun x => keyN x.key) (keyN en.key)).length := List.length_pos_iff.2 hh.ne
    have hnb := hh.nb
    -- not met yet
    have hnot : m ∉ vs.map fun x => keyN x.key := by
      intro hx
      obtain ⟨e2, h4, h5⟩ := List.mem_map.1 hx
      obtain ⟨e1, h1, h2, h3⟩ := kb_mem hkb hen
      have h6 : e2 = e1 := inj_of_nodup hok0.2.1 e2 (hm.mem e2 h4) e1 h1 (by simp only [h5, h2]; exact hkm.symm)
      have : en.born ∈ seen.toList := by rw [hm.born, ← h3, ← h6]; exact List.mem_map.2 ⟨e2, h4, rfl⟩
      exact hns (by simpa using this)
    have hcv : syncT C (vs.map fun x => keyN x.key) (keyN en.key) = C m := by
      unfold syncT
      rw [hkm, if_neg hnot]
    rw [hcv] at hh hpos hnb hlen
    refine ⟨m, q, n, c, by rw [hkey, hval], pb, 0, rfl, _, Cells.of hp1 rfl, ?_⟩
    have hw : IntKind.wrap .i64 ((n : Int) - 1) = ((n - 1 : Nat) : Int) := by rw [wrapI] <;> omega
    rw [hw]
    refine ⟨_, _, _, sliceIs_lo Tryz.underlying37 (by kernel_rfl) (inf := Tryz.t35) rfl (k := n - 1) (by omega), ?_⟩
    have ht := hh.tail (m := n - 1) (by omega)
    obtain ⟨x, hx1, hx2⟩ := drop_last (L := C m) (List.length_pos_iff.1 hpos)
    rw [hlen, hx2] at ht
    rw [← hlen] at ht
    have hsy : syncC C m = [x] := by unfold syncC; rw [hx1]
    refine semOk_mapUpdate Tryz.underlying61 Tryz.underlying2 hr1 hok.1 fun H2 hw2 => ?_
    obtain ⟨es', he', hok', hkb', hget', hmem'⟩ := mput_kb (v := .slice (advP q c (n - 1)) (n - (n - 1)) (c - (n - 1))) hok hen hkm
    rw [he'] at hw2
    have ev2 : Ev (fun tg => tg = (14, e)) H1 g H2 g := Ev.wr ev1.ok hw2 fun tg htg => by rw [tr] at htg; cases htg; rfl
    have ev12 : Ev (fun tg => tg = (14, e)) H g H2 g := (ev1.mono fun tg h => h.elim).trans ev2
    obtain ⟨e1, h1, h2, h3⟩ := kb_mem hkb hen
    have hm' := hm.push h1 (by rw [h3]; exact hns)
    have hl' := hm'.len
    rw [List.length_append, List.length_singleton] at hl'
    have hk1 : keyN e1.key = m := by rw [h2]; exact hkm
    have n100 : ∀ j : Nat, ¬ ((fun tg : Nat × Int => tg = (14, e)) (100 + j, e)) := fun j => nS (by omega)
    refine ih (d - 1) (by omega) H2 es' (seen.push e1.born) (vs ++ [e1]) (by rw [List.length_append, List.length_singleton]; omega) (e0.trans (ev12.mono fun tg h => by rw [h]; exact ⟨rfl, by simp⟩)) ?_ ?_ (ho.ev ev12 (nS (by decide))) hw2.same hok' (hkb'.trans hkb) hm' (fun en' hen' => ?_) (fun i hi => ?_) hb1
    · rw [hw2.other hir, h3]
      exact hw1.same
    · rw [hw2.other (fun hx => by rw [hx, tr] at tp; cases tp)]
      exact hp1
    · rw [List.map_append]
      by_cases hk : keyN en'.key = m
      · have hval' : en'.val = .slice (advP q c (n - 1)) (n - (n - 1)) (c - (n - 1)) := by
          have h10 := iget_of_mem hok'.2.1 hen'
          rw [hk, hget', if_pos rfl] at h10
          exact (Option.some.inj h10).symm
        have hin : syncT C (vs.map (fun x => keyN x.key) ++ [e1].map fun x => keyN x.key) m = [x] := by
          unfold syncT
          rw [if_pos (by simp [hk1]), hsy]
        have ht2 := ht.ev ev2 n14z (n100 _)
        rw [hkm] at ht2 hk0 hkn
        obtain ⟨l, o1, o2⟩ := ht2.own
        unfold CacheE
        rw [hk, hin]
        exact ⟨hk0, hkn, ht2.nb, by simp, ht2.so, _, _, _, l, hval', o1, o2⟩
      · have hold : en' ∈ es.toList := by
          rcases hmem' en' hen' with ⟨h11, _⟩ | h11
          · exact absurd h11 hk
          · exact h11
        refine ((hc en' hold).ev ev12 n14z (n100 _)).congr ?_
        unfold syncT
        have : (keyN en'.key ∈ vs.map (fun x => keyN x.key) ++ [e1].map fun x => keyN x.key) ↔ keyN en'.key ∈ vs.map fun x => keyN x.key := by
          rw [List.mem_append]
          constructor
          · rintro (h | h)
            · exact h
            · simp at h; exact absurd (h.trans hk1) hk
          · exact .inl
        simp only [this]
    · rw [hget'] at hi
      by_cases him : i = m
      · rw [if_pos him] at hi; cases hi
      · rw [if_neg him] at hi
        exact hn i hi

theorem f25_ht (hg : GOk H g) (h : PsR H g e pb ss ns bd zs C) (hbd : bd < 2 ^ 32) : HT Tryz.prog 25 [.pointer (some ⟨pb, 0, none⟩)] H fun v H' => v = .tuple #[] ∧ ∃ g', Ev (SpB e) H g H' g' ∧ PsR H' g' e pb ss ns bd [lastZ zs] (syncC C) := by
  have hb1 : 1 ≤ bd := Nat.le_trans (List.length_pos_iff.2 h.ne) h.nb
  apply f25_of
  refine (f24_ht h hbd).mono fun v H1 ⟨he1, hv1⟩ => ⟨_, hv1, fun b7 H2 ha2 => ?_⟩
  subst he1
  obtain ⟨sp, sn, sc, r, h1, h2, h3⟩ := h.ex
  obtain ⟨e2, t2⟩ := Ev.al (S := SpB e) hg ha2 (16, e)
  have k1 := ha2.keep h1
  refine ⟨pb, 0, rfl, _, _, k1, by simp, fun H3 hw3 => ?_⟩
  have hw3' : Wr H2 pb (.cells #[.slice (some ⟨b7, 0, none⟩) 1 1, .map (some r)] 63 (0, 0)) H3 := hw3
  have tp2 := e2.tag _ _ h.tag
  have e3 : Ev (fun tg => tg = (11, e)) H2 (gset g b7 (16, e)) H3 (gset g b7 (16, e)) := Ev.wr e2.ok hw3' fun tg htg => by rw [tp2] at htg; cases htg; rfl
  have n11 : ∀ {i : Nat} {z : Int}, i ≠ 11 → ¬ ((fun tg : Nat × Int => tg = (11, e)) (i, z)) := fun hi hc => hi (by simpa using congrArg Prod.fst hc)
  have hown : OwnT H2 (gset g b7 (16, e)) (16, e) 2 1 I64.cs (some ⟨b7, 0, none⟩) 1 1 ([lastZ zs].map nI) := ⟨⟨rfl, fun _ => rfl, .inr ⟨b7, 0, _, rfl, ha2.same, Nat.le_refl _, by simp, rfl⟩⟩, fun a ha' => by cases ha'; exact t2⟩
  have eF : Ev (fun _ => False) H1 g H2 (gset g b7 (16, e)) := (Ev.al (S := fun _ => False) hg ha2 (16, e)).1
  have m3 := (h3.ev eF (fun h => h) (fun h => h) fun _ _ h => h).ev e3 (n11 (by decide)) (n11 (by decide)) fun i _ => n11 (by omega)
  refine ⟨pb, 0, rfl, _, Cells.of hw3'.same rfl, ?_⟩
  obtain ⟨tr, es, ck, hr, hok, hc, hn⟩ := m3
  refine semOk_range Tryz.underlying61 hr fun ib H4 ha4 => ⟨_, rfl, ?_⟩
  have hib : gset g b7 (16, e) ib = none := GOk.fresh e3.ok ha4.fresh
  have e4 : Ev (fun _ => False) H3 (gset g b7 (16, e)) H4 (gset g b7 (16, e)) := Ev.sub e3.ok ha4.sub
  have e04 : Ev (SpB e) H1 g H4 (gset g b7 (16, e)) := (e2.trans (e3.mono fun tg h => by rw [h]; exact ⟨rfl, by simp⟩)).trans (e4.mono fun tg h => h.elim)
  refine f25_L1_ht (es0 := es) (zs := zs) (C := C) hok tr tp2 hib hbd _ H4 es #[] [] rfl e04 ha4.same (ha4.keep hw3'.same) ((hown.ev e3 (n11 (by decide))).ev e4 (fun h => h)) (ha4.keep hr) hok rfl (Met.start es) (fun en hen => ((hc en hen trivial).ev e4 (fun h => h) (fun h => h)).congr ?_) hn hb1
  unfold syncT
  rw [if_neg (by simp)]

end

end Go.Proofs.Qxb6500695aGreatFmt
