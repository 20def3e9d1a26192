/-
  CONTRACTS, PART F: Manifests, Timelines.
-/
import Derived.Test.Qxb6500694aGreatDoorCe
import Derived.Test.Qxb6500694aGreatDoorSe
namespace Go.Proofs.Qxb6500694aGreatDoor
open Go Go.Eng Go.Proofs
set_option maxRecDepth 100000
set_option linter.unusedVariables false
set_option linter.unusedSimpArgs false

/-- What a range over a map has met. -/
structure Met (es : Array MapEntry) (seen : Array Nat) (vs : List MapEntry) : Prop where
  born : seen.toList = vs.map (·.born)
  mem : ∀ e ∈ vs, e ∈ es.toList
  nodup : seen.toList.Nodup

theorem Met.start (es : Array MapEntry) : Met es #[] [] := ⟨rfl, by simp, by simp⟩

theorem Met.push {es : Array MapEntry} {seen : Array Nat} {vs : List MapEntry} (h : Met es seen vs) {e : MapEntry} (he : e ∈ es.toList) (hn : e.born ∉ seen) : Met es (seen.push e.born) (vs ++ [e]) := by
  refine ⟨by simp [h.born], fun x hx => ?_, ?_⟩
  · rcases List.mem_append.1 hx with h1 | h1
    · exact h.mem x h1
    · rw [List.mem_singleton.1 h1]; exact he
  · rw [Array.toList_push, List.nodup_append]
    refine ⟨h.nodup, by simp, fun a ha b hb => ?_⟩
    rw [List.mem_singleton.1 hb]
    intro hab
    exact hn (by rw [← hab]; exact Array.mem_toList_iff.1 ha)

theorem nodup_of_map {α β : Type} {f : α → β} {l : List α} (h : (l.map f).Nodup) : l.Nodup :=
  List.Pairwise.of_map f (fun a b hne he => hne (by rw [he])) h

theorem inj_of_nodup {α β : Type} {f : α → β} : ∀ {l : List α}, (l.map f).Nodup → ∀ a ∈ l, ∀ b ∈ l, f a = f b → a = b
  | [], _, a, ha, _, _, _ => by cases ha
  | x :: l, h, a, ha, b, hb, he => by
    rw [List.map_cons, List.nodup_cons] at h
    rcases List.mem_cons.1 ha with ha1 | ha1
    · rcases List.mem_cons.1 hb with hb1 | hb1
      · rw [ha1, hb1]
      · exact absurd (List.mem_map.2 ⟨b, hb1, by rw [← he, ha1]⟩) h.1
    · rcases List.mem_cons.1 hb with hb1 | hb1
      · exact absurd (List.mem_map.2 ⟨a, ha1, by rw [he, hb1]⟩) h.1
      · exact inj_of_nodup h.2 a ha1 b hb1 he

theorem Met.vnodup {es : Array MapEntry} {seen : Array Nat} {vs : List MapEntry} (h : Met es seen vs) : vs.Nodup := by
  have := h.nodup
  rw [h.born] at this
  exact nodup_of_map this

theorem Met.perm {k : IntKind} {es : Array MapEntry} {c : Nat} {seen : Array Nat} {vs : List MapEntry} (h : Met es seen vs) (hok : MapOk k es c) (hall : ∀ e ∈ es.toList, e.born ∈ seen) : vs.Perm es.toList := by
  have h2 : es.toList.Nodup := nodup_of_map hok.2.2.2
  rw [List.perm_ext_iff_of_nodup h.vnodup h2]
  intro e
  refine ⟨h.mem e, fun he => ?_⟩
  have h3 : e.born ∈ seen.toList := Array.mem_toList_iff.2 (hall e he)
  rw [h.born] at h3
  obtain ⟨e', he', hb⟩ := List.mem_map.1 h3
  rw [← inj_of_nodup hok.2.2.2 e' (h.mem e' he') e he hb]
  exact he'

theorem Met.len {es : Array MapEntry} {seen : Array Nat} {vs : List MapEntry} (h : Met es seen vs) : vs.length ≤ es.size := by
  have := h.vnodup.length_le_of_subset h.mem
  simpa using this

section
variable {H0 H H1 : Heap} {p : Option Addr} {n c b ty : Nat} {K : Value → Heap → Prop}

theorem app_tl {xs : List Int} (x : Int) (ha : Al H (.cells #[.int .u32 x] 29 (0, 0)) b H1) (hs : Tls H p n c xs) (hn : n < 2 ^ 34) (h0 : Sub H0 H) (hnew : New H0 p)
    (h3 : ∀ p' c' H', Sub H0 H' → New H0 p' → Tls H' p' (n + 1) c' (xs ++ [x]) → (∀ b' o', H b' = some o' → (∀ a, p = some a → a.block ≠ b') → H' b' = some o') → K (.slice p' (n + 1) c') H') :
    SemOk Tryz.prog (Builtin.append_ #[111, 111] ty #[.slice p n c, .slice (some ⟨b, 0, none⟩) 1 1]) H1 K :=
  app1 (enc := Tl.cs) (x := x) (inf := Tryz.t29) (zero := .int .u32 0) Tryz.underlying111 (by kernel_rfl) (by kernel_rfl) rfl (by decide) rfl ha rfl (by simp [Tl.cs, Value.oneCell']) hs hn h0 hnew h3

theorem own_ne {α : Type} {T sz : Nat} {enc : α → List Value} {xs : List α} (ho : OwnL H T sz enc p n c xs) {b : Nat} {o : Obj} (hb : H b = some o) (hne : ∀ arr, o ≠ .cells arr T (0, 0)) : ∀ a, p = some a → a.block ≠ b := by
  intro a ha hab
  rcases ho.own with ⟨hp, _⟩ | ⟨b', o', arr, hp, hbb, _⟩
  · rw [hp] at ha; cases ha
  · rw [hp] at ha
    simp at ha
    subst ha
    simp only at hab
    rw [hab, hb] at hbb
    simp at hbb
    exact hne arr hbb

end


section
variable {H : Heap} {ba : Nat} {esM esL esH : Array MapEntry}

def post36 (H : Heap) (es : Array MapEntry) (v : Value) (H' : Heap) : Prop :=
  ∃ p n c ys, v = .slice p n c ∧ Sub H H' ∧ New H p ∧ p ≠ none ∧ Mans H' p n c ys ∧ (List.map Man.val ys).Perm (es.toList.map (fun e => e.val)) ∧ n = es.size

theorem f36_L1_ht (hA : Arch H ba esM esL esH) {r cM : Nat} (hr : H r = some (.map esM cM)) (hok : MapOk .u64 esM cM) {lb bi : Nat} (hlb : H lb = none) (hbi : H bi = none) :
    ∀ (k : Nat) (vs : List MapEntry) (seen : Array Nat) (ys : List Man) (p : Option Addr) (n c : Nat) (h : Heap), vs.length + k = (esM).size + 1 → Met esM seen vs → Sub H h → New H p → p ≠ none → Mans h p n c ys → List.map Man.val ys = vs.map (fun e => e.val) →
      h lb = some (.cells #[.slice p n c] 92 (0, 0)) → h bi = some (.mapIter (some r) cM seen cM) → f36_L1 lb (some ⟨bi, 0, none⟩) h (post36 H esM) := by
  intro k
  induction k with
  | zero =>
    intro vs seen ys p n c h hk hmet
    have := hmet.len
    omega
  | succ k ih =>
    intro vs seen ys p n c h hk hmet hs hnew hpn ho hvals hhl hhi
    have hmlen := hmet.len
    have hsize : (esM).size ≤ 131072 := hA.sizeM
    have hlen := ho.len
    have hvl : ys.length = vs.length := by
      have := congrArg List.length hvals
      simpa using this
    apply f36_L1_of
    refine semOk_next hhi (hs _ _ hr) hok (fun hall => .inl ⟨rfl, ?_⟩) (fun e he hns h1 hw1 => .inr ⟨e.key, e.val, rfl, ?_⟩)
    · -- the end
      apply f36_L2_of
      refine ⟨(fun h => by cases h), fun _ => ⟨p, n, c, Cells.of hhl rfl, ?_⟩⟩
      refine (f61_man (by omega) ho hhl).mono fun v h5 ⟨hv, zs, hperm, ho5, hkeep⟩ => ⟨hv, p, n, c, ?_, p, n, c, zs, rfl, ?_, hnew, hpn, ho5, ?_, ?_⟩
      · have := hkeep lb (own_ne ho hhl (by intro arr h; cases h))
        exact (Cells.of hhl rfl).keep this
      · intro b' o' hb'
        rw [hkeep b' ?_]
        · exact hs _ _ hb'
        · intro a ha hab
          subst hab
          rw [hnew a ha] at hb'; cases hb'
      · refine List.Perm.trans (hperm.map _) ?_
        rw [hvals]
        exact (hmet.perm hok hall).map _
      · rw [hlen, hvl, (hmet.perm hok hall).length_eq]; simp
    · have hs1 : Sub H h1 := hs.wr hw1 hbi
      have hhl1 : h1 lb = some (.cells #[.slice p n c] 92 (0, 0)) := hw1.keep hhl (by intro he; subst he; rw [hhi] at hhl; cases hhl)
      have ho1 : Mans h1 p n c ys := ho.keep fun a ha => hw1.other (own_ne ho hhi (by intro arr h; cases h) a ha)
      have hhi1 := hw1.same
      apply f36_L2_of
      refine ⟨fun _ => ?_, (fun h => by cases h)⟩
      refine semOk_entry hhi1 (hs1 _ _ hr) hok he ?_
      obtain ⟨m, hm, hid⟩ := hA.man e he
      obtain ⟨kn, hkn⟩ := hok.1 e he
      refine ⟨kn, m.id, m.par, m.tl, m.start, m.stop, m.pp, m.pn, m.pc, by rw [hkn, hm]; rfl, fun _ => ⟨p, n, c, Cells.of hhl1 rfl, fun b18 h2 ha => ?_⟩⟩
      have hhl2 := hhl1
      refine app_man m ha ho1 (by omega) hs1 hnew fun p' c' h3 a1 a2 a3 a4 => ⟨p', n + 1, c', rfl, ?_⟩
      have hhl3 := a4 lb _ hhl1 (own_ne ho1 hhl1 (by intro arr h; cases h))
      have hhi3 := a4 bi _ hhi1 (own_ne ho1 hhi1 (by intro arr h; cases h))
      refine ⟨_, _, hhl3, by simp, fun h4 hw4 => ?_⟩
      have hne4 := own_ne a3 hhl3 (by intro arr h; cases h)
      refine ih (vs ++ [e]) (seen.push e.born) (ys ++ [m]) p' (n + 1) c' h4 (by simp; omega) (hmet.push he hns) (a1.wr hw4 hlb) a2 ?_ (a3.keep fun a ha => hw4.other (hne4 a ha)) ?_ hw4.same (hw4.keep hhi3 ?_)
      · obtain ⟨b, o', hb⟩ := a3.isSome (by simp)
        rw [hb]; simp
      · simp [hvals, hm]
      · intro he; subst he; rw [hhl3] at hhi3; cases hhi3

theorem f36_ht (hA : Arch H ba esM esL esH) :
    HT Tryz.prog 36 [.pointer (some ⟨ba, 0, none⟩)] H (post36 H esM) := by
  obtain ⟨rm, rl, rh, cM, cL, cH, mp, h1, h2, h3, h4, h5, h6, h7⟩ := hA.ex
  apply f36_of
  intro b6 g1 ha1 b3 g2 ha2
  refine ⟨_, _, ha2.same, by simp, fun g3 hw3 => ?_⟩
  have hs2 : Sub H g2 := ha1.sub.al ha2
  have hb3 : H b3 = none := by
    cases hc : H b3 with
    | none => rfl
    | some x => have := ha1.sub _ _ hc; rw [ha2.fresh] at this; cases this
  have hs3 : Sub H g3 := hs2.wr hw3 hb3
  refine ⟨ba, 0, rfl, _, Cells.of (hs3 _ _ h1) rfl, ?_⟩
  refine semOk_range Tryz.underlying113 (hs3 _ _ h2) fun bi g4 ha4 => ⟨_, rfl, ?_⟩
  have hbi : H bi = none := by
    cases hc : H bi with
    | none => rfl
    | some x => have := hs3 _ _ hc; rw [ha4.fresh] at this; cases this
  have hb6 : g3 b6 = some (.cells #[] 97 (0, 0)) := by
    have hne : b6 ≠ b3 := by
      intro he; subst he
      have := ha1.same; rw [ha2.fresh] at this; cases this
    exact hw3.keep (ha2.keep ha1.same) hne
  refine f36_L1_ht hA h2 h5 hb3 hbi ((esM).size + 1) [] #[] [] (some ⟨b6, 0, none⟩) 0 0 g4 (by simp) (Met.start _) (hs3.al ha4) ?_ (by simp) ?_ rfl ?_ ha4.same
  · intro a ha; simp at ha; subst ha; exact ha1.fresh
  · exact ⟨rfl, Man.size, .inr ⟨b6, 0, _, rfl, ha4.keep hb6, by omega, by simp, by simp⟩⟩
  · exact ha4.keep hw3.same

end

section
variable {H : Heap} {ba : Nat} {esM esL esH : Array MapEntry}

def post44 (H : Heap) (es : Array MapEntry) (v : Value) (H' : Heap) : Prop :=
  ∃ p n c ys, v = .slice p n c ∧ Sub H H' ∧ New H p ∧ p ≠ none ∧ Tls H' p n c ys ∧ (ys).Perm (es.toList.map (fun e => keyN e.key)) ∧ n = es.size

theorem f44_L1_ht (hA : Arch H ba esM esL esH) {r cM : Nat} (hr : H r = some (.map esH cM)) (hok : MapOk .u32 esH cM) {lb bi : Nat} (hlb : H lb = none) (hbi : H bi = none) :
    ∀ (k : Nat) (vs : List MapEntry) (seen : Array Nat) (ys : List Int) (p : Option Addr) (n c : Nat) (h : Heap), vs.length + k = (esH).size + 1 → Met esH seen vs → Sub H h → New H p → p ≠ none → Tls h p n c ys → ys = vs.map (fun e => keyN e.key) →
      h lb = some (.cells #[.slice p n c] 111 (0, 0)) → h bi = some (.mapIter (some r) cM seen cM) → f44_L1 lb (some ⟨bi, 0, none⟩) h (post44 H esH) := by
  intro k
  induction k with
  | zero =>
    intro vs seen ys p n c h hk hmet
    have := hmet.len
    omega
  | succ k ih =>
    intro vs seen ys p n c h hk hmet hs hnew hpn ho hvals hhl hhi
    have hmlen := hmet.len
    have hsize : (esH).size ≤ 131072 := hA.sizeH
    have hlen := ho.len
    have hvl : ys.length = vs.length := by
      have := congrArg List.length hvals
      simpa using this
    apply f44_L1_of
    refine semOk_next hhi (hs _ _ hr) hok (fun hall => .inl ⟨rfl, ?_⟩) (fun e he hns h1 hw1 => .inr ⟨e.key, e.val, rfl, ?_⟩)
    · -- the end
      apply f44_L2_of
      refine ⟨(fun h => by cases h), fun _ => ⟨p, n, c, Cells.of hhl rfl, ?_⟩⟩
      refine (f61_tl (by omega) ho hhl).mono fun v h5 ⟨hv, zs, hperm, ho5, hkeep⟩ => ⟨hv, p, n, c, ?_, p, n, c, zs, rfl, ?_, hnew, hpn, ho5, ?_, ?_⟩
      · have := hkeep lb (own_ne ho hhl (by intro arr h; cases h))
        exact (Cells.of hhl rfl).keep this
      · intro b' o' hb'
        rw [hkeep b' ?_]
        · exact hs _ _ hb'
        · intro a ha hab
          subst hab
          rw [hnew a ha] at hb'; cases hb'
      · refine List.Perm.trans hperm ?_
        rw [hvals]
        exact (hmet.perm hok hall).map _
      · rw [hlen, hvl, (hmet.perm hok hall).length_eq]; simp
    · have hs1 : Sub H h1 := hs.wr hw1 hbi
      have hhl1 : h1 lb = some (.cells #[.slice p n c] 111 (0, 0)) := hw1.keep hhl (by intro he; subst he; rw [hhi] at hhl; cases hhl)
      have ho1 : Tls h1 p n c ys := ho.keep fun a ha => hw1.other (own_ne ho hhi (by intro arr h; cases h) a ha)
      have hhi1 := hw1.same
      apply f44_L2_of
      refine ⟨fun _ => ?_, (fun h => by cases h)⟩
      refine semOk_entry hhi1 (hs1 _ _ hr) hok he ?_
      obtain ⟨m, hm, hid⟩ := hA.his e he
      obtain ⟨kn, hkn⟩ := hok.1 e he
      refine ⟨kn, m.tl, m.par, m.br, by rw [hkn, hm]; rfl, p, n, c, Cells.of hhl1 rfl, fun b18 h2 ha => ?_⟩
      have hhl2 := hhl1
      refine app_tl kn ha ho1 (by omega) hs1 hnew fun p' c' h3 a1 a2 a3 a4 => ⟨p', n + 1, c', rfl, ?_⟩
      have hhl3 := a4 lb _ hhl1 (own_ne ho1 hhl1 (by intro arr h; cases h))
      have hhi3 := a4 bi _ hhi1 (own_ne ho1 hhi1 (by intro arr h; cases h))
      refine ⟨_, _, hhl3, by simp, fun h4 hw4 => ?_⟩
      have hne4 := own_ne a3 hhl3 (by intro arr h; cases h)
      refine ih (vs ++ [e]) (seen.push e.born) (ys ++ [kn]) p' (n + 1) c' h4 (by simp; omega) (hmet.push he hns) (a1.wr hw4 hlb) a2 ?_ (a3.keep fun a ha => hw4.other (hne4 a ha)) ?_ hw4.same (hw4.keep hhi3 ?_)
      · obtain ⟨b, o', hb⟩ := a3.isSome (by simp)
        rw [hb]; simp
      · simp [hvals, hkn, keyN]
      · intro he; subst he; rw [hhl3] at hhi3; cases hhi3

theorem f44_ht (hA : Arch H ba esM esL esH) :
    HT Tryz.prog 44 [.pointer (some ⟨ba, 0, none⟩)] H (post44 H esH) := by
  obtain ⟨rm, rl, rh, cM, cL, cH, mp, h1, h2, h3, h4, h5, h6, h7⟩ := hA.ex
  apply f44_of
  intro b6 g1 ha1 b3 g2 ha2
  refine ⟨_, _, ha2.same, by simp, fun g3 hw3 => ?_⟩
  have hs2 : Sub H g2 := ha1.sub.al ha2
  have hb3 : H b3 = none := by
    cases hc : H b3 with
    | none => rfl
    | some x => have := ha1.sub _ _ hc; rw [ha2.fresh] at this; cases this
  have hs3 : Sub H g3 := hs2.wr hw3 hb3
  refine ⟨ba, 0, rfl, _, Cells.of (hs3 _ _ h1) rfl, ?_⟩
  refine semOk_range Tryz.underlying116 (hs3 _ _ h4) fun bi g4 ha4 => ⟨_, rfl, ?_⟩
  have hbi : H bi = none := by
    cases hc : H bi with
    | none => rfl
    | some x => have := hs3 _ _ hc; rw [ha4.fresh] at this; cases this
  have hb6 : g3 b6 = some (.cells #[] 29 (0, 0)) := by
    have hne : b6 ≠ b3 := by
      intro he; subst he
      have := ha1.same; rw [ha2.fresh] at this; cases this
    exact hw3.keep (ha2.keep ha1.same) hne
  refine f44_L1_ht hA h4 h7 hb3 hbi ((esH).size + 1) [] #[] [] (some ⟨b6, 0, none⟩) 0 0 g4 (by simp) (Met.start _) (hs3.al ha4) ?_ (by simp) ?_ rfl ?_ ha4.same
  · intro a ha; simp at ha; subst ha; exact ha1.fresh
  · exact ⟨rfl, Tl.size, .inr ⟨b6, 0, _, rfl, ha4.keep hb6, by omega, by simp, by simp⟩⟩
  · exact ha4.keep hw3.same

end

end Go.Proofs.Qxb6500694aGreatDoor
