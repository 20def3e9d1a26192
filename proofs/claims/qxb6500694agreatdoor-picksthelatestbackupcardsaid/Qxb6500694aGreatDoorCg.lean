/-
  CONTRACTS, PART G: PathTo, lastAtOrBefore, wholeChain.
-/
import Derived.Test.Qxb6500694aGreatDoorCf
namespace Go.Proofs.Qxb6500694aGreatDoor
open Go Go.Eng Go.Proofs
set_option maxRecDepth 100000
set_option linter.unusedVariables false
set_option linter.unusedSimpArgs false

def toOf : List Hist → Int
  | [] => 18446744073709551615
  | h :: _ => h.br

/-- The legs of an ancestry. -/
def legsOf : List Hist → List Leg
  | [] => []
  | h :: r => ⟨h.tl, h.br, toOf r⟩ :: legsOf r

theorem legsOf_len : ∀ hs, (legsOf hs).length = hs.length
  | [] => rfl
  | h :: r => by simp [legsOf, legsOf_len r]

section
variable {H : Heap} {ba : Nat} {esM esL esH : Array MapEntry}

def pathPost (H : Heap) (esH : Array MapEntry) (f : Nat) (t : Int) (v : Value) (H' : Heap) : Prop :=
  ∃ p n c e, v = .tuple #[.slice p n c, e] ∧ IsI e ∧ Sub H H' ∧ (e = .nilIface → ∃ hs, ancF esH f t = some hs ∧ New H p ∧ Legs H' p n c (legsOf hs))

theorem f83_L1_ht (hA : Arch H ba esM esL esH) (hG : Globs H) {f0 : Nat} {t0 : Int} :
    ∀ (k : Nat) (f : Nat) (t to : Int) (suf : List Hist) (ys : List Leg) (p : Option Addr) (n c : Nat) (h : Heap), n + k = esH.size → t.toNat < f → Sub H h → New H p → Legs h p n c ys → ys.reverse = legsOf suf → to = toOf suf →
      (∀ o, ancF esH f t = some o → lastBr o ≤ to → ancF esH f0 t0 = some (o ++ suf)) →
      f83_L1 (some ⟨ba, 0, none⟩) t p n c (esH.size : Int) to h (pathPost H esH f0 t0) := by
  intro k
  induction k with
  | zero =>
    intro f t to suf ys p n c h hk hf hs hnew ho hleg hto hinv
    have bad : ∀ {a b c' : Int} {H' : Heap}, Sub H H' → f83_L2 (some ⟨ba, 0, none⟩) t p n c (esH.size : Int) to a b c' true H' (pathPost H esH f0 t0) := by
      intro a b c' H' hs'
      apply f83_L2_of
      obtain ⟨tt, x, hx⟩ := (hG.sub hs') 0 (by simp)
      exact ⟨fun _ => ⟨tt, x, hx, none, 0, 0, _, rfl, IsI.some _ _, hs', fun h => by cases h⟩, fun h => by cases h⟩
    apply f83_L1_of
    refine (f21_ht (hA.sub hs) (hG.sub hs) t).mono fun v H' ⟨he, hv⟩ => ?_
    subst he
    have hnk : ((n : Int) == (esH.size : Int)) = true := by simp; omega
    rcases hv with ⟨m, hg, hgood, rfl⟩ | ⟨hg, tt, x, rfl⟩
    · refine ⟨m.tl, m.par, m.br, _, rfl, fun _ => ⟨_, neqErr IsI.nil, (fun h => by cases h), fun _ => ⟨fun _ => bad hs, fun _ => ⟨fun _ => bad hs, fun _ => ?_⟩⟩⟩⟩
      rw [hnk]; exact bad hs
    · exact ⟨0, 0, 0, _, rfl, fun _ => ⟨_, neqErr (IsI.some _ _), fun _ => bad hs, fun h => by cases h⟩⟩
  | succ k ih =>
    intro f t to suf ys p n c h hk hf hs hnew ho hleg hto hinv
    have bad : ∀ {a b c' : Int} {H' : Heap}, Sub H H' → f83_L2 (some ⟨ba, 0, none⟩) t p n c (esH.size : Int) to a b c' true H' (pathPost H esH f0 t0) := by
      intro a b c' H' hs'
      apply f83_L2_of
      obtain ⟨tt, x, hx⟩ := (hG.sub hs') 0 (by simp)
      exact ⟨fun _ => ⟨tt, x, hx, none, 0, 0, _, rfl, IsI.some _ _, hs', fun h => by cases h⟩, fun h => by cases h⟩
    apply f83_L1_of
    refine (f21_ht (hA.sub hs) (hG.sub hs) t).mono fun v H' ⟨he, hv⟩ => ?_
    subst he
    have hnk : ((n : Int) == (esH.size : Int)) = false := by simp; omega
    rcases hv with ⟨m, hg, hgood, rfl⟩ | ⟨hg, tt, x, rfl⟩
    · refine ⟨m.tl, m.par, m.br, _, rfl, fun _ => ⟨_, neqErr IsI.nil, (fun h => by cases h), fun _ => ⟨fun _ => bad hs, fun _ => ⟨fun _ => bad hs, fun hle => ?_⟩⟩⟩⟩
      have hle := of_decide_eq_false hle
      rw [hnk]
      obtain ⟨g1, g2, g3, g4, g5, g6⟩ := hgood
      obtain ⟨f, rfl⟩ : ∃ f', f = f' + 1 := ⟨f - 1, by omega⟩
      have hsizeH := hA.sizeH
      apply f83_L2_of
      refine ⟨(fun h => by cases h), fun _ => ?_⟩
      intro b47 h2 ha
      refine app_leg ⟨t, m.br, to⟩ ha ho (by omega) hs hnew fun p' c' h3 a1 a2 a3 a4 => ⟨p', n + 1, c', rfl, fun hp => ?_, fun hp => ?_⟩
      · have hp : m.par = 0 := by simpa using hp
        have hanc : ancF esH (f + 1) t = some [m] := by
          unfold ancF; rw [hg]; simp [hisOf_val, hp]
        have hfin := hinv [m] hanc (by simp [lastBr]; omega)
        refine (f104_ht (H := H) (by omega) a2 a1 a3).mono fun v h4 ⟨hv, hs4, ho4⟩ => ⟨hv, p', n + 1, c', _, rfl, IsI.nil, hs4, fun _ => ⟨m :: suf, hfin, a2, ?_⟩⟩
        have : (ys ++ [(⟨t, m.br, to⟩ : Leg)]).reverse = legsOf (m :: suf) := by
          rw [List.reverse_append, List.reverse_singleton, List.singleton_append, hleg, legsOf, hto, g1]
        rw [← this]; exact ho4
      · have hp : m.par ≠ 0 := by simpa using hp
        refine ih f m.par m.br (m :: suf) _ p' (n + 1) c' h3 (by omega) (by omega) a1 a2 a3 ?_ rfl ?_
        · rw [List.reverse_append, List.reverse_singleton, List.singleton_append, hleg, legsOf, hto, g1]
        · intro o ho' hlb
          have hanc : ancF esH (f + 1) t = some (o ++ [m]) := by
            unfold ancF; rw [hg]; simp only [Option.bind_some, hisOf_val]
            rw [if_neg hp, ho']
            simp only
            rw [if_neg (by omega)]
          have := hinv _ hanc (by simp [lastBr]; omega)
          simpa using this
    · exact ⟨0, 0, 0, _, rfl, fun _ => ⟨_, neqErr (IsI.some _ _), fun _ => bad hs, fun h => by cases h⟩⟩

theorem f83_ht (hA : Arch H ba esM esL esH) (hG : Globs H) {f : Nat} {t : Int} (hf : t.toNat < f) :
    HT Tryz.prog 83 [.iface 44 (.pointer (some ⟨ba, 0, none⟩)), .int .u32 t] H (pathPost H esH f t) := by
  apply f83_of
  refine (f44_ht hA).mono fun v h1 ⟨p, n, c, ys, hv, hs, hnew, hpn, ho, hperm, hn⟩ => ⟨p, n, c, hv, ?_⟩
  rw [hn]
  have key := f83_L1_ht (H := H) hA hG (f0 := f) (t0 := t) esH.size f t 18446744073709551615 [] [] none 0 0 h1 (by omega) hf hs (New.none _) (OwnL.nil Leg.size) rfl rfl (by intro o h1 h2; simpa using h1)
  exact key

theorem f84_ht (hA : Arch H ba esM esL esH) (hG : Globs H) {q : Option Addr} {qn qc : Nat} {xs : List Leg} (hr : ReadL H 3 Leg.cs q qn xs) (hn : qn < 2 ^ 32) (time : Int) :
    HT Tryz.prog 84 [.iface 44 (.pointer (some ⟨ba, 0, none⟩)), .slice q qn qc, .int .i64 time] H fun v H' => ∃ x e, v = .tuple #[.int .u64 x, e] ∧ inU x ∧ IsI e ∧ Sub H H' := by
  apply f84_of
  have loop : ∀ (k i : Nat) (at_ : Int) (h : Heap), i + k = qn → Sub H h → inU at_ → f84_L1 (some ⟨ba, 0, none⟩) time at_ q qn qc (qn : Int) (i : Int) h fun v H' => ∃ x e, v = .tuple #[.int .u64 x, e] ∧ inU x ∧ IsI e ∧ Sub H H' := by
    intro k
    induction k with
    | zero =>
      intro i at_ h hi hs hat
      apply f84_L1_of
      exact ⟨fun hd => absurd (of_decide_eq_true hd) (by omega), fun _ => ⟨at_, _, rfl, hat, IsI.nil, hs⟩⟩
    | succ k ih =>
      intro i at_ h hi hs hat
      apply f84_L1_of
      refine ⟨fun _ => ?_, fun hd => absurd (of_decide_eq_false hd) (by simp; omega)⟩
      have hlen := hr.len
      obtain ⟨b, o, hp, hc⟩ := (hr.sub hs).cells i (by omega)
      refine ⟨b, o, hp, by omega, by omega, _, _, _, hc, fun _ => ?_⟩
      refine (f69_ht (hA.sub hs) _).mono fun v h1 ⟨he, x, hx, hv⟩ => ?_
      subst he
      refine ⟨x, hv, ?_⟩
      refine (f71_ht hA hG hs _ _ _).mono fun v h2 ⟨p', n', c', zs, e, he, hv, hs2, hnew, ho, hok, hn'⟩ => ⟨p', n', c', e, hv, _, neqErr he, fun _ => ?_, fun _ => ?_⟩
      · exact ⟨0, e, rfl, by simp [inU], he, hs.trans hs2⟩
      · have hs' := hs.trans hs2
        have hlen2 := ho.len
        have inner : ∀ (k2 j : Nat) (at2 : Int), j + k2 = n' → inU at2 → ∀ reach, f84_L2 (some ⟨ba, 0, none⟩) time at2 (xs[i]).tl (xs[i]).fr (xs[i]).to reach q qn qc (qn : Int) (i : Int) p' n' c' (n' : Int) (j : Int) h2 fun v H' => ∃ x e, v = .tuple #[.int .u64 x, e] ∧ inU x ∧ IsI e ∧ Sub H H' := by
          intro k2
          induction k2 with
          | zero =>
            intro j at2 hj hat2 reach
            apply f84_L2_of
            have fin : ∀ bb, f84_L3 (some ⟨ba, 0, none⟩) time at2 q qn qc (qn : Int) (i : Int) bb h2 fun v H' => ∃ x e, v = .tuple #[.int .u64 x, e] ∧ inU x ∧ IsI e ∧ Sub H H' := by
              intro bb
              apply f84_L3_of
              refine ⟨fun _ => ?_, fun _ => ?_⟩
              · obtain ⟨tt, xx, hxx⟩ := (hG.sub hs') 1 (by simp)
                exact ⟨tt, xx, hxx, 0, _, rfl, by simp [inU], IsI.some _ _, hs'⟩
              · apply f84_L4_of
                unfold f84_L4_pre
                rw [wrapS (by omega)]
                exact ih (i + 1) at2 h2 (by omega) hs' hat2
            exact ⟨fun hd => absurd (of_decide_eq_true hd) (by omega), fun _ => ⟨fun _ => fin _, fun _ => fin _⟩⟩
          | succ k2 ih2 =>
            intro j at2 hj hat2 reach
            apply f84_L2_of
            refine ⟨fun _ => ?_, fun hd => absurd (of_decide_eq_false hd) (by simp; omega)⟩
            obtain ⟨b2, o2, hp2, hc2⟩ := ho.cells (i := j) (by omega)
            refine ⟨b2, o2, hp2, by omega, by omega, _, _, _, _, _, _, _, _, hc2, fun _ => ⟨fun _ => ⟨at2, _, rfl, hat2, IsI.nil, hs'⟩, fun _ => ?_⟩⟩
            rw [wrapS (by omega)]
            exact ih2 (j + 1) _ (by omega) (hok _ (List.getElem_mem _)).1 reach
        exact inner n' 0 at_ (by omega) hat _
  exact loop qn 0 0 H (by omega) (Sub.refl _) (by simp [inU])

/-- What wholeChain hands back: nil, or a chain within the path. -/
def wholePost (H : Heap) (esM : Array MapEntry) (path : List Leg) (m : Man) (v : Value) (H' : Heap) : Prop :=
  ∃ p n c, v = .slice p n c ∧ Sub H H' ∧ ((p = none ∧ n = 0 ∧ c = 0 ∧ (iget esM.toList m.id = some m.val → ∀ l, ChL esM m.id l → ∃ x ∈ l, withinL x path = false)) ∨ ∃ xs : List Man, New H p ∧ p ≠ none ∧ Mans H' p n c xs ∧ n ≤ 131072 ∧ 0 < n ∧ UpOk xs ∧
    (∀ x ∈ xs, iget esM.toList x.id = some x.val ∧ x.start ≤ x.stop) ∧ (∀ x, xs.head? = some x → x.par = 0 ∧ x.pn = 4) ∧ (∀ x, xs.getLast? = some x → x.id = m.id) ∧ (∀ x ∈ xs, withinL x path = true) ∧ ChL esM m.id xs.reverse)

theorem f91_ht (hA : Arch H ba esM esL esH) (hG : Globs H) {q : Option Addr} {qn qc : Nat} {path : List Leg} (hr : ReadL H 3 Leg.cs q qn path) (hn : qn < 2 ^ 32) (m : Man) :
    HT Tryz.prog 91 [.iface 44 (.pointer (some ⟨ba, 0, none⟩)), .slice q qn qc, m.val] H (wholePost H esM path m) := by
  apply f91_of
  intro _
  refine (f108_ht (qc := qc) hr hn (m := m)).mono fun v h1 ⟨he, hv⟩ => ⟨_, hv, fun hwf => ?_, fun _ => ?_⟩
  · subst he
    refine ⟨none, 0, 0, rfl, Sub.refl _, .inl ⟨rfl, rfl, rfl, fun hm l hl => ?_⟩⟩
    obtain ⟨m', r, rfl, h3, _⟩ := hl.head
    have := man_uniq hm h3
    subst this
    exact ⟨m, List.mem_cons_self, by simpa using hwf⟩
  · subst he
    refine (f109_ht hA hG m.id).mono fun v h2 ⟨p, n, c, e, hv, he, hs, hpost, hbad⟩ => ⟨p, n, c, e, hv, _, neqErr he, fun hnn => ?_, fun hnil => ?_⟩
    · exact ⟨none, 0, 0, rfl, hs, .inl ⟨rfl, rfl, rfl, fun _ l hl => absurd hl (hbad (fun h => by rw [h] at hnn; cases hnn) l)⟩⟩
    · have hen : e = .nilIface := by
        rcases he with h | ⟨t, x, h⟩
        · exact h
        · rw [h] at hnil; cases hnil
      obtain ⟨xs, hnew, hpn, ho, hn1, hn0, hup, hall, hhead, hlast, hch⟩ := hpost hen
      have hlen := ho.len
      have loop : ∀ (k i : Nat), i + k = n → (∀ j (hj : j < xs.length), j < i → withinL xs[j] path = true) → f91_L1 q qn qc p n c p n c (n : Int) (i : Int) h2 (wholePost h1 esM path m) := by
        intro k
        induction k with
        | zero =>
          intro i hi hw
          apply f91_L1_of
          refine ⟨fun hd => absurd (of_decide_eq_true hd) (by omega), fun _ => ⟨p, n, c, rfl, hs, .inr ⟨xs, hnew, hpn, ho, hn1, hn0, hup, hall, hhead, hlast, ?_, hch⟩⟩⟩
          intro x hx
          obtain ⟨j, hj, rfl⟩ := List.mem_iff_getElem.1 hx
          exact hw j hj (by omega)
        | succ k ih =>
          intro i hi hw
          apply f91_L1_of
          refine ⟨fun _ => ?_, fun hd => absurd (of_decide_eq_false hd) (by simp; omega)⟩
          obtain ⟨b, o, hp, hc⟩ := ho.cells (i := i) (by omega)
          refine ⟨b, o, hp, by omega, by omega, _, _, _, _, _, _, _, _, hc, fun _ => ?_⟩
          refine (f108_ht (qc := qc) (hr.sub hs) hn (m := xs[i])).mono fun v h3 ⟨he, hv⟩ => ⟨_, hv, fun hwf => ?_, fun hwt => ?_⟩
          · subst he
            refine ⟨none, 0, 0, rfl, hs, .inl ⟨rfl, rfl, rfl, fun _ l hl => ⟨xs[i], ?_, by simpa using hwf⟩⟩⟩
            rw [ChL.uniq _ _ _ hl hch]
            exact List.mem_reverse.2 (List.getElem_mem _)
          · subst he
            rw [wrapS (by omega)]
            refine ih (i + 1) (by omega) fun j hj hji => ?_
            by_cases hji' : j < i
            · exact hw j hj hji'
            · obtain rfl : j = i := by omega
              simpa using hwt
      exact loop n 0 (by omega) (fun j hj h => by omega)

end

end Go.Proofs.Qxb6500694aGreatDoor
