/-
  THE PLANE, PART I: engrave.
-/
import Derived.Test.Qxb6500695aGreatFmtXh
import Derived.Test.Qxb6500695aGreatFmtEngP
namespace Go.Proofs.Qxb6500695aGreatFmt
open Go Go.Eng Go.Proofs
set_option maxRecDepth 100000
set_option linter.unusedVariables false
set_option linter.unusedSimpArgs false
set_option linter.unusedSectionVars false

theorem flat_rep {α : Type} {enc : α → List Value} {x0 : α} {z : Value} (hx : enc x0 = [z]) : ∀ k, (List.replicate k x0).flatMap enc = List.replicate k z
  | 0 => rfl
  | k + 1 => by rw [List.replicate_succ, List.flatMap_cons, hx, flat_rep hx k, List.replicate_succ]; rfl

/-- append of zeros to a list that is owned and tagged. -/
theorem appZ {α : Type} {S : Nat × Int → Prop} {H : Heap} {g : Gh} {tg : Nat × Int} {P : Program} {t t2 T ty : TypeId} {inf : TypeInfo} {z : Value} {enc : α → List Value} {p : Option Addr} {n c k : Nat} {xs : List α} {x0 : α} {K : Value → Heap → Prop}
    (ht : P.underlying t = some (.slice T)) (ht2 : P.underlying t2 = some (.int .i64)) (hi : P.info? T = some inf) (hz : inf.zero = some z) (hz1 : z.cells = #[z]) (hsz : inf.size = 1) (hz2 : z.oneCell' = true) (hby : inf.bytes ≤ 4096)
    (hx : enc x0 = [z]) (hg : GOk H g) (hs : OwnT H g tg T 1 enc p n c xs) (hS : S tg) (hn : n + k < 2 ^ 32) (hk : 0 < k)
    (h3 : ∀ p' c' H' g', p' ≠ none → Ev S H g H' g' → OwnT H' g' tg T 1 enc p' (n + k) c' (xs ++ List.replicate k x0) → (∀ b' o', H b' = some o' → (∀ a, p = some a → a.block ≠ b') → H' b' = some o') → K (.slice p' (n + k) c') H') :
    SemOk P (Builtin.append_ #[t, t2] ty #[.slice p n c, .int .i64 (k : Int)]) H K := by
  have hlen := hs.own.len
  have hflat : (xs ++ List.replicate k x0).flatMap enc = xs.flatMap enc ++ List.replicate k z := by
    rw [List.flatMap_append, flat_rep hx]
  have hown : Own H T inf.size p n c (xs.flatMap enc) := by rw [hsz]; exact hs.own.own
  refine semOk_appendZ ht ht2 hi hz hz1 hsz hz2 hby hown hn hk (fun b o arr H' hp hb hfit hc hw => ?_) fun c' b' H' hc' ha => ?_
  · have hgb : g b = some tg := hs.tag _ hp
    refine h3 p c H' g (by rw [hp]; simp) (Ev.wr hg hw fun tg' htg => by rw [hgb] at htg; cases htg; exact hS) ⟨⟨by simp [hlen], hs.own.size, .inr ⟨b, o, _, hp, hw.same, hc, ?_, ?_⟩⟩, hs.tag⟩ fun b2 o2 hb2 hne => hw.keep hb2 (Ne.symm (hne _ hp))
    · rw [setAll_size]
      rcases hs.own.own with ⟨h9, _⟩ | ⟨b2, o2, arr2, hp2, hb2, _, h10, _⟩
      · rw [hp] at h9; cases h9
      · rw [hp] at hp2
        simp at hp2
        obtain ⟨rfl, rfl⟩ := hp2
        rw [hb] at hb2
        simp at hb2
        rw [hb2]; exact h10
    · have hrow : xs.flatMap enc = (arr.toList.drop o).take n := by
        rcases hs.own.own with ⟨h9, _⟩ | ⟨b2, o2, arr2, hp2, hb2, _, _, h11⟩
        · rw [hp] at h9; cases h9
        · rw [hp] at hp2
          simp at hp2
          obtain ⟨rfl, rfl⟩ := hp2
          rw [hb] at hb2
          simp at hb2
          rw [hb2, h11]; simp
      have := row_append (arr := arr) (o := o) (k := n) (ys := List.replicate k z) (by simp; omega)
      rw [hflat, hrow, Nat.mul_one]
      simpa using this.symm
  · obtain ⟨e1, t1⟩ := Ev.al (S := S) hg ha tg
    refine h3 _ c' H' _ (by simp) e1 ⟨⟨by simp [hlen], hs.own.size, .inr ⟨b', 0, _, rfl, ha.same, hc', ?_, ?_⟩⟩, fun a ha' => by cases ha'; exact t1⟩ fun b2 o2 hb2 _ => ha.keep hb2
    · have hl : (xs.flatMap enc).length = n := by rw [flat_len hs.own.size, hlen]; simp
      rw [hz1]
      simp only [Array.size_append, List.size_toArray, List.length_append, List.length_replicate, hl, zeroCells_eq]
      simp
      omega
    · have hl : (xs.flatMap enc ++ List.replicate k z).length = n + k := by
        rw [List.length_append, flat_len hs.own.size, hlen]; simp
      rw [hflat, List.drop_zero, Array.toList_append, Nat.mul_one]
      rw [List.take_append_of_le_length (by simp only [List.toList_toArray]; omega), List.take_of_length_le (by simp only [List.toList_toArray]; omega)]

/-- A value on the media. -/
def Pl.eng (P : Pl) (i : Nat) (bs : List Int) : Pl :=
  ⟨(if i < P.media.length then P.media else P.media ++ List.replicate (i + 1 - P.media.length) none).set i (some bs), P.cache⟩

section
variable {H : Heap} {g : Gh} {e : Int} {pb ss ns bd : Nat} {P : Pl}

theorem Secs.nils : ∀ k, Secs H g ss (List.replicate k Sec.nil) (List.replicate k none)
  | 0 => trivial
  | k + 1 => ⟨rfl, Secs.nils k⟩

theorem Secs.app : ∀ {l l' : List Sec} {vs vs' : List (Option (List Int))}, Secs H g ss l vs → Secs H g ss l' vs' → Secs H g ss (l ++ l') (vs ++ vs')
  | [], _, [], _, _, h => h
  | _ :: _, _, _ :: _, _, h, h' => ⟨h.1, Secs.app h.2 h'⟩
  | [], _, _ :: _, _, h, _ => h.elim
  | _ :: _, _, [], _, h, _ => h.elim

def SpM (e : Int) (tg : Nat × Int) : Prop := tg = (12, e) ∨ tg = (13, e)

theorem SpM.le {e : Int} {tg : Nat × Int} (h : SpM e tg) : SpP e tg := by
  rcases h with rfl | rfl
  · exact ⟨rfl, .inl rfl⟩
  · exact ⟨rfl, .inr (.inl rfl)⟩

theorem SpM.n14 {e : Int} : ¬ SpM e (14, e) := fun h => by
  rcases h with h | h <;> cases h

theorem SpM.n100 {e : Int} {i : Nat} : ¬ SpM e (100 + i, e) := fun h => by
  rcases h with h | h
  · have := congrArg Prod.fst h; simp at this; omega
  · have := congrArg Prod.fst h; simp at this; omega

/-- The media is turned; the cache stands. -/
theorem PlOk.media {H' : Heap} {g' : Gh} (h : PlOk H g e pb ss ns bd P) (ev : Ev (SpM e) H g H' g') {mp : Option Addr} {mn mc r : Nat} {ml : List Sec} {md : List (Option (List Int))}
    (hr : ∃ mp0 mn0 mc0, H pb = some (.cells #[.int .i64 (ss : Int), .slice mp0 mn0 mc0, .map (some r)] 244 (0, 0)))
    (h1 : H' pb = some (.cells #[.int .i64 (ss : Int), .slice mp mn mc, .map (some r)] 244 (0, 0))) (h2 : OwnT H' g' (13, e) 35 1 Sec.cs mp mn mc ml) (h3 : Secs H' g' ss ml md) (h4 : mn ≤ ns) : PlOk H' g' e pb ss ns bd ⟨md, P.cache⟩ := by
  obtain ⟨mp', mn', mc', r', ml', es, ck, k1, k2, k3, k4, k5, k6, k7, k8, k9⟩ := h.ex
  obtain ⟨mp0, mn0, mc0, hr⟩ := hr
  rw [k1] at hr
  have : r' = r := by
    simp at hr
    exact hr.2
  subst this
  exact ⟨h.ssb, h.nsb, ev.tag _ _ h.tp, mp, mn, mc, r', ml, es, ck, h1, h2, h3, h4, ev.tag _ _ k5, ev.get k5 SpM.n14 k6, k7, fun en hen => (k8 en hen).ev ev (fun h => SpP.zero h.le) SpM.n100, k9⟩

theorem f174_L1_ht {H0 : Heap} {g0 : Gh} (hg : GOk H g) (hE : Ev (SpM e) H0 g0 H g) (h : PlOk H g e pb ss ns bd P) {i : Nat} (hi : i < P.media.length) {s : Sec} {bs : List Int} (hs : SecOk H g ss s bs) :
    f174_L1 (some ⟨pb, 0, none⟩) (i : Int) s.p s.n s.c H fun v H' => ∃ g', v = .tuple #[] ∧ Ev (SpM e) H0 g0 H' g' ∧ PlOk H' g' e pb ss ns bd ⟨P.media.set i (some bs), P.cache⟩ := by
  obtain ⟨mp, mn, mc, r, ml, es, ck, h1, h2, h3, h4, h5, h6, h7, h8, h9⟩ := h.ex
  have hlen := h2.own.len
  have hl2 := h3.len
  apply f174_L1_of
  obtain ⟨b, o, arr, hp, hb, hsz, hc, hset⟩ := h2.own.at (i := i) (by omega)
  refine ⟨pb, 0, rfl, _, _, _, Cells.of h1 rfl, b, o, hp, by omega, by omega, arr, 35, hb, by simpa using hsz, fun H' hw => ?_⟩
  have hgb : g b = some (13, e) := h2.tag _ hp
  have ev : Ev (SpM e) H g H' g := Ev.wr hg hw fun tg htg => by rw [hgb] at htg; cases htg; exact .inr rfl
  have hne : pb ≠ b := fun hpb => by
    have := h.tp
    rw [hpb, hgb] at this
    cases this
  have h1' : H' pb = some (.cells #[.int .i64 (ss : Int), .slice mp mn mc, .map (some r)] 244 (0, 0)) := by rw [hw.other hne]; exact h1
  refine ⟨g, rfl, hE.trans ev, h.media ev ⟨_, _, _, h1⟩ h1' ⟨hset s H' (by simpa [Sec.cs, Sec.val] using hw), fun a ha => h2.tag a ha⟩ ?_ h4⟩
  exact (h3.ev ev (fun h => SpP.zero h.le)).set (SecV.ev (v := some bs) hs ev (fun h => SpP.zero h.le)) i

theorem f174_ht (hg : GOk H g) (h : PlOk H g e pb ss ns bd P) {i : Nat} (hi : i < ns) {s : Sec} {bs : List Int} (hs : SecOk H g ss s bs) :
    HT Tryz.prog 174 [.pointer (some ⟨pb, 0, none⟩), .int .i64 (i : Int), .slice s.p s.n s.c] H fun v H' => ∃ g', v = .tuple #[] ∧ Ev (SpM e) H g H' g' ∧ PlOk H' g' e pb ss ns bd (P.eng i bs) := by
  obtain ⟨mp, mn, mc, r, ml, es, ck, h1, h2, h3, h4, h5, h6, h7, h8, h9⟩ := h.ex
  have hlen := h2.own.len
  have hl2 := h3.len
  have hnb := h.nsb
  apply f174_of
  refine ⟨pb, 0, rfl, mp, mn, mc, Cells.of h1 rfl, fun hd => ?_, fun hd => ?_⟩
  · have hd := of_decide_eq_true hd
    obtain ⟨sb, so, sarr, hsp, hst, hsb, _⟩ := hs.row
    refine ⟨_, binIs_slice_eql Tryz.underlying35, (fun hx => by rw [hsp] at hx; cases hx), fun _ => ?_⟩
    have hw : IntKind.wrap .i64 (IntKind.wrap .i64 ((i : Int) + 1) - (mn : Int)) = ((i + 1 - mn : Nat) : Int) := by
      rw [wrapS (by omega), wrapI] <;> omega
    refine ⟨pb, 0, rfl, mp, mn, mc, Cells.of h1 rfl, pb, 0, rfl, mp, mn, mc, Cells.of h1 rfl, ?_⟩
    rw [hw]
    refine appZ (S := SpM e) (x0 := Sec.nil) (z := .slice none 0 0) (inf := Tryz.t35) Tryz.underlying37 Tryz.underlying2 (by kernel_rfl) (by kernel_rfl) rfl (by kernel_rfl) rfl (by decide) rfl hg h2 (.inr rfl) (by omega) (by omega) fun p' c' H1 g1 hpn e1 o1 k1 => ⟨p', _, c', rfl, ?_⟩
    have hpb : ∀ a, mp = some a → a.block ≠ pb := fun a ha hab => by
      have := h2.tag a ha
      rw [hab, h.tp] at this
      cases this
    have h11 := k1 pb _ h1 hpb
    refine ⟨Cells.of h11 rfl, pb, 0, rfl, _, _, h11, by simp, fun H2 hw2 => ?_⟩
    have hw2' : Wr H1 pb (.cells #[.int .i64 (ss : Int), .slice p' (mn + (i + 1 - mn)) c', .map (some r)] 244 (0, 0)) H2 := hw2
    have e2 : Ev (SpM e) H1 g1 H2 g1 := Ev.wr e1.ok hw2' fun tg htg => by rw [e1.tag _ _ h.tp] at htg; cases htg; exact .inl rfl
    have e12 := e1.trans e2
    have o2 : OwnT H2 g1 (13, e) 35 1 Sec.cs p' (mn + (i + 1 - mn)) c' (ml ++ List.replicate (i + 1 - mn) Sec.nil) :=
      o1.ev (Ev.wr (S := fun tg => tg = (12, e)) e1.ok hw2' fun tg htg => by rw [e1.tag _ _ h.tp] at htg; cases htg; rfl) (fun h => by cases h)
    have hP2 : PlOk H2 g1 e pb ss ns bd ⟨P.media ++ List.replicate (i + 1 - mn) none, P.cache⟩ :=
      h.media e12 ⟨_, _, _, h1⟩ hw2'.same o2 ((h3.ev e12 (fun h => SpP.zero h.le)).app (Secs.nils _)) (by omega)
    have := f174_L1_ht e12.ok e12 hP2 (i := i) (by simp; omega) (SecV.ev (v := some bs) hs e12 (fun h => SpP.zero h.le))
    have heq : P.eng i bs = ⟨(P.media ++ List.replicate (i + 1 - mn) none).set i (some bs), P.cache⟩ := by
      unfold Pl.eng
      rw [if_neg (by omega)]
      have : P.media.length = mn := by omega
      rw [this]
    rw [heq]
    exact this
  · have hd := of_decide_eq_false hd
    have := f174_L1_ht hg (Ev.refl hg) h (i := i) (by omega) hs
    have heq : P.eng i bs = ⟨P.media.set i (some bs), P.cache⟩ := by
      unfold Pl.eng
      rw [if_pos (by omega)]
    rw [heq]
    exact this

end

end Go.Proofs.Qxb6500695aGreatFmt
