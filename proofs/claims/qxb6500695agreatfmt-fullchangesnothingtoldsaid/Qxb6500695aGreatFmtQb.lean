/-
  THE WITNESS: a picker that remembers.
-/
import Derived.Test.Qxb6500695aGreatFmtQa
import Derived.Test.Qxb6500695aGreatFmtXs
import Derived.Test.Qxb6500695aGreatFmtVl
namespace Go.Proofs.Qxb6500695aGreatFmt
open Go Go.Eng Go.Proofs
set_option maxRecDepth 100000
set_option linter.unusedVariables false
set_option linter.unusedSimpArgs false
set_option linter.unusedSectionVars false

/-- The last question on a place, and its answer. -/
def lastA (tr : List Ask) (q : Plc) : Option (Nat × Nat) := (tr.reverse.find? fun x => x.1 == q).map (·.2)

theorem lastA_snoc (tr : List Ask) (p : Plc) (n k : Nat) (q : Plc) : lastA (tr ++ [(p, n, k)]) q = if q = p then some (n, k) else lastA tr q := by
  unfold lastA
  rw [List.reverse_append, List.reverse_cons, List.reverse_nil, List.nil_append, List.singleton_append, List.find?_cons]
  by_cases h : q = p
  · subst h; simp
  · have : (p == q) = false := by simpa using fun hc => h hc.symm
    simp [this, h]

theorem lastA_nil (q : Plc) : lastA [] q = none := rfl

theorem lastA_append (t1 t2 : List Ask) (q : Plc) : lastA (t1 ++ t2) q = (lastA t2 q).or (lastA t1 q) := by
  unfold lastA
  rw [List.reverse_append, List.find?_append]
  cases (t2.reverse.find? fun x => x.1 == q) <;> simp

theorem lastA_none {tr : List Ask} {q : Plc} (h : ∀ x ∈ tr, x.1 ≠ q) : lastA tr q = none := by
  unfold lastA
  rw [Option.map_eq_none_iff, List.find?_eq_none]
  intro x hx
  simpa using h x (by simpa using hx)

/-- An answer brought into 0..n. -/
def nrm (v : Int) (n : Nat) : Nat := (if Int.tmod v ((n + 1 : Nat) : Int) < 0 then Int.tmod v ((n + 1 : Nat) : Int) + ((n + 1 : Nat) : Int) else Int.tmod v ((n + 1 : Nat) : Int)).toNat

theorem tmod_rng (v : Int) (n : Nat) : -((n + 1 : Nat) : Int) < Int.tmod v ((n + 1 : Nat) : Int) ∧ Int.tmod v ((n + 1 : Nat) : Int) < ((n + 1 : Nat) : Int) := by
  refine ⟨?_, Int.tmod_lt_of_pos v (by omega)⟩
  rcases Int.lt_or_le v 0 with h | h
  · have h1 : Int.tmod v ((n + 1 : Nat) : Int) = -(Int.tmod (-v) ((n + 1 : Nat) : Int)) := by rw [Int.neg_tmod]; omega
    have h2 := Int.tmod_lt_of_pos (-v) (b := ((n + 1 : Nat) : Int)) (by omega)
    omega
  · have := Int.tmod_nonneg (a := v) ((n + 1 : Nat) : Int) h
    omega

theorem nrm_le (v : Int) (n : Nat) : nrm v n ≤ n := by
  have := tmod_rng v n
  unfold nrm
  split <;> omega

/-- What a witness's asking turns. -/
def SpX (tg : Nat × Int) : Prop := 31 ≤ tg.1 ∧ tg.1 ≤ 33

theorem SpX.le {tg : Nat × Int} (h : SpX tg) : Spk tg := ⟨by have := h.1; omega, by have := h.2; omega⟩

/-- A witness as it lies. -/
def WtR (wb : Nat) (tr : List Ask) (H : Heap) (g : Gh) : Prop :=
  g wb = some (31, 0) ∧ ∃ (p : Option Addr) (n c : Nat) (xs : List Int) (ab cb mb : Nat) (ae ce me : Array MapEntry) (ac cc mc : Nat),
    H wb = some (.cells #[.slice p n c, .int .i64 (tr.length : Int), .map (some ab), .map (some cb), .map (some mb)] 76 (0, 0)) ∧ n = xs.length ∧ n < 2 ^ 32 ∧ (0 < n → ∃ b o, p = some ⟨b, o, none⟩ ∧ g b = some (0, 0) ∧ Cells H b o (xs.flatMap I64.cs)) ∧
    (g ab = some (32, 0) ∧ H ab = some (.map ae ac) ∧ KeysP ae.toList ∧ ∀ q, pget ae.toList q = (lastA tr q).map fun x => .int .i64 (x.1 : Int)) ∧
    (g cb = some (33, 0) ∧ H cb = some (.map ce cc) ∧ KeysP ce.toList ∧ ∀ q, pget ce.toList q = (lastA tr q).map fun x => .int .i64 (x.2 : Int)) ∧
    g mb = some (34, 0) ∧ H mb = some (.map me mc) ∧ KeysP me.toList

section
variable {S : Nat × Int → Prop} {H H' : Heap} {g g' : Gh} {tb wb : Nat} {tr : List Ask}

theorem WtR.ev (h : WtR wb tr H g) (ev : Ev S H g H' g') (hS : ∀ tg, Spk tg → ¬ S tg) (h0 : ¬ S (0, 0)) : WtR wb tr H' g' := by
  obtain ⟨h1, p, n, c, xs, ab, cb, mb, ae, ce, me, ac, cc, mc, h2, h3, h4, h5, ⟨a1, a2, a3, a4⟩, ⟨c1, c2, c3, c4⟩, m1, m2, m3⟩ := h
  refine ⟨ev.tag _ _ h1, p, n, c, xs, ab, cb, mb, ae, ce, me, ac, cc, mc, ev.get h1 (hS _ ⟨by decide, by decide⟩) h2, h3, h4, fun hp => ?_, ⟨ev.tag _ _ a1, ev.get a1 (hS _ ⟨by decide, by decide⟩) a2, a3, a4⟩, ⟨ev.tag _ _ c1, ev.get c1 (hS _ ⟨by decide, by decide⟩) c2, c3, c4⟩, ev.tag _ _ m1, ev.get m1 (hS _ ⟨by decide, by decide⟩) m2, m3⟩
  obtain ⟨b, o, q1, q2, q3⟩ := h5 hp
  exact ⟨b, o, q1, ev.tag _ _ q2, Cells.ev q3 q2 ev h0⟩

theorem f19_ht (hg : GOk H g) {p : Option Addr} {n c : Nat} {xs : List Int} (hn : n = xs.length) (hb : n < 2 ^ 32) (hp : 0 < n → ∃ b o, p = some ⟨b, o, none⟩ ∧ g b = some (0, 0) ∧ Cells H b o (xs.flatMap I64.cs)) :
    HT Tryz.prog 19 [.slice p n c] H fun v H' => ∃ wb g', v = .pointer (some ⟨wb, 0, none⟩) ∧ Ev (fun _ => False) H g H' g' ∧ WtR wb [] H' g' := by
  apply f19_of
  intro ab H1 h1 cb H2 h2 mb H3 h3 wb H4 h4
  obtain ⟨e1, t1⟩ := Ev.al (S := fun _ => False) hg h1 (32, 0)
  obtain ⟨e2, t2⟩ := Ev.al (S := fun _ => False) e1.ok h2 (33, 0)
  obtain ⟨e3, t3⟩ := Ev.al (S := fun _ => False) e2.ok h3 (34, 0)
  obtain ⟨e4, t4⟩ := Ev.al (S := fun _ => False) e3.ok h4 (31, 0)
  have e34 := e3.trans e4
  have e24 := e2.trans e34
  have e14 := e1.trans e24
  have hK : KeysP (#[] : Array MapEntry).toList := fun e he => by cases he
  refine ⟨wb, _, rfl, e14, t4, p, n, c, xs, ab, cb, mb, #[], #[], #[], 0, 0, 0, h4.same, hn, hb, fun hp' => ?_, ⟨e24.tag _ _ t1, e24.get t1 (fun h => h) h1.same, hK, fun q => rfl⟩, ⟨e34.tag _ _ t2, e34.get t2 (fun h => h) h2.same, hK, fun q => rfl⟩, e4.tag _ _ t3, e4.get t3 (fun h => h) h3.same, hK⟩
  obtain ⟨b, o, q1, q2, q3⟩ := hp hp'
  exact ⟨b, o, q1, e14.tag _ _ q2, Cells.ev q3 q2 e14 (fun h => h)⟩

theorem f144x_ht (v : Int) {n : Nat} (hn : n < 2 ^ 32) : HT Tryz.prog 144 [.int .i64 v, .int .i64 (n : Int)] H fun r H' => H' = H ∧ r = .int .i64 (nrm v n : Int) := by
  apply f144_of
  have hw : IntKind.wrap .i64 ((n : Int) + 1) = ((n + 1 : Nat) : Int) := wrapS (by omega)
  unfold f144_pre
  rw [hw]
  have hne : ((n + 1 : Nat) : Int) ≠ 0 := by omega
  have hr := tmod_rng v n
  unfold nrm
  refine ⟨_, binIs_rem (P := Tryz.prog) (t := 3) (x := .tmp 8) (y := .tmp 9) hne, fun hd => ?_, fun hd => ?_⟩
  · have hd := of_decide_eq_true hd
    have hw2 : IntKind.wrap .i64 (Int.tmod v ((n + 1 : Nat) : Int) + ((n + 1 : Nat) : Int)) = Int.tmod v ((n + 1 : Nat) : Int) + ((n + 1 : Nat) : Int) := by rw [wrapI] <;> omega
    rw [hw2]
    apply f144_L1_of
    rw [if_pos hd]
    exact ⟨rfl, by congr 1; omega⟩
  · have hd := of_decide_eq_false hd
    apply f144_L1_of
    rw [if_neg hd]
    exact ⟨rfl, by congr 1; omega⟩

theorem f269_ht (hg : GOk H g) (h : WtR wb tr H g) (htr : tr.length < 2 ^ 50) (a o s : Int) {n : Nat} (hn : n < 2 ^ 32) :
    HT Tryz.prog 269 [.pointer (some ⟨wb, 0, none⟩), .agg #[.int .u8 a, .int .u64 o, .int .i64 s], .int .i64 (n : Int)] H fun v H' => ∃ x : Int, v = .int .i64 x ∧ Ev SpX H g H' g ∧ WtR wb (tr ++ [((a, o, s), n, nrm x n)]) H' g := by
  obtain ⟨h1, p, pn, c, xs, ab, cb, mb, ae, ce, me, ac, cc, mc, h2, h3, h4, h5, ⟨a1, a2, a3, a4⟩, ⟨c1, c2, c3, c4⟩, m1, m2, m3⟩ := h
  have hnab : ab ≠ wb := fun hc => by rw [hc, h1] at a1; cases a1
  have hncb : cb ≠ wb := fun hc => by rw [hc, h1] at c1; cases c1
  have last : ∀ x : Int, f269_L1 (some ⟨wb, 0, none⟩) (n : Int) a o s x H fun v H' => ∃ x : Int, v = .int .i64 x ∧ Ev SpX H g H' g ∧ WtR wb (tr ++ [((a, o, s), n, nrm x n)]) H' g := by
    intro x
    apply f269_L1_of
    refine ⟨wb, 0, rfl, _, Cells.of h2 rfl, wb, 0, rfl, _, _, h2, by simp, fun H1 hw1 => ?_⟩
    have hw1' : Wr H wb (.cells #[.slice p pn c, .int .i64 ((tr.length + 1 : Nat) : Int), .map (some ab), .map (some cb), .map (some mb)] 76 (0, 0)) H1 := by
      have := hw1
      rw [wrapS (by omega)] at this
      exact this
    have sp : ∀ {i : Nat}, 31 ≤ i → i ≤ 33 → SpX (i, 0) := fun h1 h2 => ⟨h1, h2⟩
    have e1 : Ev (fun tg => tg = (31, 0)) H g H1 g := Ev.wr hg hw1' fun tg htg => by rw [h1] at htg; cases htg; rfl
    have ha1 := e1.get a1 (fun hc => by cases hc) a2
    refine ⟨wb, 0, rfl, _, Cells.of hw1'.same rfl, ?_⟩
    refine semOk_mapUpdateP (n := (a, o, s)) Tryz.underlying73 ha1 a3 fun H2 hw2 => ?_
    obtain ⟨ae', ac', p1, p2, p3⟩ := mputP_ok (c := ac) (n := (a, o, s)) (v := .int .i64 (n : Int)) a3
    rw [p1] at hw2
    have e2 : Ev (fun tg => tg = (32, 0)) H1 g H2 g := Ev.wr e1.ok hw2 fun tg htg => by rw [a1] at htg; cases htg; rfl
    have hwb2 := e2.get h1 (fun hc => by cases hc) hw1'.same
    have hc2 := e2.get c1 (fun hc => by cases hc) (e1.get c1 (fun hc => by cases hc) c2)
    refine ⟨wb, 0, rfl, _, Cells.of hwb2 rfl, ?_⟩
    have hw : IntKind.wrap .i64 ((n : Int) + 1) = ((n + 1 : Nat) : Int) := wrapS (by omega)
    rw [hw]
    have hne : ((n + 1 : Nat) : Int) ≠ 0 := by omega
    have hr := tmod_rng x n
    refine ⟨_, binIs_rem (P := Tryz.prog) (t := 3) (x := .tmp 46) (y := .tmp 48) hne, ?_⟩
    have hw3 : IntKind.wrap .i64 (IntKind.wrap .i64 (Int.tmod x ((n + 1 : Nat) : Int) + (n : Int)) + 1) = Int.tmod x ((n + 1 : Nat) : Int) + ((n + 1 : Nat) : Int) := by
      have q1 : IntKind.wrap .i64 (Int.tmod x ((n + 1 : Nat) : Int) + (n : Int)) = Int.tmod x ((n + 1 : Nat) : Int) + (n : Int) := by rw [wrapI] <;> omega
      rw [q1, wrapI] <;> omega
    rw [hw3]
    refine ⟨_, binIs_rem (P := Tryz.prog) (t := 3) (x := .tmp 52) (y := .tmp 54) hne, ?_⟩
    have hch : Int.tmod (Int.tmod x ((n + 1 : Nat) : Int) + ((n + 1 : Nat) : Int)) ((n + 1 : Nat) : Int) = (nrm x n : Int) := by
      unfold nrm
      rw [Int.tmod_eq_emod_of_nonneg (by omega), Int.add_emod_right]
      split
      · rename_i hlt
        rw [← Int.add_emod_right, Int.emod_eq_of_lt (by omega) (by omega)]
        omega
      · rename_i hlt
        rw [Int.emod_eq_of_lt (by omega) (by omega)]
        omega
    rw [hch]
    refine semOk_mapUpdateP (n := (a, o, s)) Tryz.underlying73 hc2 c3 fun H3 hw3 => ?_
    obtain ⟨ce', cc', r1, r2, r3⟩ := mputP_ok (c := cc) (n := (a, o, s)) (v := .int .i64 (nrm x n : Int)) c3
    rw [r1] at hw3
    have e3 : Ev (fun tg => tg = (33, 0)) H2 g H3 g := Ev.wr e2.ok hw3 fun tg htg => by rw [c1] at htg; cases htg; rfl
    have n0 : ∀ {i j : Nat} {z : Int}, i ≠ j → ¬ ((fun tg : Nat × Int => tg = (j, 0)) (i, z)) := fun hij hc => hij (by simpa using congrArg Prod.fst hc)
    have hm3 := e3.get m1 (n0 (by decide)) (e2.get m1 (n0 (by decide)) (e1.get m1 (n0 (by decide)) m2))
    refine ⟨x, rfl, ((e1.mono fun tg ht => by rw [ht]; exact sp (by decide) (by decide)).trans (e2.mono fun tg ht => by rw [ht]; exact sp (by decide) (by decide))).trans (e3.mono fun tg ht => by rw [ht]; exact sp (by decide) (by decide)), h1, p, pn, c, xs, ab, cb, mb, ae', ce', me, ac', cc', mc, ?_, h3, h4, fun hp' => ?_, ⟨a1, e3.get a1 (n0 (by decide)) hw2.same, p2, fun q => ?_⟩, ⟨c1, hw3.same, r2, fun q => ?_⟩, m1, hm3, m3⟩
    · rw [List.length_append]
      exact e3.get h1 (n0 (by decide)) hwb2
    · obtain ⟨b, o', q1, q2, q3⟩ := h5 hp'
      exact ⟨b, o', q1, q2, Cells.ev (Cells.ev (Cells.ev q3 q2 e1 (n0 (by decide))) q2 e2 (n0 (by decide))) q2 e3 (n0 (by decide))⟩
    · rw [p3, lastA_snoc, a4]
      split <;> rfl
    · rw [r3, lastA_snoc, c4]
      split <;> rfl
  apply f269_of
  intro _
  refine ⟨wb, 0, rfl, _, Cells.of h2 rfl, wb, 0, rfl, p, pn, c, Cells.of h2 rfl, fun hd => ?_, fun _ => last 0⟩
  have hd := of_decide_eq_true hd
  obtain ⟨b, o', q1, q2, q3⟩ := h5 (by omega)
  refine ⟨wb, 0, rfl, p, pn, c, Cells.of h2 rfl, wb, 0, rfl, _, Cells.of h2 rfl, b, o', q1, by omega, by omega, xs[tr.length]'(by omega), ?_, last _⟩
  have hz : ∀ x, (I64.cs x).length = 1 := fun _ => rfl
  have hl : tr.length < xs.length := by omega
  have := q3.part (us := I64.cs xs[tr.length]) (tr.length * 1) (flat_get hz xs _ hl) (by rw [flat_len hz, hz]; omega)
  simpa [I64.cs] using this

/-- The witness behind a tally. -/
def PkW (tb wb : Nat) (tr : List Ask) (H : Heap) (g : Gh) : Prop :=
  g tb = some (30, 0) ∧ (∃ a b c : Int, H tb = some (.cells #[.iface 45 (.pointer (some ⟨wb, 0, none⟩)), .int .i64 a, .int .i64 b, .int .i64 c] 180 (0, 0))) ∧ WtR wb tr H g

theorem PkW.ev : ∀ tr H g H' g' (S : Nat × Int → Prop), PkW tb wb tr H g → Ev S H g H' g' → (∀ tg, Spk tg → ¬ S tg) → ¬ S (0, 0) → PkW tb wb tr H' g' := by
  intro tr H g H' g' S ⟨h1, ⟨a, b, c, h2⟩, h3⟩ ev hS h0
  exact ⟨ev.tag _ _ h1, ⟨a, b, c, ev.get h1 (hS _ ⟨by decide, by decide⟩) h2⟩, h3.ev ev hS h0⟩

theorem pkw_picker : Picker tb (PkW tb wb) := by
  refine ⟨PkW.ev, fun tr htr H g hg ⟨h1, ⟨x1, x2, x3, h2⟩, h3⟩ a o s n _ hn => ?_⟩
  apply f272w_of
  intro _
  refine ⟨tb, 0, rfl, _, Cells.of h2 rfl, ?_⟩
  refine (f269_ht hg h3 htr a o s hn).mono fun v H1 ⟨x, hv, e1, w1⟩ => ⟨_, hv, ?_⟩
  refine (f144x_ht x hn).mono fun v H2 ⟨he, hv2⟩ => ⟨_, hv2, ?_⟩
  subst he
  have k3 := e1.get h1 (fun hc => by have := hc.1; simp at this) h2
  have L : ∀ {y : Int}, Value.int .i64 y = Value.int .i64 y := rfl
  refine ⟨tb, 0, rfl, x1, Cells.of k3 rfl, tb, 0, rfl, _, _, k3, by simp, fun H3 hw3 => ?_⟩
  have hw3' : Wr H2 tb (.cells #[.iface 45 (.pointer (some ⟨wb, 0, none⟩)), .int .i64 (IntKind.wrap .i64 (x1 + 1)), .int .i64 x2, .int .i64 x3] 180 (0, 0)) H3 := hw3
  refine ⟨tb, 0, rfl, x2, Cells.of hw3'.same rfl, tb, 0, rfl, _, _, hw3'.same, by simp, fun H4 hw4 => ?_⟩
  have hw4' : Wr H3 tb (.cells #[.iface 45 (.pointer (some ⟨wb, 0, none⟩)), .int .i64 (IntKind.wrap .i64 (x1 + 1)), .int .i64 (IntKind.wrap .i64 (x2 + (n : Int))), .int .i64 x3] 180 (0, 0)) H4 := hw4
  have S30 : ∀ {G G' : Heap} {ob : Obj}, GOk G g → Wr G tb ob G' → Ev (fun tg => tg = (30, 0)) G g G' g := fun hG hw => Ev.wr hG hw fun tg htg => by rw [h1] at htg; cases htg; rfl
  have e3 := S30 e1.ok hw3'
  have e4 := S30 e3.ok hw4'
  have n30 : ∀ {q : Nat × Int}, q.1 ≠ 30 → ¬ ((fun tg : Nat × Int => tg = (30, 0)) q) := fun hq hc => hq (by have h' : _ = ((30 : Nat), (0 : Int)) := hc; rw [h'])
  have wev : ∀ {G : Heap}, Ev (fun tg => tg = (30, 0)) H2 g G g → WtR wb (tr ++ [((a, o, s), n, nrm x n)]) G g := by
    intro G ev
    obtain ⟨w1', p, pn, c, xs, ab, cb, mb, ae, ce, me, ac, cc, mc, q2, q3, q4, q5, ⟨a1, a2, a3, a4⟩, ⟨c1, c2, c3, c4⟩, m1, m2, m3⟩ := w1
    refine ⟨w1', p, pn, c, xs, ab, cb, mb, ae, ce, me, ac, cc, mc, ev.get w1' (n30 (by decide)) q2, q3, q4, fun hp => ?_, ⟨a1, ev.get a1 (n30 (by decide)) a2, a3, a4⟩, ⟨c1, ev.get c1 (n30 (by decide)) c2, c3, c4⟩, m1, ev.get m1 (n30 (by decide)) m2, m3⟩
    obtain ⟨b, o, r1, r2, r3⟩ := q5 hp
    exact ⟨b, o, r1, r2, Cells.ev r3 r2 ev (n30 (by decide))⟩
  have fin : ∀ {G : Heap} {y1 y2 y3 : Int}, Ev (fun tg => tg = (30, 0)) H2 g G g → G tb = some (.cells #[.iface 45 (.pointer (some ⟨wb, 0, none⟩)), .int .i64 y1, .int .i64 y2, .int .i64 y3] 180 (0, 0)) →
      ∃ (k' : Nat) (g' : Gh), Value.int .i64 (nrm x n : Int) = .int .i64 (k' : Int) ∧ k' ≤ n ∧ Ev Spk H g G g' ∧ PkW tb wb (tr ++ [((a, o, s), n, k')]) G g' := by
    intro G y1 y2 y3 eG hG
    exact ⟨nrm x n, g, rfl, nrm_le x n, (e1.mono fun tg htg => htg.le).trans (eG.mono fun tg htg => by rw [htg]; exact ⟨by decide, by decide⟩), h1, ⟨y1, y2, y3, hG⟩, wev eG⟩
  refine ⟨fun _ => ?_, fun _ => ?_⟩
  · refine ⟨tb, 0, rfl, x3, Cells.of hw4'.same rfl, tb, 0, rfl, _, _, hw4'.same, by simp, fun H5 hw5 => ?_⟩
    have hw5' : Wr H4 tb (.cells #[.iface 45 (.pointer (some ⟨wb, 0, none⟩)), .int .i64 (IntKind.wrap .i64 (x1 + 1)), .int .i64 (IntKind.wrap .i64 (x2 + (n : Int))), .int .i64 (IntKind.wrap .i64 (x3 + 1))] 180 (0, 0)) H5 := hw5
    apply f272w_L1_of
    exact fin ((e3.trans e4).trans (S30 e4.ok hw5')) hw5'.same
  · apply f272w_L1_of
    exact fin (e3.trans e4) hw4'.same

/-- Whether a place was asked about as it should have been. -/
theorem f29_ht (hg : GOk H g) (h : WtR wb tr H g) (m : Nat) (hm : m < 2 ^ 32) :
    HT Tryz.prog 29 [.pointer (some ⟨wb, 0, none⟩), .agg #[.int .u8 1, .int .u64 0, .int .i64 0], .int .i64 (m : Int)] H fun v H' =>
      v = .bool (if m ≤ 1 then decide (lastA tr (1, 0, 0) = none) else match lastA tr (1, 0, 0) with | some (n, _) => decide (n = m - 1) | none => false) ∧ Ev Spk H g H' g ∧ WtR wb tr H' g := by
  have hh := h
  obtain ⟨h1, p, pn, c, xs, ab, cb, mb, ae, ce, me, ac, cc, mc, h2, h3, h4, h5, ⟨a1, a2, a3, a4⟩, ⟨c1, c2, c3, c4⟩, m1, m2, m3⟩ := h
  have i3 : Tryz.prog.info? 3 = some Tryz.t3 := by kernel_rfl
  have hl := lookIs_plc (t := 73) (r := ab) (c := ac) (es := ae) (n := (1, 0, 0)) (ok := true) Tryz.underlying73 i3 (zero := .int .i64 0) rfl a3
  apply f29_of
  intro _
  unfold lookP at hl
  rw [a4] at hl
  cases hla : lastA tr (1, 0, 0) with
  | none =>
    rw [hla] at hl
    refine ⟨wb, 0, rfl, _, Cells.of h2 rfl, ab, ae, ac, rfl, a2, 0, false, hl, (fun h => by cases h), fun _ => ?_⟩
    apply f29_L1_of
    refine ⟨fun hd => ?_, fun hd => ⟨(fun h => by cases h), fun _ => ?_⟩⟩
    · have hd := of_decide_eq_true hd
      refine ⟨?_, Ev.refl hg, hh⟩
      rw [if_pos (by omega)]; rfl
    · have hd := of_decide_eq_false hd
      refine ⟨?_, Ev.refl hg, hh⟩
      rw [if_neg (by omega)]
  | some x =>
    obtain ⟨n, k⟩ := x
    rw [hla] at hl
    refine ⟨wb, 0, rfl, _, Cells.of h2 rfl, ab, ae, ac, rfl, a2, (n : Int), true, hl, fun _ => ?_, (fun h => by cases h)⟩
    refine ⟨wb, 0, rfl, _, Cells.of h2 rfl, ?_⟩
    refine semOk_mapUpdateP (n := (1, 0, 0)) Tryz.underlying74 m2 m3 fun H1 hw1 => ?_
    obtain ⟨me', mc', p1, p2, p3⟩ := mputP_ok (c := mc) (n := (1, 0, 0)) (v := .bool true) m3
    rw [p1] at hw1
    have e1 : Ev (fun tg => tg = (34, 0)) H g H1 g := Ev.wr hg hw1 fun tg htg => by rw [m1] at htg; cases htg; rfl
    have n34 : ∀ {q : Nat × Int}, q.1 ≠ 34 → ¬ ((fun tg : Nat × Int => tg = (34, 0)) q) := fun hq hc => hq (by have h' : _ = ((34 : Nat), (0 : Int)) := hc; rw [h'])
    have hw : WtR wb tr H1 g := ⟨h1, p, pn, c, xs, ab, cb, mb, ae, ce, me', ac, cc, mc', e1.get h1 (n34 (by decide)) h2, h3, h4, fun hp => let ⟨b, o, r1, r2, r3⟩ := h5 hp; ⟨b, o, r1, r2, Cells.ev r3 r2 e1 (n34 (by decide))⟩, ⟨a1, e1.get a1 (n34 (by decide)) a2, a3, a4⟩, ⟨c1, e1.get c1 (n34 (by decide)) c2, c3, c4⟩, m1, hw1.same, p2⟩
    have eS : Ev Spk H g H1 g := e1.mono fun tg ht => by rw [ht]; exact ⟨by decide, by decide⟩
    apply f29_L1_of
    refine ⟨fun hd => ?_, fun hd => ⟨fun _ => ?_, (fun h => by cases h)⟩⟩
    · have hd := of_decide_eq_true hd
      refine ⟨?_, eS, hw⟩
      rw [if_pos (by omega)]; rfl
    · have hd := of_decide_eq_false hd
      refine ⟨?_, eS, hw⟩
      have hw1 : IntKind.wrap .i64 ((m : Int) - 1) = ((m - 1 : Nat) : Int) := by rw [wrapI] <;> omega
      rw [if_neg (by omega), hw1]
      congr 1
      by_cases hn : n = m - 1
      · simp [hn]
      · have : ((n : Int) == ((m - 1 : Nat) : Int)) = false := by simpa using fun hc => hn (by omega)
        rw [this]
        simp [hn]

end

end Go.Proofs.Qxb6500695aGreatFmt
