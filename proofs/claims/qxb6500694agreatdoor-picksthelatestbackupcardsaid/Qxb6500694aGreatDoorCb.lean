/-
  CONTRACTS, PART B: paths: cutAt, ownerOf, within, Commits, Reverse.
-/
import Derived.Test.Qxb6500694aGreatDoorCa
namespace Go.Proofs.Qxb6500694aGreatDoor
open Go Go.Eng Go.Proofs
set_option maxRecDepth 100000
set_option linter.unusedVariables false
set_option linter.unusedSimpArgs false

theorem Leg.size (x : Leg) : (Leg.cs x).length = 3 := rfl
theorem Man.size (x : Man) : (Man.cs x).length = 6 := rfl
theorem Com.size (x : Com) : (Com.cs x).length = 4 := rfl
theorem Hist.size (x : Hist) : (Hist.cs x).length = 3 := rfl

abbrev Legs (H : Heap) (p : Option Addr) (n c : Nat) (xs : List Leg) : Prop := OwnL H 87 3 Leg.cs p n c xs
abbrev Mans (H : Heap) (p : Option Addr) (n c : Nat) (xs : List Man) : Prop := OwnL H 97 6 Man.cs p n c xs
abbrev Coms (H : Heap) (p : Option Addr) (n c : Nat) (xs : List Com) : Prop := OwnL H 77 4 Com.cs p n c xs
abbrev Hists (H : Heap) (p : Option Addr) (n c : Nat) (xs : List Hist) : Prop := OwnL H 65 3 Hist.cs p n c xs

section
variable {H0 H H1 : Heap} {p : Option Addr} {n c b ty : Nat} {K : Value → Heap → Prop}

theorem app_leg {xs : List Leg} (x : Leg) (ha : Al H (.cells #[.int .u32 x.tl, .int .u64 x.fr, .int .u64 x.to] 87 (0, 0)) b H1) (hs : Legs H p n c xs) (hn : n < 2 ^ 34) (h0 : Sub H0 H) (hnew : New H0 p)
    (h3 : ∀ p' c' H', Sub H0 H' → New H0 p' → Legs H' p' (n + 1) c' (xs ++ [x]) → (∀ b' o', H b' = some o' → (∀ a, p = some a → a.block ≠ b') → H' b' = some o') → K (.slice p' (n + 1) c') H') :
    SemOk Tryz.prog (Builtin.append_ #[81, 81] ty #[.slice p n c, .slice (some ⟨b, 0, none⟩) 1 1]) H1 K :=
  app1 (enc := Leg.cs) (x := x) (inf := Tryz.t87) (zero := .agg #[.int .u32 0, .int .u64 0, .int .u64 0]) Tryz.underlying81 (by kernel_rfl) (by kernel_rfl) rfl (by decide) rfl ha rfl (by simp [Leg.cs, Value.oneCell']) hs hn h0 hnew h3

theorem app_man {xs : List Man} (x : Man) (ha : Al H (.cells #[.int .u64 x.id, .int .u64 x.par, .int .u32 x.tl, .int .u64 x.start, .int .u64 x.stop, .slice x.pp x.pn x.pc] 97 (0, 0)) b H1) (hs : Mans H p n c xs) (hn : n < 2 ^ 34) (h0 : Sub H0 H) (hnew : New H0 p)
    (h3 : ∀ p' c' H', Sub H0 H' → New H0 p' → Mans H' p' (n + 1) c' (xs ++ [x]) → (∀ b' o', H b' = some o' → (∀ a, p = some a → a.block ≠ b') → H' b' = some o') → K (.slice p' (n + 1) c') H') :
    SemOk Tryz.prog (Builtin.append_ #[92, 92] ty #[.slice p n c, .slice (some ⟨b, 0, none⟩) 1 1]) H1 K :=
  app1 (enc := Man.cs) (x := x) (inf := Tryz.t97) (zero := Man.zero.val) Tryz.underlying92 (by kernel_rfl) (by kernel_rfl) rfl (by decide) rfl ha rfl (by simp [Man.cs, Value.oneCell']) hs hn h0 hnew h3

theorem app_com {xs : List Com} (x : Com) (ha : Al H (.cells #[.int .u64 x.lsn, .int .i64 x.time, .slice x.sp x.sn x.sc, .slice x.cp x.cn x.cc] 77 (0, 0)) b H1) (hs : Coms H p n c xs) (hn : n < 2 ^ 34) (h0 : Sub H0 H) (hnew : New H0 p)
    (h3 : ∀ p' c' H', Sub H0 H' → New H0 p' → Coms H' p' (n + 1) c' (xs ++ [x]) → (∀ b' o', H b' = some o' → (∀ a, p = some a → a.block ≠ b') → H' b' = some o') → K (.slice p' (n + 1) c') H') :
    SemOk Tryz.prog (Builtin.append_ #[72, 72] ty #[.slice p n c, .slice (some ⟨b, 0, none⟩) 1 1]) H1 K :=
  app1 (enc := Com.cs) (x := x) (inf := Tryz.t77) (zero := .agg #[.int .u64 0, .int .i64 0, .slice none 0 0, .slice none 0 0]) Tryz.underlying72 (by kernel_rfl) (by kernel_rfl) rfl (by decide) rfl ha rfl (by simp [Com.cs, Value.oneCell']) hs hn h0 hnew h3

theorem app_hist {xs : List Hist} (x : Hist) (ha : Al H (.cells #[.int .u32 x.tl, .int .u32 x.par, .int .u64 x.br] 65 (0, 0)) b H1) (hs : Hists H p n c xs) (hn : n < 2 ^ 34) (h0 : Sub H0 H) (hnew : New H0 p)
    (h3 : ∀ p' c' H', Sub H0 H' → New H0 p' → Hists H' p' (n + 1) c' (xs ++ [x]) → (∀ b' o', H b' = some o' → (∀ a, p = some a → a.block ≠ b') → H' b' = some o') → K (.slice p' (n + 1) c') H') :
    SemOk Tryz.prog (Builtin.append_ #[106, 106] ty #[.slice p n c, .slice (some ⟨b, 0, none⟩) 1 1]) H1 K :=
  app1 (enc := Hist.cs) (x := x) (inf := Tryz.t65) (zero := Hist.zero.val) Tryz.underlying106 (by kernel_rfl) (by kernel_rfl) rfl (by decide) rfl ha rfl (by simp [Hist.cs, Value.oneCell']) hs hn h0 hnew h3

end

/-- The path at or below an LSN. -/
def cutL (at_ : Int) : List Leg → List Leg
  | [] => []
  | l :: ls => if l.fr > at_ then [] else ⟨l.tl, l.fr, if at_ < l.to then at_ else l.to⟩ :: cutL at_ ls

theorem cutL_len (at_ : Int) : ∀ xs, (cutL at_ xs).length ≤ xs.length
  | [] => by simp [cutL]
  | x :: xs => by
    have := cutL_len at_ xs
    unfold cutL
    split <;> simp <;> omega

section
variable {H : Heap}

theorem f85_L1_ht {at_ : Int} {q : Option Addr} {qn qc : Nat} {xs : List Leg} (hr : ReadL H 3 Leg.cs q qn xs) (hn : qn < 2 ^ 32) :
    ∀ (k i : Nat), i + k = qn → ∀ (p : Option Addr) (n c : Nat) (ys : List Leg) (h : Heap), Sub H h → New H p → Legs h p n c ys → n ≤ i →
      f85_L1 at_ p n c q qn qc (qn : Int) (i : Int) h fun v H' => ∃ p' n' c', v = .slice p' n' c' ∧ Sub H H' ∧ New H p' ∧ Legs H' p' n' c' (ys ++ cutL at_ (xs.drop i)) := by
  intro k
  induction k with
  | zero =>
    intro i hi p n c ys h hs hnew ho hni
    apply f85_L1_of
    refine ⟨fun hd => absurd (of_decide_eq_true hd) (by omega), fun _ => f85_L2_of _ _ _ ⟨p, n, c, rfl, hs, hnew, ?_⟩⟩
    rw [List.drop_eq_nil_of_le (by have := hr.len; omega)]
    simpa [cutL] using ho
  | succ k ih =>
    intro i hi p n c ys h hs hnew ho hni
    apply f85_L1_of
    refine ⟨fun _ => ?_, fun hd => absurd (of_decide_eq_false hd) (by simp; omega)⟩
    have hlen := hr.len
    obtain ⟨b, o, hp, hc⟩ := (hr.sub hs).cells i (by omega)
    refine ⟨b, o, hp, by omega, by omega, _, _, _, hc, fun _ => ⟨fun hd => ?_, fun hd => ?_⟩⟩
    · refine f85_L2_of _ _ _ ⟨p, n, c, rfl, hs, hnew, ?_⟩
      rw [List.drop_eq_getElem_cons (by omega), cutL, if_pos (of_decide_eq_true hd)]
      simpa using ho
    · intro b' hp1 ha
      refine app_leg ⟨xs[i].tl, xs[i].fr, if at_ < xs[i].to then at_ else xs[i].to⟩ ha ho (by omega) hs hnew fun p' c' H' a1 a2 a3 _ => ⟨_, _, _, rfl, ?_⟩
      rw [wrapS (by omega)]
      have := ih (i + 1) (by omega) p' (n + 1) c' _ H' a1 a2 a3 (by omega)
      rw [List.drop_eq_getElem_cons (by omega), cutL, if_neg (of_decide_eq_false hd)]
      simpa using this

theorem f85_ht {at_ : Int} {q : Option Addr} {qn qc : Nat} {xs : List Leg} (hr : ReadL H 3 Leg.cs q qn xs) (hn : qn < 2 ^ 32) :
    HT Tryz.prog 85 [.slice q qn qc, .int .u64 at_] H fun v H' => ∃ p' n' c', v = .slice p' n' c' ∧ Sub H H' ∧ New H p' ∧ Legs H' p' n' c' (cutL at_ xs) := by
  apply f85_of
  have := f85_L1_ht (at_ := at_) (qc := qc) hr hn qn 0 (by omega) none 0 0 [] H (Sub.refl H) (New.none H) (OwnL.nil Leg.size) (by omega)
  simpa using this

theorem f86_L1_ht {e : Int} {q : Option Addr} {qn qc : Nat} {xs : List Leg} (hr : ReadL H 3 Leg.cs q qn xs) (hn : qn < 2 ^ 32) :
    ∀ (k i : Nat), i + k = qn → f86_L1 e q qn qc (qn : Int) (i : Int) H fun v H' => H' = H ∧ ∃ t, v = .int .u32 t := by
  intro k
  induction k with
  | zero =>
    intro i hi
    apply f86_L1_of
    exact ⟨fun hd => absurd (of_decide_eq_true hd) (by omega), fun _ => ⟨rfl, _, rfl⟩⟩
  | succ k ih =>
    intro i hi
    apply f86_L1_of
    refine ⟨fun _ => ?_, fun hd => absurd (of_decide_eq_false hd) (by simp; omega)⟩
    have hlen := hr.len
    obtain ⟨b, o, hp, hc⟩ := hr.cells i (by omega)
    refine ⟨b, o, hp, by omega, by omega, _, _, _, hc, fun _ => ⟨fun hd => ⟨rfl, _, rfl⟩, fun hd => ?_⟩⟩
    rw [wrapS (by omega)]
    exact ih (i + 1) (by omega)

theorem f86_ht {q : Option Addr} {qn qc : Nat} {xs : List Leg} (hr : ReadL H 3 Leg.cs q qn xs) (hn : qn < 2 ^ 32) (h0 : 0 < qn) :
    HT Tryz.prog 86 [.slice q qn qc] H fun v H' => H' = H ∧ ∃ t, v = .int .u32 t := by
  apply f86_of
  unfold f86_pre
  rw [wrapP (by omega) h0]
  have hlen := hr.len
  obtain ⟨b, o, hp, hc⟩ := hr.cells (qn - 1) (by omega)
  exact ⟨b, o, hp, by omega, by omega, _, hc.part 2 rfl (by simp [Leg.cs]), f86_L1_ht hr hn qn 0 (by omega)⟩

/-- A backup complete on a path. -/
def withinL (m : Man) : List Leg → Bool
  | [] => false
  | l :: ls => if l.tl == m.tl then decide (m.start ≥ l.fr) && decide (m.stop ≤ l.to) else withinL m ls

theorem f108_L1_ht {m : Man} {q : Option Addr} {qn qc : Nat} {xs : List Leg} (hr : ReadL H 3 Leg.cs q qn xs) (hn : qn < 2 ^ 32) :
    ∀ (k i : Nat), i + k = qn → f108_L1 m.id m.par m.tl m.start m.stop m.pp m.pn m.pc q qn qc (qn : Int) (i : Int) H fun v H' => H' = H ∧ v = .bool (withinL m (xs.drop i)) := by
  intro k
  induction k with
  | zero =>
    intro i hi
    apply f108_L1_of
    refine ⟨fun hd => absurd (of_decide_eq_true hd) (by omega), fun _ => ⟨rfl, ?_⟩⟩
    rw [List.drop_eq_nil_of_le (by have := hr.len; omega)]
    rfl
  | succ k ih =>
    intro i hi
    apply f108_L1_of
    refine ⟨fun _ => ?_, fun hd => absurd (of_decide_eq_false hd) (by simp; omega)⟩
    have hlen := hr.len
    obtain ⟨b, o, hp, hc⟩ := hr.cells i (by omega)
    rw [List.drop_eq_getElem_cons (by omega), withinL]
    refine ⟨b, o, hp, by omega, by omega, _, _, _, hc, fun _ => ⟨fun hd => ?_, fun hd => ?_⟩⟩
    · rw [if_pos hd]
      refine ⟨fun h2 => ⟨rfl, ?_⟩, fun h2 => ⟨rfl, ?_⟩⟩
      · rw [h2]; simp
      · rw [h2]; simp
    · rw [if_neg (by rw [hd]; simp), wrapS (by omega)]
      exact ih (i + 1) (by omega)

theorem f108_ht {m : Man} {q : Option Addr} {qn qc : Nat} {xs : List Leg} (hr : ReadL H 3 Leg.cs q qn xs) (hn : qn < 2 ^ 32) :
    HT Tryz.prog 108 [.slice q qn qc, m.val] H fun v H' => H' = H ∧ v = .bool (withinL m xs) := by
  apply f108_of
  intro _
  exact f108_L1_ht hr hn qn 0 (by omega)

end

section
variable {H : Heap} {ba : Nat} {esM esL esH : Array MapEntry}

theorem f71_L1_ht {G : Heap} {lo up : Int} {q : Option Addr} {qn qc : Nat} {xs : List Com} (hr : ReadL H 4 Com.cs q qn xs) (hok : ∀ x ∈ xs, x.ok G) (hn : qn ≤ 65536) :
    ∀ (k i : Nat), i + k = qn → ∀ (p : Option Addr) (n c : Nat) (ys : List Com) (h : Heap), Sub H h → New H p → Coms h p n c ys → (∀ x ∈ ys, x.ok G) → n ≤ i →
      f71_L1 lo up p n c q qn qc (qn : Int) (i : Int) h fun v H' => ∃ p' n' c' zs e, IsI e ∧ v = .tuple #[.slice p' n' c', e] ∧ Sub H H' ∧ New H p' ∧ Coms H' p' n' c' zs ∧ (∀ x ∈ zs, x.ok G) ∧ n' ≤ 65536 := by
  intro k
  induction k with
  | zero =>
    intro i hi p n c ys h hs hnew ho hy hni
    apply f71_L1_of
    exact ⟨fun hd => absurd (of_decide_eq_true hd) (by omega), fun _ => ⟨p, n, c, ys, _, IsI.nil, rfl, hs, hnew, ho, hy, by omega⟩⟩
  | succ k ih =>
    intro i hi p n c ys h hs hnew ho hy hni
    apply f71_L1_of
    refine ⟨fun _ => ?_, fun hd => absurd (of_decide_eq_false hd) (by simp; omega)⟩
    have hlen := hr.len
    obtain ⟨b, o, hp, hc⟩ := (hr.sub hs).cells i (by omega)
    have main : ∀ x, f71_L2 lo up p n c xs[i].lsn xs[i].time xs[i].sp xs[i].sn xs[i].sc xs[i].cp xs[i].cn xs[i].cc q qn qc (qn : Int) (i : Int) x h
        fun v H' => ∃ p' n' c' zs e, IsI e ∧ v = .tuple #[.slice p' n' c', e] ∧ Sub H H' ∧ New H p' ∧ Coms H' p' n' c' zs ∧ (∀ x ∈ zs, x.ok G) ∧ n' ≤ 65536 := by
      intro x
      apply f71_L2_of
      refine ⟨fun _ => ?_, fun _ => ?_⟩
      · intro b' hp1 ha
        refine app_com xs[i] ha ho (by omega) hs hnew fun p' c' H' a1 a2 a3 _ => ⟨_, _, _, rfl, ?_⟩
        apply f71_L3_of
        unfold f71_L3_pre
        rw [wrapS (by omega)]
        refine ih (i + 1) (by omega) p' (n + 1) c' _ H' a1 a2 a3 (fun x hx => ?_) (by omega)
        rcases List.mem_append.1 hx with h1 | h1
        · exact hy x h1
        · rw [List.mem_singleton.1 h1]; exact hok _ (List.getElem_mem _)
      · apply f71_L3_of
        unfold f71_L3_pre
        rw [wrapS (by omega)]
        exact ih (i + 1) (by omega) p n c ys h hs hnew ho hy (by omega)
    exact ⟨b, o, hp, by omega, by omega, _, _, _, _, _, _, _, _, hc, fun _ => ⟨fun _ => main _, fun _ => main _⟩⟩

theorem f71_ht {h : Heap} (hA : Arch H ba esM esL esH) (hG : Globs H) (hs : Sub H h) (t lo hi : Int) :
    HT Tryz.prog 71 [.pointer (some ⟨ba, 0, none⟩), .int .u32 t, .int .u64 lo, .int .u64 hi] h fun v H' => ∃ p' n' c' zs e, IsI e ∧ v = .tuple #[.slice p' n' c', e] ∧ Sub h H' ∧ New h p' ∧ Coms H' p' n' c' zs ∧ (∀ x ∈ zs, x.ok H) ∧ n' ≤ 65536 := by
  obtain ⟨rm, rl, rh, cM, cL, cH, mp, h1, h2, h3, h4, h5, h6, h7⟩ := hA.ex
  apply f71_of
  refine (f69_ht (hA.sub hs) t).mono fun v H' ⟨he, x, hx, hv⟩ => ?_
  subst he hv
  refine ⟨x, rfl, fun _ => ?_, fun _ => ?_⟩
  · obtain ⟨tt, xx, hxx⟩ := (hG.sub hs) 1 (by simp)
    exact ⟨tt, xx, hxx, none, 0, 0, [], _, IsI.some _ _, rfl, Sub.refl _, New.none _, OwnL.nil Com.size, by simp, by omega⟩
  · obtain ⟨p, n, c, xs, hl, hr, hok, hn⟩ := look_log hA (rm := rl) h6 t
    refine ⟨_, _, rfl, _, Cells.of (hs _ _ h1) rfl, _, _, _, rfl, hs _ _ h3, p, n, c, hl, ?_⟩
    exact f71_L1_ht (G := H) (lo := lo) (up := hi) (qc := c) (hr.sub hs) hok (by omega) n 0 (by omega) none 0 0 [] H' (Sub.refl _) (New.none _) (OwnL.nil Com.size) (by simp) (by omega)

end

end Go.Proofs.Qxb6500694aGreatDoor
