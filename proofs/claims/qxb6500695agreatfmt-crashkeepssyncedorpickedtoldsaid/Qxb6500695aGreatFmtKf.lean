/-
  A PAST, AS IT LIES: size, values, synced.
-/
import Derived.Test.Qxb6500695aGreatFmtKe
namespace Go.Proofs.Qxb6500695aGreatFmt
open Go Go.Eng Go.Proofs
set_option maxRecDepth 100000
set_option linter.unusedVariables false
set_option linter.unusedSimpArgs false
set_option linter.unusedSectionVars false

/-- The sectors' map of a past; D: the keys whose entries are sound. -/
def PsM (H : Heap) (g : Gh) (e : Int) (r ss ns bd : Nat) (C : Int → List Sv) (D : Int → Prop) : Prop :=
  g r = some (14, e) ∧ ∃ es ck, H r = some (.map es ck) ∧ MapOk .i64 es ck ∧ (∀ en ∈ es.toList, D (keyN en.key) → CacheE H g e ss ns bd en C) ∧ ∀ i, iget es.toList i = none → C i = []

/-- A past. -/
structure PsR (H : Heap) (g : Gh) (e : Int) (pb ss ns bd : Nat) (zs : List Nat) (C : Int → List Sv) : Prop where
  tag : g pb = some (11, e)
  ne : zs ≠ []
  nb : zs.length ≤ bd
  ex : ∃ sp sn sc r, H pb = some (.cells #[.slice sp sn sc, .map (some r)] 63 (0, 0)) ∧ OwnT H g (16, e) 2 1 I64.cs sp sn sc (zs.map nI) ∧ PsM H g e r ss ns bd C fun _ => True

/-- What a past's calls may turn. -/
def SpB (e : Int) (tg : Nat × Int) : Prop := tg.2 = e ∧ (tg.1 = 11 ∨ tg.1 = 14 ∨ tg.1 = 16 ∨ 100 ≤ tg.1)

def Cset (C : Int → List Sv) (i : Int) (l : List Sv) : Int → List Sv := fun j => if j = i then l else C j

section
variable {S : Nat × Int → Prop} {H H' : Heap} {g g' : Gh} {e : Int} {pb r ss ns bd : Nat} {zs : List Nat} {C C' : Int → List Sv} {D : Int → Prop}

theorem SpB.neg0 (he : e < 0) : ¬ SpB e (0, 0) := fun h => by have := h.1; simp at this; omega
theorem SpB.zero : ¬ SpB e (0, 0) := fun h => by have := h.2; simp at this

theorem PsM.ev (h : PsM H g e r ss ns bd C D) (ev : Ev S H g H' g') (h0 : ¬ S (0, 0)) (h14 : ¬ S (14, e)) (hD : ∀ i : Int, D i → ¬ S (100 + i.toNat, e)) : PsM H' g' e r ss ns bd C D := by
  obtain ⟨h1, es, ck, h2, h3, h4, h5⟩ := h
  exact ⟨ev.tag _ _ h1, es, ck, ev.get h1 h14 h2, h3, fun en hen hd => (h4 en hen hd).ev ev h0 (hD _ hd), h5⟩

theorem PsR.ev (h : PsR H g e pb ss ns bd zs C) (ev : Ev S H g H' g') (h0 : ¬ S (0, 0)) (hS : ∀ tg, SpB e tg → ¬ S tg) : PsR H' g' e pb ss ns bd zs C := by
  obtain ⟨sp, sn, sc, r, h1, h2, h3⟩ := h.ex
  exact ⟨ev.tag _ _ h.tag, h.ne, h.nb, sp, sn, sc, r, ev.get h.tag (hS _ ⟨rfl, by simp⟩) h1, h2.ev ev (hS _ ⟨rfl, by simp⟩), h3.ev ev h0 (hS _ ⟨rfl, by simp⟩) fun i _ => hS _ ⟨rfl, by simp⟩⟩

theorem CacheE.mono {bd' : Nat} {en : MapEntry} (h : CacheE H g e ss ns bd en C) (hb : bd ≤ bd') : CacheE H g e ss ns bd' en C := by
  obtain ⟨a, b, c, d⟩ := h
  exact ⟨a, b, Nat.le_trans c hb, d⟩

theorem PsM.mono {bd' : Nat} (h : PsM H g e r ss ns bd C D) (hb : bd ≤ bd') : PsM H g e r ss ns bd' C D := by
  obtain ⟨h1, es, ck, h2, h3, h4, h5⟩ := h
  exact ⟨h1, es, ck, h2, h3, fun en hen hd => (h4 en hen hd).mono hb, h5⟩

theorem PsR.mono {bd' : Nat} (h : PsR H g e pb ss ns bd zs C) (hb : bd ≤ bd') : PsR H g e pb ss ns bd' zs C := by
  obtain ⟨sp, sn, sc, r, h1, h2, h3⟩ := h.ex
  exact ⟨h.tag, h.ne, Nat.le_trans h.nb hb, sp, sn, sc, r, h1, h2, h3.mono hb⟩

theorem CacheE.congr {en : MapEntry} (h : CacheE H g e ss ns bd en C) (hc : C' (keyN en.key) = C (keyN en.key)) : CacheE H g e ss ns bd en C' := by
  unfold CacheE at *
  rw [hc]
  exact h

/-- What a list of values is that an entry may hold. -/
structure HiL (H : Heap) (g : Gh) (e : Int) (ss bd : Nat) (i : Nat) (p : Option Addr) (n c : Nat) (L : List Sv) : Prop where
  own : ∃ l, OwnT H g (100 + i, e) 35 1 Sec.cs p n c l ∧ Secs H g ss l L
  ne : L ≠ []
  so : ∀ v ∈ L, v ≠ none
  nb : L.length ≤ bd

theorem HiL.ev {i : Nat} {p : Option Addr} {n c : Nat} {L : List Sv} (h : HiL H g e ss bd i p n c L) (ev : Ev S H g H' g') (h0 : ¬ S (0, 0)) (hS : ¬ S (100 + i, e)) : HiL H' g' e ss bd i p n c L := by
  obtain ⟨l, h1, h2⟩ := h.own
  exact ⟨⟨l, h1.ev ev hS, h2.ev ev h0⟩, h.ne, h.so, h.nb⟩

theorem HiL.len {i : Nat} {p : Option Addr} {n c : Nat} {L : List Sv} (h : HiL H g e ss bd i p n c L) : n = L.length := by
  obtain ⟨l, h1, h2⟩ := h.own
  rw [h1.own.len, h2.len]

theorem HiL.mono {i bd' : Nat} {p : Option Addr} {n c : Nat} {L : List Sv} (h : HiL H g e ss bd i p n c L) (hb : bd ≤ bd') : HiL H g e ss bd' i p n c L := ⟨h.own, h.ne, h.so, Nat.le_trans h.nb hb⟩

/-- A value of such a list. -/
theorem HiL.get {i : Nat} {p : Option Addr} {n c : Nat} {L : List Sv} (h : HiL H g e ss bd i p n c L) {j : Nat} (hj : j < L.length) : ∃ b o sx bs, p = some ⟨b, o, none⟩ ∧ Cells H b (o + j * 1) [Sec.val sx] ∧ L[j] = some bs ∧ SecOk H g ss sx bs := by
  obtain ⟨l, h1, h2⟩ := h.own
  have hl := h2.len
  obtain ⟨b, o, hp, hc⟩ := h1.own.cells (i := j) (by omega)
  have hv := h2.get j (by omega) hj
  have hn := h.so L[j] (List.getElem_mem _)
  cases hx : L[j] with
  | none => exact absurd hx hn
  | some bs =>
    rw [hx] at hv
    exact ⟨b, o, _, bs, hp, hc, rfl, hv⟩

theorem advP_some {b o c m : Nat} (h : m < c) : advP (some ⟨b, o, none⟩) c m = some ⟨b, o + m, none⟩ := by
  unfold advP
  rw [if_neg (by omega)]
  simp only [Option.map_some, Addr.add]
  split
  · rename_i h; simp_all
  · rfl

theorem flat_sec : ∀ l : List Sec, l.flatMap Sec.cs = l.map Sec.val
  | [] => rfl
  | a :: l => by
    rw [List.flatMap_cons, flat_sec l]
    rfl

theorem Secs.drop : ∀ {l : List Sec} {vs : List (Option (List Int))} (i : Nat), Secs H g ss l vs → Secs H g ss (l.drop i) (vs.drop i)
  | [], [], i, _ => by simp [Secs]
  | _ :: _, _ :: _, 0, h => h
  | _ :: _, _ :: _, i + 1, h => Secs.drop i h.2
  | [], _ :: _, _, h => h.elim
  | _ :: _, [], _, h => h.elim

/-- The list from a value on. -/
theorem HiL.tail {i : Nat} {p : Option Addr} {n c : Nat} {L : List Sv} (h : HiL H g e ss bd i p n c L) {m : Nat} (hm : m < L.length) : HiL H g e ss bd i (advP p c m) (n - m) (c - m) (L.drop m) := by
  obtain ⟨l, h1, h2⟩ := h.own
  have hl := h2.len
  have hn := h1.own.len
  refine ⟨⟨l.drop m, ?_, h2.drop m⟩, fun hc => ?_, fun v hv => h.so v (List.mem_of_mem_drop hv), by rw [List.length_drop]; have := h.nb; omega⟩
  · rcases h1.own.own with ⟨_, h3, _⟩ | ⟨b, o, arr, hp, hb, h3, h4, h5⟩
    · omega
    · subst hp
      rw [advP_some (by omega)]
      refine ⟨⟨by rw [List.length_drop]; omega, Sec.size, .inr ⟨b, o + m, arr, rfl, hb, by omega, by omega, ?_⟩⟩, fun a ha => by cases ha; exact h1.tag ⟨b, o, none⟩ rfl⟩
      rw [flat_sec] at h5 ⊢
      rw [List.map_drop, h5, Nat.mul_one, Nat.mul_one, List.drop_take, List.drop_drop]
  · have := congrArg List.length hc
    rw [List.length_drop] at this
    simp at this
    omega

/-- A new list of one. -/
theorem HiL.one {i b : Nat} {sx : Sec} {bs : List Int} (hg : GOk H g) (ha : Al H (.cells #[sx.val] 35 (0, 0)) b H') (hs : SecOk H g ss sx bs) (hbd : 1 ≤ bd) :
    Ev (fun _ => False) H g H' (gset g b (100 + i, e)) ∧ HiL H' (gset g b (100 + i, e)) e ss bd i (some ⟨b, 0, none⟩) 1 1 [some bs] := by
  obtain ⟨ev, t⟩ := Ev.al (S := fun _ => False) hg ha (100 + i, e)
  refine ⟨ev, ⟨[sx], ⟨⟨rfl, Sec.size, .inr ⟨b, 0, _, rfl, ha.same, Nat.le_refl _, by simp, rfl⟩⟩, fun a ha' => by cases ha'; exact t⟩, ?_, trivial⟩, by simp, by simp, hbd⟩
  exact SecV.ev (v := some bs) hs ev (fun h => h)

/-- One value more. -/
theorem HiL.app {i b : Nat} {sx : Sec} {bs : List Int} {p : Option Addr} {n c : Nat} {L : List Sv} {H1 : Heap} {K : Value → Heap → Prop} (hg : GOk H g) (h : HiL H g e ss bd i p n c L) (hbd : bd < 2 ^ 32) (ha : Al H (.cells #[sx.val] 35 (0, 0)) b H1) (hs : SecOk H g ss sx bs)
    (hK : ∀ p' c' H' g', Ev (fun tg => tg = (100 + i, e)) H g H' g' → HiL H' g' e ss (bd + 1) i p' (n + 1) c' (L ++ [some bs]) → K (.slice p' (n + 1) c') H') :
    SemOk Tryz.prog (Builtin.append_ #[37, 37] 37 #[.slice p n c, .slice (some ⟨b, 0, none⟩) 1 1]) H1 K := by
  obtain ⟨l, h1, h2⟩ := h.own
  have hn := h.len
  have hnb := h.nb
  refine appT (S := fun tg => tg = (100 + i, e)) (inf := Tryz.t35) (zero := .slice none 0 0) (x := sx) (enc := Sec.cs) Tryz.underlying37 (by kernel_rfl) (by kernel_rfl) rfl (by decide) rfl ha rfl (by intro v hv; simp [Sec.cs, Sec.val] at hv; subst hv; rfl) hg h1 rfl (by omega) fun p' c' H5 g5 hpn e5 o5 k5 => ?_
  have n0 : ¬ ((fun tg : Nat × Int => tg = (100 + i, e)) (0, 0)) := fun hc => by
    have := congrArg Prod.fst hc; simp at this; omega
  refine hK p' c' H5 g5 e5 ⟨⟨l ++ [sx], o5, (h2.ev e5 n0).snoc (SecV.ev (v := some bs) hs e5 n0)⟩, by simp, fun v hv => ?_, by simp; omega⟩
  rcases List.mem_append.1 hv with hv | hv
  · exact h.so v hv
  · rw [List.mem_singleton.1 hv]; simp

theorem CacheE.hil {en : MapEntry} (h : CacheE H g e ss ns bd en C) : ∃ p n c, en.val = .slice p n c ∧ HiL H g e ss bd (keyN en.key).toNat p n c (C (keyN en.key)) := by
  obtain ⟨k1, k2, k3, k4, k5, q, n, c, l, k6, k7, k8⟩ := h
  exact ⟨q, n, c, k6, ⟨l, k7, k8⟩, List.length_pos_iff.1 k4, k5, k3⟩

/-- The map at a key. -/
theorem PsM.look (h : PsM H g e r ss ns bd C fun _ => True) (i : Nat) : ∃ es ck, H r = some (.map es ck) ∧ MapOk .i64 es ck ∧
    ((C (i : Int) = [] ∧ LookIs Tryz.prog 61 r es ck (.int .i64 (i : Int)) true (.tuple #[.slice none 0 0, .bool false])) ∨
      (i < ns ∧ C (i : Int) ≠ [] ∧ ∃ p n c, LookIs Tryz.prog 61 r es ck (.int .i64 (i : Int)) true (.tuple #[.slice p n c, .bool true]) ∧ HiL H g e ss bd i p n c (C (i : Int)))) := by
  obtain ⟨h1, es, ck, h2, h3, h4, h5⟩ := h
  have hlook := lookIs_int (P := Tryz.prog) (t := 61) (r := r) (c := ck) (n := (i : Int)) (ok := true) (zero := .slice none 0 0) Tryz.underlying61 Tryz.underlying2 (inf := Tryz.t37) (by kernel_rfl) (by kernel_rfl) h3.1
  refine ⟨es, ck, h2, h3, ?_⟩
  cases hg : iget es.toList (i : Int) with
  | none =>
    simp only [lookV, hg] at hlook
    exact .inl ⟨h5 _ hg, hlook⟩
  | some v =>
    obtain ⟨en, hen, hk, hv⟩ := iget_mem hg
    have hE := h4 en hen trivial
    obtain ⟨p, n, c, hval, hh⟩ := hE.hil
    have hr := hE.2.1
    rw [hk] at hh hr
    simp only [lookV, hg] at hlook
    rw [← hv, hval] at hlook
    exact .inr ⟨by omega, hh.ne, p, n, c, hlook, by simpa using hh⟩

/-- A list put under a key. -/
theorem PsM.put {i : Nat} {p : Option Addr} {n c : Nat} {L : List Sv} {K : Unit → Heap → Prop} (hg : GOk H g) (h : PsM H g e r ss ns bd C fun j => j ≠ (i : Int)) (hi : i < ns) (hL : HiL H g e ss bd i p n c L)
    (hK : ∀ H', Ev (fun tg => tg = (14, e)) H g H' g → PsM H' g e r ss ns bd (Cset C (i : Int) L) (fun _ => True) → K () H') : SemOk Tryz.prog (Instr.mapUpdate 61 (.map (some r)) (.int .i64 (i : Int)) (.slice p n c)) H K := by
  obtain ⟨h1, es, ck, h2, h3, h4, h5⟩ := h
  refine semOk_mapUpdate Tryz.underlying61 Tryz.underlying2 h2 h3.1 fun H6 hw6 => ?_
  obtain ⟨es', ck', he', hok', hget', hmem', _, _⟩ := mput_ok (n := (i : Int)) (v := .slice p n c) h3
  rw [he'] at hw6
  have ev : Ev (fun tg => tg = (14, e)) H g H6 g := Ev.wr hg hw6 fun tg htg => by rw [h1] at htg; cases htg; rfl
  have n0 : ¬ ((fun tg : Nat × Int => tg = (14, e)) (0, 0)) := fun hc => by
    have := congrArg Prod.fst hc; simp at this
  have n1 : ∀ j : Nat, ¬ ((fun tg : Nat × Int => tg = (14, e)) (100 + j, e)) := fun j hc => by
    have := congrArg Prod.fst hc; simp at this; omega
  refine hK H6 ev ⟨h1, es', ck', hw6.same, hok', fun en hen _ => ?_, fun j hj => ?_⟩
  · by_cases hk : keyN en.key = (i : Int)
    · have hval : en.val = .slice p n c := by
        have h10 := iget_of_mem hok'.2.1 hen
        rw [hk, hget', if_pos rfl] at h10
        exact (Option.some.inj h10).symm
      obtain ⟨l, o1, o2⟩ := (hL.ev ev n0 (n1 i)).own
      unfold CacheE
      rw [hk]
      simp only [Cset, if_true, Int.toNat_natCast]
      exact ⟨by omega, by omega, hL.nb, List.length_pos_iff.2 hL.ne, hL.so, p, n, c, l, hval, o1, o2⟩
    · have hold : en ∈ es.toList := by
        rcases hmem' en hen with ⟨h11, _⟩ | h11
        · exact absurd h11 hk
        · exact h11
      exact ((h4 en hold hk).ev ev n0 (n1 _)).congr (by unfold Cset; rw [if_neg hk])
  · rw [hget'] at hj
    unfold Cset
    by_cases hji : j = (i : Int)
    · rw [if_pos hji] at hj; cases hj
    · rw [if_neg hji] at hj ⊢
      exact h5 j hj

theorem f24_ht (h : PsR H g e pb ss ns bd zs C) (hbd : bd < 2 ^ 32) : HT Tryz.prog 24 [.pointer (some ⟨pb, 0, none⟩)] H fun v H' => H' = H ∧ v = .int .i64 ((lastZ zs : Nat) : Int) := by
  obtain ⟨sp, sn, sc, r, h1, h2, h3⟩ := h.ex
  have hlen := h2.own.len
  rw [List.length_map] at hlen
  have hpos : 0 < zs.length := List.length_pos_iff.2 h.ne
  have hnb := h.nb
  obtain ⟨b, o, hp, hc⟩ := h2.own.cells (i := zs.length - 1) (by simp; omega)
  have hw : IntKind.wrap .i64 ((sn : Int) - 1) = ((zs.length - 1 : Nat) : Int) := by rw [wrapI] <;> omega
  apply f24_of
  unfold f24_pre
  refine ⟨pb, 0, rfl, sp, sn, sc, Cells.of h1 rfl, pb, 0, rfl, sp, sn, sc, Cells.of h1 rfl, b, o, hp, by rw [hw]; omega, by rw [hw]; omega, _, by rw [hw]; exact hc, rfl, ?_⟩
  congr 1
  unfold lastZ
  rw [List.getLast?_eq_getElem?, List.getElem?_eq_getElem (by omega)]
  simp [nI]

theorem f79_ht (hg : GOk H g) (h : PsR H g e pb ss ns bd zs C) (hss : ss ≤ 16) (hbd : 1 ≤ bd) {i : Nat} : HT Tryz.prog 79 [.pointer (some ⟨pb, 0, none⟩), .int .i64 (i : Int), .int .i64 (ss : Int)] H fun v H' => ∃ p n c g', v = .slice p n c ∧ Ev (fun _ => False) H g H' g' ∧ HiL H' g' e ss bd i p n c (if C (i : Int) = [] then [some (zer ss)] else C (i : Int)) := by
  obtain ⟨sp, sn, sc, r, h1, h2, h3⟩ := h.ex
  have hi5 : Tryz.prog.info? 5 = some Tryz.t5 := by kernel_rfl
  obtain ⟨es, ck, hr, _, hl⟩ := h3.look i
  apply f79_of
  refine ⟨pb, 0, rfl, _, Cells.of h1 rfl, r, es, ck, rfl, hr, ?_⟩
  rcases hl with ⟨hc, hlk⟩ | ⟨_, hc, p, n, c, hlk, hh⟩
  · refine ⟨none, 0, 0, false, hlk, (fun h => by cases h), fun _ => ?_⟩
    refine semOk_make (l := ss) (c := ss) Tryz.underlying35 hi5 (z := .int .u8 0) rfl rfl rfl (Nat.le_refl _) (by omega) (by decide) fun vb H1 ha => ⟨_, _, _, rfl, fun b22 H2 ha2 => ?_⟩
    obtain ⟨e1, t1⟩ := Ev.al (S := fun _ => False) hg ha (0, 0)
    have hsec : SecOk H1 (gset g vb (0, 0)) ss ⟨some ⟨vb, 0, none⟩, ss, ss⟩ (zer ss) := ⟨rfl, Nat.le_refl _, zer_len, vb, 0, _, rfl, t1, ha.same, by simp, by simp [zer]⟩
    obtain ⟨e2, hh⟩ := HiL.one (i := i) (e := e) (bd := bd) (sx := ⟨some ⟨vb, 0, none⟩, ss, ss⟩) e1.ok ha2 hsec hbd
    refine ⟨_, _, _, _, rfl, e1.trans e2, ?_⟩
    rw [if_pos hc]
    exact hh
  · refine ⟨p, n, c, true, hlk, fun _ => ⟨p, n, c, g, rfl, Ev.refl hg, ?_⟩, (fun h => by cases h)⟩
    rw [if_neg hc]
    exact hh

end

end Go.Proofs.Qxb6500695aGreatFmt
