/-
  THE PLANE, PART H: read.
-/
import Derived.Test.Qxb6500695aGreatFmtXg
import Derived.Test.Qxb6500695aGreatFmtVc
namespace Go.Proofs.Qxb6500695aGreatFmt
open Go Go.Eng Go.Proofs
set_option maxRecDepth 100000
set_option linter.unusedVariables false
set_option linter.unusedSimpArgs false
set_option linter.unusedSectionVars false

theorem RTmono {P : Program} {fn : FuncId} {todo : List Item} {tmps : List Value} {loc : Eng.Loc} {H : Heap} {R R' : Value → Heap → Prop} (h : RT P fn todo tmps loc H R) (hr : ∀ v H', R v H' → R' v H') : RT P fn todo tmps loc H R' := by
  intro w hw hl cs
  obtain ⟨v, w', fr, H', h1, h2, h3, h4, h5⟩ := h w hw hl cs
  exact ⟨v, w', fr, H', h1, h2, h3, hr _ _ h4, h5⟩

/-- What a reader sees in sector i, zeros for nil. -/
def Pl.seen (P : Pl) (ss i : Nat) : List Int := match P.lat i with
  | some bs => bs
  | none => List.replicate ss 0

/-- read, as it is meant. -/
def rdF (ss : Nat) (P : Pl) : Nat → Nat → Nat → List Int
  | 0, _, _ => []
  | k + 1, off, n => if n = 0 then [] else ((P.seen ss (off / ss)).drop (off % ss)).take (spanN ss off n) ++ rdF ss P k (off + spanN ss off n) (n - spanN ss off n)

theorem over_append {α : Type} {l seg rest : List α} {o : Nat} (h : o + seg.length + rest.length ≤ l.length) : over (over l o seg) (o + seg.length) rest = over l o (seg ++ rest) := by
  unfold over
  have h1 : (l.take o ++ seg ++ l.drop (o + seg.length)).take (o + seg.length) = l.take o ++ seg := by
    rw [List.take_append_of_le_length (by simp; omega), List.take_of_length_le (by simp; omega)]
  have h2 : (l.take o ++ seg ++ l.drop (o + seg.length)).drop (o + seg.length + rest.length) = l.drop (o + (seg ++ rest).length) := by
    rw [List.drop_append, List.drop_eq_nil_of_le (by simp; omega), List.nil_append, List.drop_drop]
    congr 1
    simp
    omega
  rw [h1, h2]
  simp

theorem over_nil {α : Type} {l : List α} {o : Nat} : over l o [] = l := by
  unfold over
  simp

section
variable {H : Heap} {g : Gh} {e : Int} {pb ss ns bd : Nat} {P : Pl}

theorem PlOk.seenlen (h : PlOk H g e pb ss ns bd P) {i : Nat} : (P.seen ss i).length = ss := by
  unfold Pl.seen
  cases hl : P.lat i with
  | none => simp
  | some bs => exact h.latlen hl

theorem rdF_len (h : PlOk H g e pb ss ns bd P) : ∀ (k off n : Nat), n ≤ k → (rdF ss P k off n).length = n := by
  intro k
  induction k with
  | zero => intro off n hn; simp [rdF]; omega
  | succ k ih =>
    intro off n hn
    unfold rdF
    split
    · rename_i h0; simp [h0]
    · rename_i h0
      have hss := h.ssb
      obtain ⟨s1, s2, s3⟩ := spanN_le (ss := ss) (off := off) (len := n) hss.1
      have s3 := s3 (by omega)
      rw [List.length_append, ih _ _ (by omega), List.length_take, List.length_drop, h.seenlen]
      omega

theorem f78_L1_ht (hg : GOk H g) (h : PlOk H g e pb ss ns bd P) (hbd : bd < 2 ^ 32) {b : Nat} {T : TypeId} (hgb : g b = none) :
    ∀ (k : Nat) (H1 : Heap) (arr : Array Value) (o n c off : Nat), n ≤ k → (∀ x, x ≠ b → H1 x = H x) → H1 b = some (.cells arr T (0, 0)) → o + n ≤ arr.size → n ≤ c → c < 2 ^ 32 → off + n < 2 ^ 32 →
      f78_L1 (some ⟨pb, 0, none⟩) (some ⟨b, o, none⟩) n c (off : Int) H1 fun v H' => v = .tuple #[] ∧ (∀ x, x ≠ b → H' x = H x) ∧ ∃ arr', H' b = some (.cells arr' T (0, 0)) ∧ arr'.toList = over arr.toList o ((rdF ss P k off n).map fun x => .int .u8 x) := by
  intro k
  induction k with
  | zero =>
    intro H1 arr o n c off hn hk hb hfit hnc hc hoff
    apply f78_L1_of
    exact ⟨fun hd => absurd (of_decide_eq_true hd) (by omega), fun _ => ⟨rfl, hk, arr, hb, by simp [rdF, over_nil]⟩⟩
  | succ k ih =>
    intro H1 arr o n c off hn hk hb hfit hnc hc hoff
    have hss := h.ssb
    apply f78_L1_of
    refine ⟨fun hd => ?_, fun hd => ?_⟩
    · have hd := of_decide_eq_true hd
      have hnb : ∀ x tg, g x = some tg → x ≠ b := fun x tg hx hxb => by rw [hxb, hgb] at hx; cases hx
      have e1 : Ev (fun _ => False) H g H1 g := by
        refine ⟨fun x tg hx => ?_, fun _ _ hx => hx, fun x tg hx _ => hk x (hnb x tg hx)⟩
        rw [hk x (hnb x tg hx)]; exact hg x tg hx
      have h1 := h.ev e1 (fun h => h) fun _ _ h => h
      obtain ⟨s1, s2, s3⟩ := spanN_le (ss := ss) (off := off) (len := n) hss.1
      have s3 := s3 (by omega)
      have hmod : off % ss < ss := Nat.mod_lt _ hss.1
      have hdl : off / ss ≤ off := Nat.div_le_self _ _
      refine (f128_ht h1 (by omega) (by omega)).mono fun v h2 ⟨he, hv⟩ => ⟨_, _, _, hv, fun _ => ?_⟩
      subst he
      have hrd : rdF ss P (k + 1) off n = ((P.seen ss (off / ss)).drop (off % ss)).take (spanN ss off n) ++ rdF ss P k (off + spanN ss off n) (n - spanN ss off n) := by
        rw [rdF, if_neg (by omega)]
      rw [hrd]
      have hrest := rdF_len h k (off + spanN ss off n) (n - spanN ss off n) (by omega)
      generalize hi : off / ss = i at *
      generalize hf : off % ss = f at *
      generalize hm : spanN ss off n = m at *
      have hsl := h.seenlen (i := i)
      refine (f129_ht h1 hbd (i := i) (by omega)).mono fun v h3 ⟨he, s, hv, hs⟩ => ⟨_, _, _, hv, _, binIs_slice_neq Tryz.underlying35, ?_⟩
      subst he
      have hseg : (((P.seen ss i).drop f).take m).length = m := by rw [List.length_take, List.length_drop, hsl]; omega
      have next : ∀ h4, Wr h3 b (.cells (setAll arr o ((((P.seen ss i).drop f).take m).map fun x => .int .u8 x)) T (0, 0)) h4 →
          f78_L2 (some ⟨pb, 0, none⟩) (some ⟨b, o, none⟩) n c (off : Int) (i : Int) (f : Int) (m : Int) h4 fun v H' => v = .tuple #[] ∧ (∀ x, x ≠ b → H' x = H x) ∧ ∃ arr', H' b = some (.cells arr' T (0, 0)) ∧ arr'.toList = over arr.toList o ((((P.seen ss i).drop f).take m ++ rdF ss P k (off + m) (n - m)).map fun x => .int .u8 x) := by
        intro h4 hw4
        apply f78_L2_of
        have hwo : IntKind.wrap .i64 ((off : Int) + (m : Int)) = ((off + m : Nat) : Int) := by rw [wrapI] <;> omega
        unfold f78_L2_pre
        rw [hwo]
        refine ⟨_, _, _, sliceIs_lo (t := 35) (p := some ⟨b, o, none⟩) (n := n) (c := c) (k := m) Tryz.underlying35 (inf := Tryz.t5) (by kernel_rfl) (by kernel_rfl) (by omega), ?_⟩
        have hk4 : ∀ x, x ≠ b → h4 x = H x := fun x hx => by rw [hw4.other hx]; exact hk x hx
        have hfin : ∀ {arr' : Array Value}, arr'.toList = over (setAll arr o ((((P.seen ss i).drop f).take m).map fun x => .int .u8 x)).toList (o + m) ((rdF ss P k (off + m) (n - m)).map fun x => .int .u8 x) →
            arr'.toList = over arr.toList o ((((P.seen ss i).drop f).take m ++ rdF ss P k (off + m) (n - m)).map fun x => .int .u8 x) := by
          intro arr' ha
          rw [ha, setAll_toList (by rw [List.length_map, hseg]; omega), List.map_append]
          have hl : (((((P.seen ss i).drop f).take m)).map fun x => (Value.int .u8 x)).length = m := by rw [List.length_map, hseg]
          have := over_append (l := arr.toList) (seg := (((P.seen ss i).drop f).take m).map fun x => (Value.int .u8 x)) (rest := (rdF ss P k (off + m) (n - m)).map fun x => (Value.int .u8 x)) (o := o) (by rw [hl, List.length_map, hrest]; simp; omega)
          rw [hl] at this
          exact this
        by_cases hcm : c = m
        · -- nothing is left
          have hn0 : n - m = 0 := by omega
          have hadv : advP (some ⟨b, o, none⟩) c m = some ⟨b, o, none⟩ := by unfold advP; rw [if_pos hcm]
          rw [hadv]
          apply f78_L1_of
          refine ⟨fun hd' => absurd (of_decide_eq_true hd') (by omega), fun _ => ⟨rfl, hk4, _, hw4.same, hfin ?_⟩⟩
          have : rdF ss P k (off + m) (n - m) = [] := by
            apply List.eq_nil_of_length_eq_zero; omega
          rw [this]
          simp [over_nil]
        · have hadv : advP (some ⟨b, o, none⟩) c m = some ⟨b, o + m, none⟩ := by
            unfold advP
            rw [if_neg hcm]
            simp [addr_add]
          rw [hadv]
          exact fun d B => RTmono (ih h4 _ (o + m) (n - m) (c - m) (off + m) (by omega) hk4 hw4.same (by rw [setAll_size]; omega) (by omega) (by omega) (by omega) d B) fun v H' ⟨hv, hk', arr', hb', ha'⟩ => ⟨hv, hk', arr', hb', hfin ha'⟩
      cases hl : P.lat i with
      | none =>
        rw [hl] at hs
        have hs' : s = Sec.nil := hs
        subst hs'
        refine ⟨(fun h => by cases h), fun _ => ?_⟩
        refine ⟨_, _, _, sliceIs_hi' (t := 35) (p := some ⟨b, o, none⟩) (n := n) (c := c) (k := m) Tryz.underlying35 (inf := Tryz.t5) (by kernel_rfl) (by omega), ?_⟩
        refine semOk_clearS Tryz.underlying35 (inf := Tryz.t5) (z := .int .u8 0) (by kernel_rfl) (by kernel_rfl) rfl rfl hb (by omega) fun h4 hw4 => ⟨rfl, next h4 ?_⟩
        have : (((P.seen ss i).drop f).take m).map (fun x => Value.int .u8 x) = List.replicate m (.int .u8 0) := by
          unfold Pl.seen
          rw [hl]
          simp only [List.drop_replicate, List.take_replicate, List.map_replicate]
          congr 1
          omega
        rw [this]
        exact hw4
      | some bs =>
        rw [hl] at hs
        have hs' : SecOk h3 g ss s bs := hs
        have hsn := hs'.n
        have hsc := hs'.c
        have hlen := hs'.len
        obtain ⟨sb, so, hsp, hcell⟩ := hs'.cells
        have hseen : P.seen ss i = bs := by unfold Pl.seen; rw [hl]
        refine ⟨fun _ => ?_, fun hx => by rw [hsp] at hx; cases hx⟩
        refine ⟨_, _, _, sliceIs_hi' (t := 35) (p := some ⟨b, o, none⟩) (n := n) (c := c) (k := m) Tryz.underlying35 (inf := Tryz.t5) (by kernel_rfl) (by omega), _, _, _, sliceIs_lo (t := 35) (p := s.p) (n := s.n) (c := s.c) (k := f) Tryz.underlying35 (inf := Tryz.t5) (by kernel_rfl) (by kernel_rfl) (by omega), ?_⟩
        have hadv : advP s.p s.c f = some ⟨sb, so + f, none⟩ := by
          unfold advP
          rw [if_neg (by omega), hsp]
          simp [addr_add]
        rw [hadv]
        have hcf : Cells h3 sb (so + f) (((bs.drop f).take m).map fun x => .int .u8 x) := by
          refine hcell.part f ?_ ?_
          · have hlm : (((bs.drop f).take m).map fun x => (Value.int .u8 x)).length = m := by rw [List.length_map, List.length_take, List.length_drop, hlen]; omega
            rw [hlm, List.map_take, List.map_drop]
          · simp; omega
        refine semOk_copy (ys := ((bs.drop f).take m).map fun x => .int .u8 x) Tryz.underlying35 (inf := Tryz.t5) (by kernel_rfl) (by kernel_rfl) hb (by omega) (by rw [List.length_map, List.length_take, List.length_drop, hlen, hsn]; exact (show min m (ss - f) = min (ss - f) m by omega)) (.inr ⟨sb, so + f, rfl, hcf⟩) (by intro v hv; obtain ⟨x, _, rfl⟩ := List.mem_map.1 hv; rfl) fun h4 hw4 => ⟨_, rfl, next h4 ?_⟩
        rw [hseen]
        exact hw4
    · have hd := of_decide_eq_false hd
      have hn0 : n = 0 := by omega
      subst hn0
      exact ⟨rfl, hk, arr, hb, by simp [rdF, over_nil]⟩

theorem f78_ht (hg : GOk H g) (h : PlOk H g e pb ss ns bd P) (hbd : bd < 2 ^ 32) {b o n c off : Nat} {T : TypeId} {arr : Array Value} (hgb : g b = none) (hb : H b = some (.cells arr T (0, 0))) (hfit : o + n ≤ arr.size) (hnc : n ≤ c) (hc : c < 2 ^ 32) (hoff : off + n < 2 ^ 32) :
    HT Tryz.prog 78 [.pointer (some ⟨pb, 0, none⟩), .slice (some ⟨b, o, none⟩) n c, .int .i64 (off : Int)] H fun v H' => v = .tuple #[] ∧ (∀ x, x ≠ b → H' x = H x) ∧ ∃ arr', H' b = some (.cells arr' T (0, 0)) ∧ arr'.toList = over arr.toList o ((rdF ss P n off n).map fun x => .int .u8 x) := by
  apply f78_of
  exact f78_L1_ht hg h hbd hgb n H arr o n c off (Nat.le_refl _) (fun _ _ => rfl) hb hfit hnc hc hoff

end

end Go.Proofs.Qxb6500695aGreatFmt
