/-
  NAMES, PART C: slices.Insert of one name.
-/
import Derived.Test.Qxb6500695aGreatFmtZb
namespace Go.Proofs.Qxb6500695aGreatFmt
open Go Go.Eng Go.Proofs
set_option maxRecDepth 100000
set_option linter.unusedVariables false
set_option linter.unusedSimpArgs false
set_option linter.unusedSectionVars false

theorem ownT_str {H : Heap} {g : Gh} {tg : Nat × Int} {b o n c : Nat} {arr : Array Value} {xs : List ByteArray} (hb : H b = some (.cells arr 9 (0, 0))) (ht : g b = some tg) (hn : n = xs.length) (hc : n ≤ c) (hfit : o + c ≤ arr.size)
    (hrow : xs.map Value.string = (arr.toList.drop o).take n) : OwnT H g tg 9 1 Str.cs (some ⟨b, o, none⟩) n c xs :=
  ⟨⟨hn, Str.size, .inr ⟨b, o, arr, rfl, hb, hc, by simpa using hfit, by rw [flat_str, Nat.mul_one]; exact hrow⟩⟩, fun a ha => by cases ha; exact ht⟩

theorem ownT_row {H : Heap} {g : Gh} {tg : Nat × Int} {p : Option Addr} {n c : Nat} {xs : List ByteArray} (h : OwnT H g tg 9 1 Str.cs p n c xs) (hn : 0 < n) : ∃ b o arr, p = some ⟨b, o, none⟩ ∧ H b = some (.cells arr 9 (0, 0)) ∧ n ≤ c ∧ o + c ≤ arr.size ∧
    xs.map Value.string = (arr.toList.drop o).take n ∧ g b = some tg := by
  rcases h.own.own with ⟨_, h2, _⟩ | ⟨b, o, arr, hp, hb, h3, h4, h5⟩
  · omega
  · rw [flat_str, Nat.mul_one] at h5
    exact ⟨b, o, arr, hp, hb, h3, by simpa using h4, h5, h.tag _ hp⟩

theorem row_get {arr : Array Value} {o n : Nat} {ys : List Value} (h : ys = (arr.toList.drop o).take n) {i : Nat} (hi : i < n) : arr[o + i]? = ys[i]? := by
  rw [h, List.getElem?_take, if_pos hi, List.getElem?_drop, Array.getElem?_toList]

theorem insAt_len {α : Type} {xs : List α} {x : α} {k : Nat} (hk : k ≤ xs.length) : (xs.take k ++ x :: xs.drop k).length = xs.length + 1 := by
  simp
  omega

theorem f201_ht {S : Nat × Int → Prop} {H H1 : Heap} {g : Gh} {tg : Nat × Int} {p : Option Addr} {n c vb k : Nat} {xs : List ByteArray} {x : ByteArray}
    (hg : GOk H g) (hs : OwnT H g tg 9 1 Str.cs p n c xs) (ha : Al H (.cells #[.string x] 9 (0, 0)) vb H1) (hk : k ≤ n) (hS : S tg) (hn : n < 2 ^ 30) :
    HT Tryz.prog 201 [.slice p n c, .int .i64 (k : Int), .slice (some ⟨vb, 0, none⟩) 1 1] H1 fun v H' => ∃ p' c' g', v = .slice p' (n + 1) c' ∧ Ev S H g H' g' ∧ OwnT H' g' tg 9 1 Str.cs p' (n + 1) c' (xs.take k ++ x :: xs.drop k) := by
  have hlen := hs.own.len
  have hnc := hs.own.lenc
  have hi9 : Tryz.prog.info? 9 = some Tryz.t9 := by kernel_rfl
  apply f201_of
  refine ⟨_, _, _, sliceIs_lo Tryz.underlying49 hi9 rfl hk, (fun h => by simp at h), fun _ => ⟨fun hkn => ?_, fun hkn => ?_⟩⟩
  · have hkn : k = n := by have := beq_iff_eq.1 hkn; omega
    subst hkn
    refine appT (S := S) (inf := Tryz.t9) (zero := .string ⟨#[]⟩) (x := x) (enc := Str.cs) Tryz.underlying49 hi9 rfl rfl (by decide) rfl ha rfl (by intro v hv; simp [Str.cs] at hv; subst hv; rfl) hg hs hS (by omega) fun p' c' H' g' hpn e o _ => ⟨p', k + 1, c', rfl, p', c', g', rfl, e, ?_⟩
    rw [List.take_of_length_le (by omega), List.drop_eq_nil_of_le (by omega)]
    exact o
  · have hkn : k < n := by
      have : k ≠ n := by intro hc; subst hc; simp at hkn
      omega
    obtain ⟨b, o, arr, hp, hb, _, hfit, hrow, htag⟩ := ownT_row hs (by omega)
    subst hp
    have hb1 := ha.keep hb
    have hvb : vb ≠ b := fun hc => by rw [← hc, ha.fresh] at hb; cases hb
    have hv1 : Cells H1 vb 0 [.string x] := Cells.of ha.same rfl
    have hg1 : ∀ {i : Nat}, i < n → arr[o + i]? = (xs.map Value.string)[i]? := fun hi => row_get hrow hi
    have hyl : (xs.map Value.string).length = n := by simp [hlen]
    have hw1 : IntKind.wrap .i64 ((n : Int) + ((1 : Nat) : Int)) = ((n + 1 : Nat) : Int) := by rw [wrapI] <;> omega
    have hw2 : IntKind.wrap .i64 ((k : Int) + ((1 : Nat) : Int)) = ((k + 1 : Nat) : Int) := by rw [wrapI] <;> omega
    have hw3 : IntKind.wrap .i64 (((n + 1 : Nat) : Int) - (k : Int)) = ((n + 1 - k : Nat) : Int) := by rw [wrapI] <;> omega
    have hadv : ∀ {q oo cc j : Nat}, cc ≠ j → advP (some ⟨q, oo, none⟩) cc j = some ⟨q, oo + j, none⟩ := by
      intro q oo cc j h
      unfold advP
      rw [if_neg h]
      simp [addr_add]
    have htail : ∀ {G : Heap}, G b = some (.cells arr 9 (0, 0)) → Cells G b (o + k) ((xs.map Value.string).drop k) := by
      intro G hG
      refine Cells.of hG ?_
      apply List.ext_getElem?
      intro i
      rw [List.getElem?_take, List.length_drop, hyl]
      by_cases hi : i < n - k
      · rw [if_pos hi, List.getElem?_drop, List.getElem?_drop, Array.getElem?_toList, Nat.add_assoc, hg1 (by omega)]
      · rw [if_neg hi]
        symm
        apply List.getElem?_eq_none
        rw [List.length_drop, hyl]
        omega
    have hone : ∀ v ∈ (xs.map Value.string).drop k, v.oneCell' = true := by
      intro v hv
      obtain ⟨y, _, rfl⟩ := List.mem_map.1 (List.mem_of_mem_drop hv)
      rfl
    have hmap : (xs.take k ++ x :: xs.drop k).map Value.string = (xs.map Value.string).take k ++ .string x :: (xs.map Value.string).drop k := by
      simp
    rw [hw1, hw2, hw3]
    refine ⟨fun hroom => ?_, fun hroom => ?_⟩
    · have hroom := of_decide_eq_true hroom
      refine ⟨_, _, _, sliceIs_hi' Tryz.underlying49 hi9 (by omega), ?_⟩
      have hown : Own H1 9 Tryz.t9.size (some ⟨b, o, none⟩) k c ((xs.map Value.string).take k) := by
        refine .inr ⟨b, o, arr, rfl, hb1, by omega, ?_, ?_⟩
        · show o + c * 1 ≤ _
          omega
        · show _ = (arr.toList.drop o).take (k * 1)
          rw [hrow, List.take_take, Nat.mul_one, Nat.min_eq_left (by omega)]
      have hkk : k + (n + 1 - k) = n + 1 := by omega
      refine semOk_appendZ (z := .string ⟨#[]⟩) (inf := Tryz.t9) Tryz.underlying49 (Tryz.underlying3) hi9 rfl rfl rfl rfl (by decide) hown (by omega) (by omega) (fun b' o' arr' H' _ _ _ hcc _ => by omega) fun c' nb H2 hc' ha2 => ?_
      rw [hkk] at hc' ha2 ⊢
      have hne2 : nb ≠ b := fun hc => by rw [← hc, ha2.fresh] at hb1; cases hb1
      have hnev : nb ≠ vb := fun hc => by have := ha2.fresh; rw [hc, ha.same] at this; cases this
      generalize hA : (((xs.map Value.string).take k ++ List.replicate (n + 1 - k) (Value.string ⟨#[]⟩)).toArray ++ Builtin.zeroCells (Value.string ⟨#[]⟩).cells (c' - (n + 1))) = A at ha2
      have hAs : A.size = c' := by
        rw [← hA]
        simp [zeroCells_eq, Value.cells]
        omega
      have hAg : ∀ i, i < k → A[i]? = (xs.map Value.string)[i]? := by
        intro i hi
        rw [← hA, Array.getElem?_append_left (by simp; omega), List.getElem?_toArray, List.getElem?_append_left (by simp; omega), List.getElem?_take, if_pos hi]
      refine ⟨_, _, _, rfl, _, _, _, sliceIs_lo Tryz.underlying49 hi9 rfl (by omega), ?_⟩
      rw [hadv (by omega)]
      refine semOk_copy (inf := Tryz.t9) (ys := [.string x]) Tryz.underlying49 hi9 rfl ha2.same (by rw [hAs]; omega) (by simp only [List.length_cons, List.length_nil, Nat.min_def]; split <;> omega) (.inr ⟨vb, 0, rfl, Cells.of (ha2.keep ha.same) rfl⟩) (by simp; rfl) fun H3 hw3' => ⟨_, rfl, _, _, _, sliceIs_lo Tryz.underlying49 hi9 rfl (by omega), _, _, _, sliceIs_lo Tryz.underlying49 hi9 rfl (by omega), ?_⟩
      rw [hadv (by omega), hadv (by omega)]
      have hb3 : H3 b = some (.cells arr 9 (0, 0)) := hw3'.keep (ha2.keep hb1) (Ne.symm hne2)
      refine semOk_copy (inf := Tryz.t9) (ys := (xs.map Value.string).drop k) Tryz.underlying49 hi9 rfl hw3'.same (by rw [setAll_size, hAs]; omega) (by rw [List.length_drop, hyl]; simp only [Nat.min_def]; split <;> omega) (.inr ⟨b, o + k, rfl, htail hb3⟩) hone fun H4 hw4 => ⟨_, rfl, ?_⟩
      have e0 : Ev S H g H1 g := Ev.sub hg ha.sub
      obtain ⟨e1, t1⟩ := Ev.al (S := S) e0.ok ha2 tg
      have e3 : Ev S H2 _ H3 _ := Ev.wr e1.ok hw3' fun tg' htg => by rw [t1] at htg; cases htg; exact hS
      have e4 : Ev S H3 _ H4 _ := Ev.wr e3.ok hw4 fun tg' htg => by rw [t1] at htg; cases htg; exact hS
      refine ⟨_, c', _, rfl, ((e0.trans e1).trans e3).trans e4, ownT_str hw4.same t1 (by rw [insAt_len (by omega)]; omega) hc' (by rw [setAll_size, setAll_size, hAs]; omega) ?_⟩
      rw [hmap]
      symm
      refine row_ins hyl hk fun i hi => ?_
      rw [setAll_get _ _ _ _ (by rw [setAll_size, hAs, List.length_drop, hyl]; omega), setAll_get _ _ _ _ (by rw [hAs]; simp; omega), List.length_drop, hyl]
      simp only [Nat.zero_add, List.length_cons, List.length_nil]
      by_cases h1 : i < k
      · rw [if_neg (by omega), if_neg (by omega), if_pos h1, hAg i h1]
      · rw [if_neg h1]
        by_cases h2 : i = k
        · rw [if_neg (by omega), if_pos (by omega), if_pos h2]
          simp [h2]
        · rw [if_pos (by omega), if_neg h2, List.getElem?_drop]
          congr 1
          omega
    · have hroom := of_decide_eq_false hroom
      have hcn : n + 1 ≤ c := by omega
      refine ⟨_, _, _, sliceIs_hi' Tryz.underlying49 hi9 hcn, _, _, _, sliceIs_lo Tryz.underlying49 hi9 rfl (by omega), ?_⟩
      rw [hadv (by omega)]
      refine semOk_overlaps hvb ha.same hb1 (by omega) ⟨false, rfl, fun _ => ⟨_, _, _, sliceIs_lo Tryz.underlying49 hi9 rfl (by omega), _, _, _, sliceIs_lo Tryz.underlying49 hi9 rfl (by omega), ?_⟩, (fun h => by cases h)⟩
      rw [hadv (by omega), hadv (by omega)]
      refine semOk_copy (inf := Tryz.t9) (ys := (xs.map Value.string).drop k) Tryz.underlying49 hi9 rfl hb1 (by omega) (by rw [List.length_drop, hyl]; simp only [Nat.min_def]; split <;> omega) (.inr ⟨b, o + k, rfl, htail hb1⟩) hone fun H2 hw2' => ⟨_, rfl, _, _, _, sliceIs_lo Tryz.underlying49 hi9 rfl (by omega), ?_⟩
      rw [hadv (by omega)]
      refine semOk_copy (inf := Tryz.t9) (ys := [.string x]) Tryz.underlying49 hi9 rfl hw2'.same (by rw [setAll_size]; omega) (by simp only [List.length_cons, List.length_nil, Nat.min_def]; split <;> omega) (.inr ⟨vb, 0, rfl, Cells.of (hw2'.keep ha.same hvb) rfl⟩) (by simp; rfl) fun H3 hw3' => ⟨_, rfl, ?_⟩
      have e0 : Ev S H g H1 g := Ev.sub hg ha.sub
      have e2 : Ev S H1 g H2 g := Ev.wr e0.ok hw2' fun tg' htg => by rw [htag] at htg; cases htg; exact hS
      have e3 : Ev S H2 g H3 g := Ev.wr e2.ok hw3' fun tg' htg => by rw [htag] at htg; cases htg; exact hS
      refine ⟨_, c, g, rfl, (e0.trans e2).trans e3, ownT_str hw3'.same htag (by rw [insAt_len (by omega)]; omega) hcn (by rw [setAll_size, setAll_size]; omega) ?_⟩
      rw [hmap]
      symm
      refine row_ins hyl hk fun i hi => ?_
      rw [setAll_get _ _ _ _ (by rw [setAll_size]; simp; omega), setAll_get _ _ _ _ (by rw [List.length_drop, hyl]; omega), List.length_drop, hyl]
      simp only [List.length_cons, List.length_nil]
      by_cases h1 : i < k
      · rw [if_neg (by omega), if_neg (by omega), if_pos h1, hg1 (by omega)]
      · rw [if_neg h1]
        by_cases h2 : i = k
        · rw [if_pos (by omega), if_pos h2]
          simp [h2]
        · rw [if_neg (by omega), if_pos (by omega), if_neg h2, List.getElem?_drop]
          congr 1
          omega

end Go.Proofs.Qxb6500695aGreatFmt
