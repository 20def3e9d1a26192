/-
  NAMES, PART D: slices.Delete of one name; maps.Clone.
-/
import Derived.Test.Qxb6500695aGreatFmtZc
import Derived.Laws.Cover3
namespace Go.Eng
open Go
set_option linter.unusedVariables false
set_option linter.unusedSimpArgs false

/-- append(s, x...), both slices, where there is room. -/
theorem semOk_appendFit {P : Program} {t T ty : TypeId} {inf : TypeInfo} {b o n c m mc qb qo : Nat} {arr : Array Value} {ys : List Value} {h : Heap} {K : Value → Heap → Prop}
    (ht : P.underlying t = some (.slice T)) (hi : P.info? T = some inf) (hbk : h b = some (.cells arr T (0, 0))) (hsz : o + (n + m) * inf.size ≤ arr.size)
    (hq : Cells h qb qo ys) (hm : ys.length = m * inf.size) (h1 : ∀ v ∈ ys, v.oneCell' = true) (hfit : n + m ≤ c)
    (H1 : ∀ h', Wr h b (.cells (setAll arr (o + n * inf.size) ys) T (0, 0)) h' → K (.slice (some ⟨b, o, none⟩) (n + m) c) h') :
    SemOk P (Builtin.append_ #[t, t] ty #[.slice (some ⟨b, o, none⟩) n c, .slice (some ⟨qb, qo, none⟩) m mc]) h K := by
  intro w hw
  have hqc := hq.g hw
  have hfy : (Builtin.firstCells inf.size m (.slice (some ⟨qb, qo, none⟩) m mc)).run P w = .ok ys.toArray w := by
    have := run_loadCells (P := P) hqc
    rw [hm] at this
    simpa [Builtin.firstCells] using this
  obtain ⟨w', hr, hstr, hheap⟩ := run_storeCells (P := P) ys w (o + n * inf.size) 0 arr (hw _ _ hbk) (by rw [hm]; rw [Nat.add_mul] at hsz; omega) h1
  have key : (Builtin.append_ #[t, t] ty #[.slice (some ⟨b, o, none⟩) n c, .slice (some ⟨qb, qo, none⟩) m mc]).run P w = .ok (.slice (some ⟨b, o, none⟩) (n + m) c) w' := by
    unfold Builtin.append_
    simp [underlying, ht, sizeOf, typeInfo, hi, Builtin.lenOf, hfit, hfy, addr_add, hr]
  rw [key]
  have hne : h b ≠ none := by simp [hbk]
  simp only [Nat.add_zero] at hheap
  refine ⟨upd h b (.cells (setAll arr (o + n * inf.size) ys) T (0, 0)), hstr, ?_, ?_, H1 _ ⟨hne, rfl⟩⟩
  · rw [hheap]; exact hw.set _ (hw.lt hbk)
  · rw [hheap]; exact Fr.set _ hne

end Go.Eng

namespace Go.Proofs.Qxb6500695aGreatFmt
open Go Go.Eng Go.Proofs
set_option maxRecDepth 100000
set_option linter.unusedVariables false
set_option linter.unusedSimpArgs false
set_option linter.unusedSectionVars false

theorem sliceIs_3 {t T : TypeId} {inf : TypeInfo} {p : Option Addr} {n c k j m : Nat} (ht : Tryz.prog.underlying t = some (.slice T)) (hi : Tryz.prog.info? T = some inf) (hsz : inf.size = 1) (hk : k ≤ j) (hj : j ≤ m) (hm : m ≤ c) :
    SliceIs Tryz.prog t (.slice p n c) (some (.int .i64 (k : Int))) (some (.int .i64 (j : Int))) (some (.int .i64 (m : Int))) (.slice (advP p m k) (j - k) (m - k)) := by
  intro w
  unfold Instr.sliceAt Instr.slice
  simp [underlying, ht, Instr.sliceBounds, Instr.sliceBound, sizeOf, typeInfo, hi, hk, hj, hm, asInt, asIntOf, hsz, advP]

theorem f202_ht {S : Nat × Int → Prop} {H : Heap} {g : Gh} {tg : Nat × Int} {p : Option Addr} {n c k : Nat} {xs : List ByteArray}
    (hg : GOk H g) (hs : OwnT H g tg 9 1 Str.cs p n c xs) (hk : k < n) (hS : S tg) (hn : n < 2 ^ 30) :
    HT Tryz.prog 202 [.slice p n c, .int .i64 (k : Int), .int .i64 ((k + 1 : Nat) : Int)] H fun v H' => v = .slice p (n - 1) c ∧ Ev S H g H' g ∧ OwnT H' g tg 9 1 Str.cs p (n - 1) c (xs.take k ++ xs.drop (k + 1)) := by
  have hlen := hs.own.len
  have hnc := hs.own.lenc
  have hi9 : Tryz.prog.info? 9 = some Tryz.t9 := by kernel_rfl
  obtain ⟨b, o, arr, hp, hb, _, hfit, hrow, htag⟩ := ownT_row hs (by omega)
  subst hp
  have hyl : (xs.map Value.string).length = n := by simp [hlen]
  have hg1 : ∀ {i : Nat}, i < n → arr[o + i]? = (xs.map Value.string)[i]? := fun hi => row_get hrow hi
  have hadv : ∀ {q oo cc j : Nat}, cc ≠ j → advP (some ⟨q, oo, none⟩) cc j = some ⟨q, oo + j, none⟩ := by
    intro q oo cc j h
    unfold advP
    rw [if_neg h]
    simp [addr_add]
  have fin : ∀ {H1 H' : Heap} {A : Array Value}, H1 b = some (.cells A 9 (0, 0)) → Ev S H g H1 g → A.size = arr.size → (∀ i, i < n - 1 → A[o + i]? = if i < k then (xs.map Value.string)[i]? else (xs.map Value.string)[i + 1]?) →
      Wr H1 b (.cells (setAll A (o + (n - 1)) (List.replicate (n - (n - 1)) (Value.string ⟨#[]⟩))) 9 (0, 0)) H' → Ev S H g H' g ∧ OwnT H' g tg 9 1 Str.cs (some ⟨b, o, none⟩) (n - 1) c (xs.take k ++ xs.drop (k + 1)) := by
    intro H1 H' A hA e1 hAs hAg hw
    have e2 : Ev S H1 g H' g := Ev.wr e1.ok hw fun tg' htg => by rw [htag] at htg; cases htg; exact hS
    refine ⟨e1.trans e2, ownT_str hw.same htag (by simp; omega) (by omega) (by rw [setAll_size, hAs]; omega) ?_⟩
    rw [show (xs.take k ++ xs.drop (k + 1)).map Value.string = (xs.map Value.string).take k ++ (xs.map Value.string).drop (k + 1) by simp]
    symm
    refine row_del hyl hk fun i hi => ?_
    rw [setAll_get _ _ _ _ (by simp; omega), if_neg (by simp; omega)]
    exact hAg i hi
  apply f202_of
  refine ⟨_, _, _, sliceIs_3 Tryz.underlying49 hi9 rfl (by omega) (by omega) hnc, (fun h => by have := beq_iff_eq.1 h; omega), fun _ => ⟨_, _, _, sliceIs_hi' Tryz.underlying49 hi9 (by omega), _, _, _, sliceIs_lo Tryz.underlying49 hi9 rfl (by omega), ?_⟩⟩
  rcases Nat.eq_zero_or_pos (n - (k + 1)) with h0 | hpos
  · have hkn : k = n - 1 := by omega
    rw [h0]
    refine semOk_append0 (inf := Tryz.t9) Tryz.underlying49 hi9 (by omega) ⟨_, _, _, rfl, _, _, _, sliceIs_lohi Tryz.underlying49 hi9 rfl (by omega) (by omega), ?_⟩
    have hck : c ≠ k := by omega
    rw [hadv hck]
    refine semOk_clearS (inf := Tryz.t9) (z := .string ⟨#[]⟩) Tryz.underlying49 hi9 rfl rfl rfl hb (by omega) fun H' hw => ⟨rfl, ?_⟩
    rw [hkn] at hw
    obtain ⟨e, ow⟩ := fin hb (Ev.refl hg) rfl (fun i hi => by rw [if_pos (by omega)]; exact hg1 (by omega)) hw
    refine ⟨by rw [hkn], e, ow⟩
  · have hck : c ≠ k + 1 := by omega
    rw [hadv hck]
    have htail : Cells H b (o + (k + 1)) ((xs.map Value.string).drop (k + 1)) := by
      refine Cells.of hb ?_
      apply List.ext_getElem?
      intro i
      rw [List.getElem?_take, List.length_drop, hyl]
      by_cases hi : i < n - (k + 1)
      · rw [if_pos hi, List.getElem?_drop, List.getElem?_drop, Array.getElem?_toList, Nat.add_assoc, hg1 (by omega)]
      · rw [if_neg hi]
        symm
        apply List.getElem?_eq_none
        rw [List.length_drop, hyl]
        omega
    refine semOk_appendFit (inf := Tryz.t9) (arr := arr) (ys := (xs.map Value.string).drop (k + 1)) Tryz.underlying49 hi9 hb ?_ htail ?_ ?_ (by omega) fun H1 hw1 => ?_
    · show o + (k + (n - (k + 1))) * 1 ≤ _
      omega
    · rw [List.length_drop, hyl]
      show _ = (n - (k + 1)) * 1
      omega
    · intro v hv
      obtain ⟨y, _, rfl⟩ := List.mem_map.1 (List.mem_of_mem_drop hv)
      rfl
    have hkk : k + (n - (k + 1)) = n - 1 := by omega
    rw [hkk]
    refine ⟨_, _, _, rfl, _, _, _, sliceIs_lohi Tryz.underlying49 hi9 rfl (by omega) (by omega), ?_⟩
    have hck : c ≠ n - 1 := by omega
    rw [hadv hck]
    have hw1' : Wr H b (.cells (setAll arr (o + k) ((xs.map Value.string).drop (k + 1))) 9 (0, 0)) H1 := by
      have := hw1
      rw [show k * Tryz.t9.size = k from Nat.mul_one k] at this
      exact this
    refine semOk_clearS (inf := Tryz.t9) (z := .string ⟨#[]⟩) Tryz.underlying49 hi9 rfl rfl rfl hw1'.same (by rw [setAll_size]; omega) fun H' hw => ⟨rfl, ?_⟩
    have e1 : Ev S H g H1 g := Ev.wr hg hw1' fun tg' htg => by rw [htag] at htg; cases htg; exact hS
    obtain ⟨e, ow⟩ := fin hw1'.same e1 (setAll_size _ _ _) (fun i hi => by
      rw [setAll_get _ _ _ _ (by rw [List.length_drop, hyl]; omega), List.length_drop, hyl]
      by_cases h1 : i < k
      · rw [if_neg (by omega), if_pos h1, hg1 (by omega)]
      · rw [if_pos (by omega), if_neg h1, List.getElem?_drop]
        congr 1
        omega) hw
    exact ⟨rfl, e, ow⟩

theorem binIs_map_eql {P : Program} {t k e : TypeId} {x y : Operand} {m : Option Nat} (hu : P.underlying t = some (.map k e)) : BinIs P .eql t x y (.map m) (.map none) (.bool m.isNone) := by
  intro w
  have h1 : (Op.equal t (.map m) (.map none)).run P w = .ok m.isNone w := run_equal_map_nil w t k e m hu
  simp only [eqGuard, binOp, Sem.run_bind]
  simp [h1]

theorem f187_ht {H : Heap} {r ck : Nat} {es : Array MapEntry} (hr : H r = some (.map es ck)) : HT Tryz.prog 187 [.map (some r)] H fun v H' => ∃ r', v = .map (some r') ∧ Al H (.map es ck) r' H' := by
  apply f187_of
  refine ⟨_, binIs_map_eql Tryz.underlying168, (fun h => by cases h), fun _ => ?_⟩
  intro w hw
  have hgr := hw _ _ hr
  have h3 := run_getMap (P := Tryz.prog) hgr
  have h1 : (Extern.MapsClone.clone #[.iface 168 (.map (some r))]).run Tryz.prog w = .ok (.iface 168 (.map (some w.heap.size))) { w with heap := w.heap.push (.map es ck) } := by
    obtain ⟨msg, hdef⟩ : ∃ msg, Extern.MapsClone.clone #[.iface 168 (.map (some r))] = (do
        let .map entries clock ← getObj r | stuck msg
        pure (.iface 168 (.map (some (← newObj (.map entries clock)))))) := ⟨_, rfl⟩
    rw [hdef]
    simp only [Sem.run_bind, h3, Result.andThen_ok, run_newObj', Sem.run_pure]
  have h2 : (callFunc 205 #[.iface 168 (.map (some r))]).run Tryz.prog w = .ok (.value (.iface 168 (.map (some w.heap.size)))) { w with heap := w.heap.push (.map es ck) } := by
    rw [run_callFunc_extern Tryz.func205 (by kernel_rfl) (by kernel_rfl) (by kernel_rfl) (e := Extern.MapsClone.clone) (by kernel_rfl), h1]
    rfl
  have h4 : (extSem 205 #[.iface 168 (.map (some r))]).run Tryz.prog w = .ok (.iface 168 (.map (some w.heap.size))) { w with heap := w.heap.push (.map es ck) } := by
    unfold extSem
    rw [Sem.run_bind, h2]
    simp
  rw [h4]
  exact ⟨_, ⟨rfl, rfl, rfl⟩, hw.push _, Fr.push _, _, rfl, _, rfl, ⟨hw.fresh, rfl⟩⟩

end Go.Proofs.Qxb6500695aGreatFmt
