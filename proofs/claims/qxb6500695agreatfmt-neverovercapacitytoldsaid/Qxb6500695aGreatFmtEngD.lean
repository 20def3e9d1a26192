/-
  THE ENGINE, PART D: the operations that act are sound; the results; the run of a plan, and that it is sound.
-/
import Derived.Test.Qxb6500695aGreatFmtEngC
namespace Go.Eng
open Go
set_option linter.unusedSimpArgs false

theorem setCell_heap {w : World} {b off : Nat} {v : Value} {c : Array Value} {T : TypeId} {fr : Nat × Nat} (hb : w.heap[b]? = some (.cells c T fr)) :
    (w.setCell ⟨b, off, none⟩ v).heap = w.heap.setIfInBounds b (.cells (c.setIfInBounds off v) T fr) := by
  obtain ⟨hlt, he⟩ := Array.getElem?_eq_some_iff.1 hb
  simp only [World.setCell]
  apply Array.ext_getElem?
  intro i
  by_cases hi : b = i
  · subst hi
    rw [Array.getElem?_modify, if_pos rfl, hb]
    simp [hlt]
  · simp [Array.getElem?_modify, hi]

theorem set_self {h : Array Obj} {b : Nat} {o : Obj} (hb : h[b]? = some o) : h.setIfInBounds b o = h := by
  obtain ⟨hlt, he⟩ := Array.getElem?_eq_some_iff.1 hb
  apply Array.ext_getElem?
  intro i
  by_cases hi : b = i
  · subst hi
    simp [hlt, he]
  · simp [hi]

theorem run_storeCells {P : Program} {b : Nat} {T : TypeId} : ∀ (vs : List Value) (w : World) (off i : Nat) (c : Array Value),
    w.heap[b]? = some (.cells c T (0, 0)) → off + i + vs.length ≤ c.size → (∀ v ∈ vs, v.oneCell' = true) →
    ∃ w', (storeCells ⟨b, off, none⟩ vs i).run P w = .ok () w' ∧ Str w w' ∧ w'.heap = w.heap.setIfInBounds b (.cells (setAll c (off + i) vs) T (0, 0)) := by
  intro vs
  induction vs with
  | nil =>
    intro w off i c hb _ _
    exact ⟨w, by simp [storeCells], Str.refl w, (set_self hb).symm⟩
  | cons v vs ih =>
    intro w off i c hb hl ho
    simp only [List.length_cons] at hl
    have hcell : (w.cell? ⟨b, off + i, none⟩).isSome = true := by
      simp only [World.cell?, hb]
      simp
      omega
    obtain ⟨x, hx⟩ := Option.isSome_iff_exists.1 hcell
    have hfr : w.frozen? ⟨b, off + i, none⟩ = false := by
      simp [World.frozen?, hb]
    have hh := setCell_heap (off := off + i) (v := v) hb
    have hb' : (w.setCell ⟨b, off + i, none⟩ v).heap[b]? = some (.cells (c.setIfInBounds (off + i) v) T (0, 0)) := by
      rw [hh]
      have := (Array.getElem?_eq_some_iff.1 hb).1
      simp [this]
    obtain ⟨w', hr, hs, hw⟩ := ih (w.setCell ⟨b, off + i, none⟩ v) off (i + 1) (c.setIfInBounds (off + i) v) hb' (by simp; omega) (fun y hy => ho y (List.mem_cons_of_mem _ hy))
    refine ⟨w', ?_, ⟨hs.1, hs.2.1, hs.2.2⟩, ?_⟩
    · simp only [storeCells, Sem.run_bind, addr_add]
      rw [run_store _ _ _ _ _ (ho v List.mem_cons_self)]
      simp [hx, hfr, hr]
    · rw [hw, hh]
      simp only [setAll]
      rw [show off + (i + 1) = off + i + 1 from rfl]
      simp

theorem effVC_sound {P : Program} {r : Nat} {ks : List Nat} {o : Oper} {ρ : Operand → Value} {h : Heap} {K : Value → Heap → Prop}
    (H : effVC P r ks o ρ h K) : OpOk P o ρ h K := by
  unfold effVC at H
  split at H
  · split at H
    · rename_i obj k hk
      intro w hw
      have hx := H w.heap.size (upd h w.heap.size obj) ⟨hw.fresh, rfl⟩
      rw [allocRun_sound hk w]
      split at hx
      · rename_i v hv
        rw [pureRun_sound hv]
        exact ⟨_, ⟨rfl, rfl, rfl⟩, hw.push obj, Fr.push obj, hx⟩
      · exact hx.elim
    · exact H.elim
  · split at H
    · rename_i t a x ho
      split at H
      · rename_i b off inf ha hinf
        split at H
        · rename_i hsz
          obtain ⟨h1, c, T, hb, hl, hk⟩ := ones_sound H
          intro w hw
          have hbg := hw _ _ hb
          obtain ⟨w', hr, hs, hh⟩ := run_storeCells (P := P) (ρ x).cells.toList w off 0 c hbg (by simpa using hl) h1
          have hsz' : inf.size = (ρ x).cells.size := by simpa using hsz
          have hrun : (execOp ρ o).run P w = .ok .skip w' := by
            simp [execOp, ho, ha, Instr.storeAt, Instr.sureAddr, storeVar, sizeOf, typeInfo, hinf, hsz', hr]
          rw [hrun]
          have hne : h b ≠ none := by simp [hb]
          refine ⟨upd h b (.cells (setAll c off (ρ x).cells.toList) T (0, 0)), hs, ?_, ?_, hk _ ⟨hne, rfl⟩⟩
          · rw [hh]; exact hw.set _ (hw.lt hb)
          · rw [hh]; exact Fr.set _ hne
        · exact H.elim
      · exact H.elim
    · exact H.elim
  · split at H
    · rename_i f args _ ho
      split at H
      · rename_i g first captured hf
        intro w hw
        have he := H.1 ((first ++ args.map ρ) ++ captured) w
        rw [Array.append_assoc] at he
        have hrun : (execOp ρ o).run P w = .ok (.enter g ((first ++ args.map ρ) ++ captured)) w := by
          rw [Array.append_assoc]
          simp [execOp, ho, resolve, hf, Deferred.ofValue, invoke, he]
        rw [hrun]
        exact ⟨rfl, H.mono fun v h' hk => shaped_sound hk⟩
      · exact H.elim
    · rename_i recv name args _ ho
      split at H
      · rename_i t x hx
        split at H
        · rename_i g hg
          intro w hw
          have he := H.1 (#[x] ++ args.map ρ) w
          have hrun : (execOp ρ o).run P w = .ok (.enter g (#[x] ++ args.map ρ)) w := by
            unfold methOf at hg
            have hsz : ∃ n, P.types.size + Made.depth = n + 1 := by
              have : 0 < Made.depth := by decide
              exact ⟨P.types.size + Made.depth - 1, by omega⟩
            obtain ⟨n, hn⟩ := hsz
            have h0 : (#[Value.iface t x] ++ Array.map ρ args)[0]? = some (Value.iface t x) := by rw [Array.getElem?_append_left (by simp)]; rfl
            have h1 : (#[Value.iface t x] ++ Array.map ρ args).extract 1 (#[Value.iface t x] ++ Array.map ρ args).size = Array.map ρ args := by simp
            split at hg
            · rename_i i u hi hu
              split at hg
              · rename_i m hm
                split at hg
                · rename_i f e hp hfun
                  simp at hg
                  subst hg
                  simp only [execOp, ho, resolve, invoke, hx, pure_bind]
                  rw [h0, h1]
                  simp [callMethod, hn, method, typeInfo, hi, hm, hp, hfun, follow, receiverAt, underlying, hu, Place.get, he]
                · rename_i f a1 a2 a3 hp hfun
                  simp at hg
                  subst hg
                  simp only [execOp, ho, resolve, invoke, hx, pure_bind]
                  rw [h0, h1]
                  simp [callMethod, hn, method, typeInfo, hi, hm, hp, hfun, follow, receiverAt, underlying, hu, Place.get, he]
                · rename_i f a1 hp hfun
                  simp at hg
                  subst hg
                  simp only [execOp, ho, resolve, invoke, hx, pure_bind]
                  rw [h0, h1]
                  simp [callMethod, hn, method, typeInfo, hi, hm, hp, hfun, follow, receiverAt, underlying, hu, Place.get, he]
                · simp at hg
              · simp at hg
            · simp at hg
          rw [hrun]
          exact ⟨rfl, H.mono fun v h' hk => shaped_sound hk⟩
        · exact H.elim
      · exact H.elim
    · exact H.elim
  · split at H
    · rename_i s hs
      intro w hw
      have hx := H w hw
      have hrun : (execOp ρ o).run P w = (s.run P w).andThen fun v w' => .ok (.value v) w' := by
        unfold semOf at hs
        split at hs <;> simp at hs <;> subst hs <;> rename_i ho <;> simp [execOp, ho, resolve, invoke, builtin]
        generalize Sem.run P (eqGuard _ _ _ _ _ _) w = r0
        cases r0 <;> simp [Result.andThen]
      rw [hrun]
      cases hr : s.run P w with
      | ok v w' => rw [hr] at hx; obtain ⟨H', a1, a2, a3, a4⟩ := hx; exact ⟨H', a1, a2, a3, shaped_sound a4⟩
      | halt e w' => rw [hr] at hx; exact hx.elim
    · exact H.elim
  · split at H
    · rename_i s hs
      intro w hw
      have hx := H w hw
      have hrun : (execOp ρ o).run P w = (s.run P w).andThen fun _ w' => .ok .skip w' := by
        unfold semUOf at hs
        split at hs <;> simp at hs <;> subst hs <;> rename_i ho <;> simp [execOp, ho]
      rw [hrun]
      cases hr : s.run P w with
      | ok v w' => rw [hr] at hx; exact hx
      | halt e w' => rw [hr] at hx; exact hx.elim
    · exact H.elim
  · split at H
    · rename_i f args argTypes ho
      split at H
      · rename_i g first captured hf
        intro w hw
        have hx := H w hw
        have hrun : (execOp ρ o).run P w = (callFunc g ((first ++ args.map ρ) ++ captured)).run P w := by
          simp [execOp, ho, resolve, invoke, hf, Deferred.ofValue]
        rw [hrun]
        unfold extSem at hx
        rw [Sem.run_bind] at hx
        cases hr : (callFunc g ((first ++ args.map ρ) ++ captured)).run P w with
        | halt e w' => rw [hr] at hx; exact hx.elim
        | ok n w' =>
          rw [hr] at hx
          cases n <;> first
            | (simp only [Result.andThen_ok, Sem.run_pure] at hx; obtain ⟨H', a1, a2, a3, a4⟩ := hx; exact ⟨H', a1, a2, a3, shaped_sound a4⟩)
            | exact hx.elim
      · exact H.elim
    · exact H.elim
  · exact H.elim

/-- The tag of a slot: it points into the function's own variable j, at cell off. -/
abbrev Tags := List (Option (Nat × Nat))

def TagOk (tags : Tags) (tmps : List Value) (loc : Loc) : Prop :=
  ∀ s j off, tags.getD s none = some (j, off) → ∃ b T cs, loc[j]? = some (b, T, cs) ∧ tmps.getD s undef = .pointer (some ⟨b, off, none⟩)

/-- The results as they are read at the return. -/
def resVC (P : Program) (tmps : List Value) (tags : Tags) (loc : Loc) (h : Heap) : List ResultVar → List Nat → (List Value → Prop) → Prop
  | [], _, K => K []
  | .tmp t :: r, ks, K => resVC P tmps tags loc h r ks fun vs => K (tmps.getD t undef :: vs)
  | .cell a t :: r, ks, K => match tags.getD a none with
    | some (j, off) => match loc[j]?, loadShape P t with
      | some (_, _, cs), some (true, n) => match decide (off + n ≤ cs.length) with
        | true => resVC P tmps tags loc h r ks fun vs => K (.agg ((cs.drop off).take n).toArray :: vs)
        | false => False
      | _, _ => False
    | none => match tmps.getD a undef, loadShape P t with
      | .pointer (some ⟨b, off, none⟩), some (true, n) => match decide (n ≤ ks.length) with
        | true => kvs (ks.take n) fun vs' => Cells h b off vs' ∧ resVC P tmps tags loc h r (ks.drop n) fun vs => K (.agg vs'.toArray :: vs)
        | false => False
      | _, _ => False

def packRes : List Value → Value
  | [v] => v
  | vs => .tuple vs.toArray

def resSem (tmps : Array Value) (r : ResultVar) : Sem Value :=
  match r with
  | .tmp t => pure (tmps.getD t undef)
  | .cell a t => do loadVar t (← asAddr (tmps.getD a undef))

theorem LocOk.cellsG {H : Heap} {g : Array Obj} {loc : Loc} (hl : LocOk H g loc) {j b : Nat} {T : TypeId} {cs : List Value} (hj : loc[j]? = some (b, T, cs))
    {off n : Nat} (_hn : off + n ≤ cs.length) : CellsG g b off ((cs.drop off).take n) := by
  have hb := (hl.2 _ (List.mem_of_getElem? hj)).2
  refine ⟨cs.toArray, T, (0, 0), hb, fun i hi => ?_⟩
  rw [List.length_take, List.length_drop] at hi
  rw [List.getElem?_take, if_pos (by omega), List.getElem?_drop]
  simp

theorem resVC_list {P : Program} {tmps : List Value} {tags : Tags} {loc : Loc} {h : Heap} (ht : TagOk tags tmps loc) : ∀ {rs : List ResultVar} {ks : List Nat} {K : List Value → Prop}, resVC P tmps tags loc h rs ks K →
    ∃ vs, K vs ∧ ∀ w : World, Sat h w.heap → LocOk h w.heap loc → (rs.mapM (resSem tmps.toArray)).run P w = .ok vs w
  | [], ks, K, H => ⟨[], H, fun w _ _ => by simp⟩
  | .tmp t :: r, ks, K, H => by
    obtain ⟨vs, hk, hr⟩ := resVC_list ht (rs := r) H
    exact ⟨_, hk, fun w hw hl => by simp [resSem, hr w hw hl]⟩
  | .cell a t :: r, ks, K, H => by
    simp only [resVC] at H
    split at H
    · rename_i j off htag
      split at H
      · rename_i b0 T0 cs n hj hs
        split at H
        · rename_i hn
          have hn' : off + n ≤ cs.length := by simpa using hn
          obtain ⟨vs, hk, hr⟩ := resVC_list ht (rs := r) H
          refine ⟨_, hk, fun w hw hl => ?_⟩
          obtain ⟨b, T, cs', hj', hp⟩ := ht _ _ _ htag
          rw [hj] at hj'
          simp at hj'
          obtain ⟨rfl, rfl, rfl⟩ := hj'
          have hlen : ((cs.drop off).take n).length = n := by rw [List.length_take, List.length_drop]; omega
          have := run_loadVar_agg (P := P) (w := w) (t := t) (b := b0) (off := off) (vs := (cs.drop off).take n) (by rw [hs, hlen]) (hl.cellsG hj hn')
          have ha' : tmps.toArray.getD a undef = .pointer (some ⟨b0, off, none⟩) := by simpa using hp
          simp only [List.mapM_cons, Sem.run_bind, resSem, ha', asAddr, Sem.run_pure, Result.andThen_ok, this, hr w hw hl]
        · exact H.elim
      · exact H.elim
    · split at H
      · rename_i b off n ha hs
        split at H
        · rename_i hn
          obtain ⟨vs', hl, hc, H'⟩ := kvs_sound H
          obtain ⟨vs, hk, hr⟩ := resVC_list ht (rs := r) H'
          have hn' : n ≤ ks.length := by simpa using hn
          have hl' : vs'.length = n := by rw [hl, List.length_take]; omega
          refine ⟨_, hk, fun w hw hlo => ?_⟩
          have := run_loadVar_agg (P := P) (w := w) (t := t) (b := b) (off := off) (vs := vs') (by rw [hs, hl']) (hc.g hw)
          have ha' : tmps.toArray.getD a undef = .pointer (some ⟨b, off, none⟩) := by simpa using ha
          simp only [List.mapM_cons, Sem.run_bind, resSem, ha', asAddr, Sem.run_pure, Result.andThen_ok, this, hr w hw hlo]
        · exact H.elim
      · exact H.elim

theorem results_eq (f : Func) (tmps : Array Value) :
    results f tmps = (f.results.mapM (resSem tmps) >>= fun vs => pure (if h : vs.size = 1 then vs[0] else .tuple vs)) := by
  unfold results
  congr 1

theorem resVC_sound {P : Program} {f : Func} {tmps : List Value} {tags : Tags} {loc : Loc} {h : Heap} {ks : List Nat} {K : Value → Prop} (ht : TagOk tags tmps loc)
    (H : resVC P tmps tags loc h f.results.toList ks fun vs => K (packRes vs)) :
    ∃ v, K v ∧ ∀ w : World, Sat h w.heap → LocOk h w.heap loc → (results f tmps.toArray).run P w = .ok v w := by
  obtain ⟨vs, hk, hr⟩ := resVC_list ht H
  refine ⟨_, hk, fun w hw hl => ?_⟩
  rw [results_eq]
  have hm : (f.results.mapM (resSem tmps.toArray)).run P w = .ok vs.toArray w := by
    have := hr w hw hl
    rw [Array.mapM_eq_mapM_toList]
    simp [this]
  rw [Sem.run_bind, hm]
  simp only [Result.andThen_ok, Sem.run_pure]
  congr 1
  match vs with
  | [] => simp [packRes]
  | [v] => simp [packRes]
  | _ :: _ :: _ => simp [packRes]

/-- What an operation on the function's own variables yields. -/
def lfVC (P : Program) (r : Nat) (o : Oper) (tags : Tags) (loc : Loc) (K : Value → Option (Nat × Nat) → Option Fact → Prop) : Prop :=
  match r with
  | 31 => match o.op with
    | .load t (.tmp a) => match tags.getD a none with
      | some (j, off) => match loc[j]?, loadShape P t with
        | some (b, T, cs), some (true, n) => match decide (off + n ≤ cs.length) with
          | true => K (.agg ((cs.drop off).take n).toArray) none (some ⟨0, 0, [], none, some (j, b, T, cs)⟩)
          | false => False
        | some (b, T, cs), some (false, _) => match cs[off]? with
          | some v => K v none (some ⟨0, 0, [], none, some (j, b, T, cs)⟩)
          | none => False
        | _, _ => False
      | none => False
    | _ => False
  | 33 => match o.op with
    | .move (.tmp a) => match tags.getD a none with
      | some (j, off) => match loc[j]? with
        | some (b, _, _) => K (.pointer (some ⟨b, off, none⟩)) (some (j, off)) none
        | none => False
      | none => False
    | .nilCheck (.tmp a) => match tags.getD a none with
      | some (j, off) => match loc[j]? with
        | some (b, _, _) => K (.pointer (some ⟨b, off, none⟩)) (some (j, off)) none
        | none => False
      | none => False
    | _ => False
  | 34 => match o.op with
    | .fieldAddr s (.tmp a) f => match tags.getD a none, P.underlying s with
      | some (j, off), some (.struct fs) => match loc[j]?, fs[f]? with
        | some (b, _, _), some fd => match P.info? fd.type with
          | some inf => match decide (inf.size = 0) with
            | false => K (.pointer (some ⟨b, off + fd.offset, none⟩)) (some (j, off + fd.offset)) none
            | true => False
          | none => False
        | _, _ => False
      | _, _ => False
    | _ => False
  | 35 => match o.op with
    | .indexAddr t (.tmp a) (.const (.int _ i)) => match tags.getD a none, P.underlying t with
      | some (j, off), some (.array len e) => match loc[j]?, P.info? e with
        | some (b, _, _), some inf => match decide (0 ≤ i ∧ i < len) with
          | true => K (.pointer (some ⟨b, off + i.toNat * inf.size, none⟩)) (some (j, off + i.toNat * inf.size)) none
          | false => False
        | _, _ => False
      | _, _ => False
    | _ => False
  | _ => False

theorem lfVC_sound {P : Program} {r : Nat} {o : Oper} {tmps : List Value} {tags : Tags} {loc : Loc} {K : Value → Option (Nat × Nat) → Option Fact → Prop} (ht : TagOk tags tmps loc)
    (H : lfVC P r o tags loc K) : ∃ v tg f, K v tg f ∧ (∀ h, optSem f loc h) ∧ Floats P o (ev tmps) (optSem f) v ∧
      (∀ j off, tg = some (j, off) → ∃ b T cs, loc[j]? = some (b, T, cs) ∧ v = .pointer (some ⟨b, off, none⟩)) := by
  unfold lfVC at H
  split at H
  · split at H
    · rename_i t a ho
      split at H
      · rename_i j off htag
        obtain ⟨b', T', cs', hj', hp⟩ := ht _ _ _ htag
        have hev : ev tmps (.tmp a) = .pointer (some ⟨b', off, none⟩) := hp
        split at H
        · rename_i b T cs n hj hs
          rw [hj'] at hj
          simp at hj
          obtain ⟨rfl, rfl, rfl⟩ := hj
          split at H
          · rename_i hn
            have hn' : off + n ≤ cs'.length := by simpa using hn
            refine ⟨_, _, _, H, fun _ => hj', fun l1 H1 w hf hsat hl => ?_, fun _ _ h => by cases h⟩
            have hlen : ((cs'.drop off).take n).length = n := by rw [List.length_take, List.length_drop]; omega
            have := run_loadVar_agg (P := P) (w := w) (t := t) (b := b') (off := off) (vs := (cs'.drop off).take n) (by rw [hs, hlen]) (hl.cellsG hf hn')
            simp only [execOp, ho, hev, Instr.loadAt, Instr.sureAddr, Sem.run_bind, Sem.run_pure, Result.andThen_ok, this]
          · exact H.elim
        · rename_i b T cs n hj hs
          rw [hj'] at hj
          simp at hj
          obtain ⟨rfl, rfl, rfl⟩ := hj
          split at H
          · rename_i v hv
            refine ⟨_, _, _, H, fun _ => hj', fun l1 H1 w hf hsat hl => ?_, fun _ _ h => by cases h⟩
            have hlt := (List.getElem?_eq_some_iff.1 hv).1
            have hc := hl.cellsG hf (off := off) (n := 1) (by omega)
            have he : (cs'.drop off).take 1 = [v] := by
              rw [List.drop_eq_getElem_cons hlt]
              have := (List.getElem?_eq_some_iff.1 hv).2
              simp [this]
            rw [he] at hc
            have := run_loadVar_one (P := P) (w := w) hs hc
            simp only [execOp, ho, hev, Instr.loadAt, Instr.sureAddr, Sem.run_bind, Sem.run_pure, Result.andThen_ok, this]
          · exact H.elim
        · exact H.elim
      · exact H.elim
    · exact H.elim
  · split at H
    · rename_i a ho
      split at H
      · rename_i j off htag
        obtain ⟨b', T', cs', hj', hp⟩ := ht _ _ _ htag
        have hev : ev tmps (.tmp a) = .pointer (some ⟨b', off, none⟩) := hp
        split at H
        · rename_i b T cs hj
          rw [hj'] at hj
          simp at hj
          obtain ⟨rfl, rfl, rfl⟩ := hj
          refine ⟨_, _, _, H, fun _ => trivial, fun l1 H1 w hf hsat hl => ?_, fun j1 off1 h => ?_⟩
          · simp [execOp, ho, hev]
          · simp at h; obtain ⟨rfl, rfl⟩ := h; exact ⟨_, _, _, hj', rfl⟩
        · exact H.elim
      · exact H.elim
    · rename_i a ho
      split at H
      · rename_i j off htag
        obtain ⟨b', T', cs', hj', hp⟩ := ht _ _ _ htag
        have hev : ev tmps (.tmp a) = .pointer (some ⟨b', off, none⟩) := hp
        split at H
        · rename_i b T cs hj
          rw [hj'] at hj
          simp at hj
          obtain ⟨rfl, rfl, rfl⟩ := hj
          refine ⟨_, _, _, H, fun _ => trivial, fun l1 H1 w hf hsat hl => ?_, fun j1 off1 h => ?_⟩
          · simp [execOp, ho, hev]
          · simp at h; obtain ⟨rfl, rfl⟩ := h; exact ⟨_, _, _, hj', rfl⟩
        · exact H.elim
      · exact H.elim
    · exact H.elim
  · split at H
    · rename_i s a f ho
      split at H
      · rename_i j off fs htag hu
        obtain ⟨b', T', cs', hj', hp⟩ := ht _ _ _ htag
        have hev : ev tmps (.tmp a) = .pointer (some ⟨b', off, none⟩) := hp
        split at H
        · rename_i b T cs fd hj hfd
          rw [hj'] at hj
          simp at hj
          obtain ⟨rfl, rfl, rfl⟩ := hj
          split at H
          · rename_i inf hinf
            split at H
            · rename_i hz
              have hz' : ¬ inf.size = 0 := by simpa using hz
              refine ⟨_, _, _, H, fun _ => trivial, fun l1 H1 w hf hsat hl => ?_, fun j1 off1 h => ?_⟩
              · simp [execOp, ho, hev, Instr.fieldAt, underlying, hu, hfd, Instr.sureAddr, fieldPlace, sizeOf, typeInfo, hinf, hz', addr_add]
              · simp at h; obtain ⟨rfl, rfl⟩ := h; exact ⟨_, _, _, hj', rfl⟩
            · exact H.elim
          · exact H.elim
        · exact H.elim
      · exact H.elim
    · exact H.elim
  · split at H
    · rename_i t a kd i ho
      split at H
      · rename_i j off len e htag hu
        obtain ⟨b', T', cs', hj', hp⟩ := ht _ _ _ htag
        have hev : ev tmps (.tmp a) = .pointer (some ⟨b', off, none⟩) := hp
        split at H
        · rename_i b T cs inf hj hinf
          rw [hj'] at hj
          simp at hj
          obtain ⟨rfl, rfl, rfl⟩ := hj
          split at H
          · rename_i hi
            have hi' : 0 ≤ i ∧ i < len := by simpa using hi
            refine ⟨_, _, _, H, fun _ => trivial, fun l1 H1 w hf hsat hl => ?_, fun j1 off1 h => ?_⟩
            · have hc : ev tmps (.const (.int kd i)) = .int kd i := rfl
              simp [execOp, ho, hev, hc, Instr.indexAt, Instr.sureAddr, asIntOf, underlying, hu, hi'.1, hi'.2, sizeOf, typeInfo, hinf, addr_add]
            · simp at h; obtain ⟨rfl, rfl⟩ := h; exact ⟨_, _, _, hj', rfl⟩
          · exact H.elim
        · exact H.elim
      · exact H.elim
    · exact H.elim
  · exact H.elim

/-- A new variable of the function's own. -/
def alVC (P : Program) (o : Oper) (ρ : Operand → Value) (loc : Loc) (K : Value → Loc → Prop) : Prop :=
  match o.op with
  | .alloc t => match P.info? t with
    | some inf => match inf.zero with
      | some z => ∀ b : Nat, K (.pointer (some ⟨b, 0, none⟩)) (loc ++ [(b, t, z.cells.toList)])
      | none => False
    | none => False
  | .box t x => ∀ b : Nat, K (.pointer (some ⟨b, 0, none⟩)) (loc ++ [(b, t, (ρ x).cells.toList)])
  | _ => False

theorem loc_push {H : Heap} {w : World} {loc : Loc} (hs : Sat H w.heap) (hl : LocOk H w.heap loc) (T : TypeId) (cs : List Value) :
    Sat H (w.heap.push (.cells cs.toArray T (0, 0))) ∧ LocOk H (w.heap.push (.cells cs.toArray T (0, 0))) (loc ++ [(w.heap.size, T, cs)]) ∧
    FrL loc H w.heap H (w.heap.push (.cells cs.toArray T (0, 0))) := by
  refine ⟨fun b o hb => ?_, ⟨?_, fun p hp => ?_⟩, by simp, fun b hb _ _ => by rw [Array.getElem?_push, if_neg (by omega)], fun b h1 h2 => absurd h1 h2⟩
  · have := hs.lt hb
    rw [Array.getElem?_push, if_neg (by omega)]
    exact hs b o hb
  · rw [List.map_append, List.nodup_append]
    refine ⟨hl.1, by simp, ?_⟩
    intro a ha b hb
    obtain ⟨p, hp, rfl⟩ := List.mem_map.1 ha
    have := (Array.getElem?_eq_some_iff.1 (hl.2 p hp).2).1
    simp at hb
    omega
  · rcases List.mem_append.1 hp with hp | hp
    · obtain ⟨h1, h2⟩ := hl.2 p hp
      have := (Array.getElem?_eq_some_iff.1 h2).1
      exact ⟨h1, by rw [Array.getElem?_push, if_neg (by omega)]; exact h2⟩
    · simp at hp
      subst hp
      exact ⟨hs.fresh, by simp⟩

theorem alVC_sound {P : Program} {o : Oper} {ρ : Operand → Value} {loc : Loc} {H : Heap} {K : Value → Loc → Heap → Prop}
    (h : alVC P o ρ loc fun v l => K v l H) : StepOk P o ρ loc H K := by
  intro w hs hl
  unfold alVC at h
  split at h
  · rename_i t ho
    split at h
    · rename_i inf hi
      split at h
      · rename_i z hz
        have hrun : (execOp ρ o).run P w = .ok (.value (.pointer (some ⟨w.heap.size, 0, none⟩))) { w with heap := w.heap.push (.cells z.cells t (0, 0)) } := by
          simp [execOp, ho, Instr.alloc, zeroValue, typeInfo, hi, hz, newVar, newRow]
        rw [hrun]
        obtain ⟨a1, a2, a3⟩ := loc_push hs hl t z.cells.toList
        simp only [Array.toArray_toList] at a1 a2 a3
        refine ⟨H, _, ⟨rfl, rfl, rfl⟩, a1, a2, a3, ?_, h _⟩
        intro b hb
        rw [List.map_append, List.mem_append] at hb
        rcases hb with hb | hb
        · exact .inl hb
        · simp at hb; exact .inr (by omega)
      · exact h.elim
    · exact h.elim
  · rename_i t x ho
    have hrun : (execOp ρ o).run P w = .ok (.value (.pointer (some ⟨w.heap.size, 0, none⟩))) { w with heap := w.heap.push (.cells (ρ x).cells t (0, 0)) } := by
      simp [execOp, ho, Instr.box, newVar, newRow]
    rw [hrun]
    obtain ⟨a1, a2, a3⟩ := loc_push hs hl t (ρ x).cells.toList
    simp only [Array.toArray_toList] at a1 a2 a3
    refine ⟨H, _, ⟨rfl, rfl, rfl⟩, a1, a2, a3, ?_, h _⟩
    intro b hb
    rw [List.map_append, List.mem_append] at hb
    rcases hb with hb | hb
    · exact .inl hb
    · simp at hb; exact .inr (by omega)
  · exact h.elim

def setL (cs : List Value) (off : Nat) : List Value → List Value
  | [] => cs
  | v :: vs => setL (cs.set off v) (off + 1) vs

theorem setAll_toArray (vs : List Value) : ∀ (cs : List Value) (off : Nat), setAll cs.toArray off vs = (setL cs off vs).toArray := by
  induction vs with
  | nil => intro cs off; rfl
  | cons v vs ih => intro cs off; simp only [setAll, setL]; rw [List.setIfInBounds_toArray]; exact ih _ _

/-- A store into a variable of the function's own. -/
def stVC (P : Program) (ks : List Nat) (o : Oper) (ρ : Operand → Value) (tags : Tags) (loc : Loc) (K : Nat → Loc → Prop) : Prop :=
  match o.op with
  | .store t (.tmp a) x => match tags.getD a none, P.info? t with
    | some (j, off), some inf => match loc[j]? with
      | some (b, T, cs) => match decide (inf.size = (ρ x).cells.toList.length), decide (off + (ρ x).cells.toList.length ≤ cs.length) with
        | true, true => ones (ρ x).cells.toList 0 ks (K j (loc.set j (b, T, setL cs off (ρ x).cells.toList)))
        | _, _ => False
      | none => False
    | _, _ => False
  | _ => False

theorem stVC_sound {P : Program} {ks : List Nat} {o : Oper} {tmps : List Value} {tags : Tags} {loc : Loc} {H : Heap} {K : Value → Loc → Heap → Prop} {X : Nat → Loc → Prop} (ht : TagOk tags tmps loc)
    (h : stVC P ks o (ev tmps) tags loc X) (hX : ∀ (j : Nat) (l : Loc), X j l → (∀ (i b : Nat) (T : TypeId) (cs : List Value), loc[i]? = some (b, T, cs) → ∃ cs', l[i]? = some (b, T, cs')) → (∀ i : Nat, i ≠ j → l[i]? = loc[i]?) → K undef l H) :
    StepOk P o (ev tmps) loc H K := by
  intro w hs hl
  unfold stVC at h
  split at h
  · rename_i t a x ho
    split at h
    · rename_i j off inf htag hinf
      split at h
      · rename_i b T cs hj
        split at h
        · rename_i h1 h2
          obtain ⟨hone, hk⟩ := ones_sound h
          have h1' : inf.size = ((ev tmps) x).cells.size := by simpa using h1
          have h2' : off + ((ev tmps) x).cells.toList.length ≤ cs.length := by simpa using h2
          obtain ⟨b', T', cs', hj', hp⟩ := ht _ _ _ htag
          rw [hj] at hj'
          simp at hj'
          obtain ⟨rfl, rfl, rfl⟩ := hj'
          have hev : ev tmps (.tmp a) = .pointer (some ⟨b, off, none⟩) := hp
          obtain ⟨hHb, hgb⟩ := hl.2 _ (List.mem_of_getElem? hj)
          obtain ⟨w', hr, hstr, hh⟩ := run_storeCells (P := P) ((ev tmps) x).cells.toList w off 0 cs.toArray hgb (by simpa using h2') hone
          have hrun : (execOp (ev tmps) o).run P w = .ok .skip w' := by
            simp [execOp, ho, hev, Instr.storeAt, Instr.sureAddr, storeVar, sizeOf, typeInfo, hinf, h1', hr]
          rw [hrun]
          simp only [Nat.add_zero] at hh
          rw [setAll_toArray] at hh
          have hlt := (Array.getElem?_eq_some_iff.1 hgb).1
          have hjl := (List.getElem?_eq_some_iff.1 hj).1
          have hkeys : (loc.set j (b, T, setL cs off ((ev tmps) x).cells.toList)).map (·.1) = loc.map (·.1) := by
            rw [List.map_set]
            apply List.ext_getElem?
            intro i
            rw [List.getElem?_set]
            split
            · rename_i hi; subst hi
              have := (List.getElem?_eq_some_iff.1 hj).2
              simp [hjl, this]
            · rfl
          refine ⟨H, _, hstr, ?_, ⟨by rw [hkeys]; exact hl.1, fun p hp => ?_⟩, ?_, fun x hx => .inl (by rw [hkeys] at hx; exact hx), hX _ _ hk (fun i b1 T1 c1 hi => ?_) (fun i hi => ?_)⟩
          · intro x y hx
            rw [hh, Array.getElem?_setIfInBounds_ne]
            · exact hs x y hx
            · intro hc; subst hc; rw [hHb] at hx; cases hx
          · obtain ⟨i, hi⟩ := List.mem_iff_getElem?.1 hp
            rw [List.getElem?_set] at hi
            split at hi
            · rename_i hij
              simp [hjl] at hi
              subst hi
              exact ⟨hHb, by rw [hh]; simp [hlt]⟩
            · rename_i hij
              obtain ⟨q1, q2⟩ := hl.2 p (List.mem_of_getElem? hi)
              refine ⟨q1, ?_⟩
              rw [hh, Array.getElem?_setIfInBounds_ne]
              · exact q2
              · intro hc
                have e1 : (loc.map (·.1))[i]? = some p.1 := by simp [List.getElem?_map, hi]
                have e2 : (loc.map (·.1))[j]? = some b := by simp [List.getElem?_map, hj]
                have hnd := List.pairwise_iff_getElem.1 hl.1
                obtain ⟨f1, f2⟩ := List.getElem?_eq_some_iff.1 e1
                obtain ⟨f3, f4⟩ := List.getElem?_eq_some_iff.1 e2
                rcases Nat.lt_trichotomy i j with h | h | h
                · exact hnd i j f1 f3 h (by rw [f2, f4]; exact hc.symm)
                · exact hij h.symm
                · exact hnd j i f3 f1 h (by rw [f2, f4]; exact hc)
          · refine ⟨by rw [hh]; simp, fun x hx hn hnl => ?_, fun x h1 h2 => absurd h1 h2⟩
            rw [hh, Array.getElem?_setIfInBounds_ne]
            intro hc; subst hc
            exact hnl (List.mem_map.2 ⟨_, List.mem_of_getElem? hj, rfl⟩)
          · rw [List.getElem?_set]
            split
            · rename_i hij; subst hij
              rw [hj] at hi
              simp at hi
              obtain ⟨rfl, rfl, rfl⟩ := hi
              simp [hjl]
            · exact ⟨c1, hi⟩
          · rw [List.getElem?_set, if_neg (Ne.symm hi)]
        · exact h.elim
      · exact h.elim
    · exact h.elim
  · exact h.elim

end Go.Eng
