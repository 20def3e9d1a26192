/-
  THE ENGINE, PART E: the run of a plan, and that it is sound.
-/
import Derived.Test.Qxb6500695aGreatFmtEngD
namespace Go.Eng
open Go
set_option linter.unusedSimpArgs false

def maskL (dead : List Nat) (d : Nat → Value) : Nat → List Value → List Value
  | _, [] => []
  | i, v :: r => (match dead.contains i with | true => d i | false => v) :: maskL dead d (i + 1) r

theorem maskL_self (dead : List Nat) (all : List Value) : ∀ (r : List Value) (i : Nat), r = all.drop i → maskL dead (fun j => all.getD j undef) i r = r
  | [], _, _ => rfl
  | v :: r, i, h => by
    have hlt : i < all.length := by
      rcases Nat.lt_or_ge i all.length with hl | hl
      · exact hl
      · rw [List.drop_eq_nil_of_le hl] at h; cases h
    rw [List.drop_eq_getElem_cons hlt] at h
    injection h with h1 h2
    simp only [maskL]
    rw [maskL_self dead all r (i + 1) h2]
    split
    · rw [h1]; simp [hlt]
    · rfl

def conjFl : List (Nat × Fact) → Loc → Heap → Prop → Prop
  | [], _, _, X => X
  | (_, f) :: r, loc, h, X => f.sem loc h ∧ conjFl r loc h X

/-- The facts on memory; those on the function's own variables stand by themselves. -/
def conjMem : List (Nat × Fact) → Heap → Prop → Prop
  | [], _, X => X
  | (_, f) :: r, h, X => match f.lj with
    | some _ => conjMem r h X
    | none => f.sem [] h ∧ conjMem r h X

theorem conjMem_sound {loc : Loc} {h0 : Heap} : ∀ {FL : List (Nat × Fact)} {h : Heap} {X : Prop}, (∀ p ∈ FL, p.2.sem loc h0) → conjMem FL h X → (∀ p ∈ FL, p.2.sem loc h) ∧ X
  | [], _, _, _, H => ⟨fun _ h => (by cases h), H⟩
  | (i, f) :: r, h, X, hF, H => by
    unfold conjMem at H
    split at H
    · rename_i x hx
      obtain ⟨h3, h4⟩ := conjMem_sound (fun p hp => hF p (List.mem_cons_of_mem _ hp)) H
      refine ⟨fun p hp => ?_, h4⟩
      cases hp with
      | head =>
        have := hF (i, f) List.mem_cons_self
        unfold Fact.sem at this ⊢
        simp only [hx] at this ⊢
        exact this
      | tail _ hm => exact h3 p hm
    · rename_i hx
      obtain ⟨h1, h2⟩ := H
      obtain ⟨h3, h4⟩ := conjMem_sound (fun p hp => hF p (List.mem_cons_of_mem _ hp)) h2
      refine ⟨fun p hp => ?_, h4⟩
      cases hp with
      | head =>
        unfold Fact.sem at h1 ⊢
        simp only [hx] at h1 ⊢
        exact h1
      | tail _ hm => exact h3 p hm

def keepF (ops : Array Oper) (FL : List (Nat × Fact)) (i : Nat) : List (Nat × Fact) :=
  FL.filter fun p => !(preds ops i).contains p.1

def semFl (FL : List (Nat × Fact)) : List (Nat × (Loc → Heap → Prop)) := FL.map fun p => (p.1, p.2.sem)

theorem keepFl_sem (ops : Array Oper) (FL : List (Nat × Fact)) (i : Nat) : keepFl ops (semFl FL) i = semFl (keepF ops FL i) := by
  unfold keepFl semFl keepF
  rw [List.filter_map]
  rfl

def addF (i : Nat) (f : Option Fact) (FL : List (Nat × Fact)) : List (Nat × Fact) :=
  match f with
  | none => FL
  | some x => (i, x) :: FL

def allFree (ops : Array Oper) (rem : List Nat) (i : Nat) : Bool :=
  rem.all fun j => j == i || (preds ops j).contains i || free ops i j

/-- No fact on the function's own variable j. -/
def noLoc (FL : List (Nat × Fact)) (j : Nat) : Bool :=
  FL.all fun p => match p.2.lj with
    | some (i, _) => i != j
    | none => true

def putT (tags : Tags) (d : Option Tmp) (t : Option (Nat × Nat)) : Tags :=
  match d with
  | some d => tags.set d t
  | none => tags

theorem TagOk.put {tags : Tags} {tmps : List Value} {loc loc' : Loc} (h : TagOk tags tmps loc) (hl : ∀ (j b : Nat) (T : TypeId) (cs : List Value), loc[j]? = some (b, T, cs) → ∃ cs', loc'[j]? = some (b, T, cs'))
    (d : Option Tmp) (v : Value) (t : Option (Nat × Nat)) (hlen : tags.length = tmps.length)
    (ht : ∀ j off, t = some (j, off) → ∃ b T cs, loc'[j]? = some (b, T, cs) ∧ v = .pointer (some ⟨b, off, none⟩)) : TagOk (putT tags d t) (Go.Eng.put tmps d v) loc' := by
  intro s j off hs
  have old : tags.getD s none = some (j, off) → ∃ b T cs, loc'[j]? = some (b, T, cs) ∧ tmps.getD s undef = .pointer (some ⟨b, off, none⟩) := by
    intro h1
    obtain ⟨b, T, cs, h2, h3⟩ := h s j off h1
    obtain ⟨cs', h4⟩ := hl j b T cs h2
    exact ⟨b, T, cs', h4, h3⟩
  cases d with
  | none => exact old hs
  | some d =>
    simp only [putT, Go.Eng.put, List.getD_eq_getElem?_getD, List.getElem?_set] at hs ⊢
    by_cases hd : d = s
    · subst hd
      by_cases hlt : d < tags.length
      · simp only [hlt, if_true, if_pos, Option.getD_some] at hs
        obtain ⟨b, T, cs, h2, h3⟩ := ht j off hs
        refine ⟨b, T, cs, h2, ?_⟩
        have : d < tmps.length := hlen ▸ hlt
        simp [this, h3]
      · simp [hlt] at hs
    · simp only [hd, if_false] at hs ⊢
      have := old (by rw [List.getD_eq_getElem?_getD]; exact hs)
      rwa [List.getD_eq_getElem?_getD] at this

theorem TagOk.put0 {tags : Tags} {tmps : List Value} {loc : Loc} (h : TagOk tags tmps loc) (d : Option Tmp) (v : Value) (hlen : tags.length = tmps.length) :
    TagOk (putT tags d none) (Go.Eng.put tmps d v) loc :=
  h.put (fun j b T cs hj => ⟨cs, hj⟩) d v none hlen (fun _ _ h => by cases h)

theorem alVC.mono {P : Program} {o : Oper} {ρ : Operand → Value} {loc : Loc} {K K' : Value → Loc → Prop} (h : alVC P o ρ loc K)
    (hk : ∀ (b : Nat) (T : TypeId) (cs : List Value), K (.pointer (some ⟨b, 0, none⟩)) (loc ++ [(b, T, cs)]) → K' (.pointer (some ⟨b, 0, none⟩)) (loc ++ [(b, T, cs)])) : alVC P o ρ loc K' := by
  unfold alVC at *
  split at h
  · split at h
    · split at h
      · exact fun b => hk _ _ _ (h b)
      · exact h.elim
    · exact h.elim
  · exact fun b => hk _ _ _ (h b)
  · exact h.elim

theorem TagOk.al {tags : Tags} {tmps : List Value} {loc : Loc} (h : TagOk tags tmps loc) (hlen : tags.length = tmps.length) (d : Option Tmp) (b : Nat) (T : TypeId) (cs : List Value) :
    TagOk (putT tags d (some (loc.length, 0))) (Go.Eng.put tmps d (.pointer (some ⟨b, 0, none⟩))) (loc ++ [(b, T, cs)]) := by
  refine h.put (fun j b' T' cs' hj => ⟨cs', ?_⟩) d _ _ hlen fun j off he => ?_
  · rw [List.getElem?_append_left (List.getElem?_eq_some_iff.1 hj).1]; exact hj
  · simp at he
    obtain ⟨rfl, rfl⟩ := he
    exact ⟨b, T, cs, by simp, rfl⟩

theorem putT_length (tags : Tags) (d : Option Tmp) (t : Option (Nat × Nat)) : (putT tags d t).length = tags.length := by
  cases d <;> simp [putT]

theorem put_length (tmps : List Value) (d : Option Tmp) (v : Value) : (put tmps d v).length = tmps.length := by
  cases d <;> simp [put]

/-- Some of the function's own variables, each once. -/
def selL (sel : List Nat) (loc : Loc) : Option Loc :=
  match decide (sel.Nodup) with
  | true => sel.mapM fun j => loc[j]?
  | false => none

theorem selL_mem {loc : Loc} : ∀ {sel : List Nat} {l : Loc}, sel.mapM (fun j => loc[j]?) = some l → l.length = sel.length ∧ ∀ (i : Nat) (p : Nat × TypeId × List Value), l[i]? = some p → ∃ j, sel[i]? = some j ∧ loc[j]? = some p
  | [], l, h => by simp at h; subst h; simp
  | j :: sel, l, h => by
    simp only [List.mapM_cons] at h
    cases hj : loc[j]? with
    | none => simp [hj] at h
    | some p =>
      cases hr : sel.mapM (fun j => loc[j]?) with
      | none => simp [hj, hr] at h
      | some l' =>
        simp [hj, hr] at h
        subst h
        obtain ⟨h1, h2⟩ := selL_mem hr
        refine ⟨by simp [h1], fun i q hq => ?_⟩
        cases i with
        | zero => simp at hq; subst hq; exact ⟨j, by simp, hj⟩
        | succ i => exact h2 i q (by simpa using hq)

/-- The frame behind a stop: dead slots are whatever, pointers to own variables are renumbered. -/
def maskT (dead : List Nat) (d : Nat → Value) (sel : List Nat) (B : Nat → Nat) : Nat → List Value → Tags → List Value
  | i, v :: r, t :: ts => (match dead.contains i with
      | true => d i
      | false => match t with
        | none => v
        | some (j, off) => match sel.idxOf? j with
          | some n => .pointer (some ⟨B n, off, none⟩)
          | none => v) :: maskT dead d sel B (i + 1) r ts
  | _, _, _ => []

def renum (B : Nat → Nat) : Nat → Loc → Loc
  | _, [] => []
  | i, (_, T, cs) :: r => (B i, T, cs) :: renum B (i + 1) r

theorem renum_self (all : Loc) : ∀ (r : Loc) (i : Nat), r = all.drop i → renum (fun i => (all[i]?.map (·.1)).getD 0) i r = r
  | [], _, _ => rfl
  | (b, T, cs) :: r, i, h => by
    have hlt : i < all.length := by
      rcases Nat.lt_or_ge i all.length with hl | hl
      · exact hl
      · rw [List.drop_eq_nil_of_le hl] at h; cases h
    rw [List.drop_eq_getElem_cons hlt] at h
    injection h with h1 h2
    simp only [renum]
    rw [renum_self all r (i + 1) h2]
    simp [hlt, ← h1]

theorem maskT_self {dead sel : List Nat} {loc l : Loc} {all : List Value} {alt : Tags} (hs : selL sel loc = some l) (ht : TagOk alt all loc) : ∀ (r : List Value) (ts : Tags) (i : Nat),
    r = all.drop i → ts = alt.drop i → ts.length = r.length → maskT dead (fun j => all.getD j undef) sel (fun i => (l[i]?.map (·.1)).getD 0) i r ts = r
  | [], ts, _, _, _, hl => by
    cases ts with
    | nil => rfl
    | cons _ _ => simp at hl
  | v :: r, [], i, _, _, hl => by simp at hl
  | v :: r, t :: ts, i, h, h', hl => by
    have hlt : i < all.length := by
      rcases Nat.lt_or_ge i all.length with hl | hl
      · exact hl
      · rw [List.drop_eq_nil_of_le hl] at h; cases h
    have hlt' : i < alt.length := by
      rcases Nat.lt_or_ge i alt.length with hl | hl
      · exact hl
      · rw [List.drop_eq_nil_of_le hl] at h'; cases h'
    rw [List.drop_eq_getElem_cons hlt] at h
    rw [List.drop_eq_getElem_cons hlt'] at h'
    injection h with h1 h2
    injection h' with h3 h4
    simp only [maskT]
    rw [maskT_self hs ht r ts (i + 1) h2 h4 (by simpa using hl)]
    congr 1
    split
    · rw [h1]; simp [hlt]
    · split
      · rfl
      · rename_i j off
        split
        · rename_i n hn
          obtain ⟨b, T, cs, hj, hp⟩ := ht i j off (by simp [hlt', ← h3])
          unfold selL at hs
          split at hs
          · obtain ⟨hlen, hm⟩ := selL_mem hs
            rw [List.idxOf?_eq_some_iff] at hn
            obtain ⟨hn1, hn2, _⟩ : ∃ h : n < sel.length, sel[n] = j ∧ ∀ (j1 : Nat) (x : j1 < n), ¬ sel[j1] = j := by simpa using hn
            have hnl : n < l.length := by omega
            obtain ⟨j', g1, g2⟩ := hm n l[n] (by simp [hnl])
            have hjj : j' = j := by
              have : sel[n]? = some j := by simp [hn1, hn2]
              rw [this] at g1
              exact (Option.some.inj g1).symm
            subst hjj
            rw [hj] at g2
            have g3 : l[n] = (b, T, cs) := (Option.some.inj g2).symm
            have hv : v = .pointer (some ⟨b, off, none⟩) := by
              rw [← hp, h1]
              simp [hlt]
            rw [hv]
            simp [hnl, g3]
          · cases hs
        · rfl

theorem RT.sel {P : Program} {fn : FuncId} {todo : List Item} {tmps : List Value} {loc l : Loc} {H : Heap} {R : Value → Heap → Prop} {sel : List Nat} (h : RT P fn todo tmps l H R)
    (hs : selL sel loc = some l) : RT P fn todo tmps loc H R := by
  unfold selL at hs
  split at hs
  · rename_i hnd
    have hnd' : sel.Nodup := by simpa using hnd
    obtain ⟨h1, h2⟩ := selL_mem hs
    have hmem : ∀ p ∈ l, p ∈ loc := by
      intro p hp
      obtain ⟨i, hi⟩ := List.mem_iff_getElem?.1 hp
      obtain ⟨j, _, hj⟩ := h2 i p hi
      exact List.mem_of_getElem? hj
    intro w hsat hloc cs
    have hl : LocOk H w.heap l := by
      refine ⟨?_, fun p hp => hloc.2 p (hmem p hp)⟩
      unfold List.Nodup
      rw [List.pairwise_iff_getElem]
      intro i j hi hj hij he
      simp only [List.length_map] at hi hj
      obtain ⟨j1, s1, l1⟩ := h2 i l[i] (by simp [hi])
      obtain ⟨j2, s2, l2⟩ := h2 j l[j] (by simp [hj])
      have hne : j1 ≠ j2 := by
        intro hc; subst hc
        obtain ⟨a1, a2⟩ := List.getElem?_eq_some_iff.1 s1
        obtain ⟨b1, b2⟩ := List.getElem?_eq_some_iff.1 s2
        exact List.pairwise_iff_getElem.1 hnd' i j a1 b1 hij (a2.trans b2.symm)
      have e1 : (loc.map (·.1))[j1]? = some l[i].1 := by simp [List.getElem?_map, l1]
      have e2 : (loc.map (·.1))[j2]? = some l[j].1 := by simp [List.getElem?_map, l2]
      have he' : l[i].1 = l[j].1 := by simpa using he
      obtain ⟨a1, a2⟩ := List.getElem?_eq_some_iff.1 e1
      obtain ⟨b1, b2⟩ := List.getElem?_eq_some_iff.1 e2
      have hp := List.pairwise_iff_getElem.1 hloc.1
      rcases Nat.lt_trichotomy j1 j2 with hh | hh | hh
      · exact hp j1 j2 a1 b1 hh (by rw [a2, b2]; exact he')
      · exact hne hh
      · exact hp j2 j1 b1 a1 hh (by rw [a2, b2]; exact he'.symm)
    obtain ⟨v, w', fr, H', s, sa, f, r⟩ := h w hsat hl cs
    refine ⟨v, w', fr, H', s, sa, ⟨f.1, fun b hb hn hnl => f.2.1 b hb hn fun hc => hnl ?_, f.2.2⟩, r⟩
    obtain ⟨p, hp, rfl⟩ := List.mem_map.1 hc
    exact List.mem_map.2 ⟨p, hmem p hp, rfl⟩
  · cases hs

/-- The run of a plan. -/
def exec (P : Program) (fn : FuncId) (F : Func) (R : Value → Heap → Prop) :
    Nat → List (Nat × List Nat) → Option (Array Oper × List Nat × List (Nat × Fact) × List Nat) → List Item → List Value → Tags → Loc → Heap → Prop
  | 0, _, _, _, _, _, _, _ => False
  | _ + 1, [], _, _, _, _, _, _ => False
  | n + 1, (c, a) :: pl, none, todo, tmps, tags, loc, h =>
    match c with
    | 0 => match a with
      | m :: r => match selL (r.take m) loc with
        | some l => ∀ (d : Nat → Value) (B : Nat → Nat), RT P fn todo (maskT (r.drop m) d (r.take m) B 0 tmps tags) (renum B 0 l) h R
        | none => False
      | [] => False
    | 1 => match ctl todo with
      | some t => exec P fn F R n pl none t tmps tags loc h
      | none => False
    | 2 => match todo with
      | .code (.cond x A B) :: k => match ev tmps x with
        | .bool b => (b = true → exec P fn F R n (pl.take (a.headD 0)) none (.code A :: k) tmps tags loc h) ∧ (b = false → exec P fn F R n (pl.drop (a.headD 0)) none (.code B :: k) tmps tags loc h)
        | _ => False
      | _ => False
    | 3 => match todo with
      | .code .ret :: _ => resVC P tmps tags loc h F.results.toList a fun vs => R (packRes vs) h
      | [] => resVC P tmps tags loc h F.results.toList a fun vs => R (packRes vs) h
      | _ => False
    | 4 => match todo with
      | .code (.cond x A B) :: k => match ev tmps x with
        | .bool true => exec P fn F R n pl none (.code A :: k) tmps tags loc h
        | .bool false => exec P fn F R n pl none (.code B :: k) tmps tags loc h
        | _ => False
      | _ => False
    | 5 => match todo with
      | .inRegion ops (i :: rest) :: k => match ops[i]? with
        | some o => match Region.wanted o (yielded ops tmps.toArray) with
          | false => exec P fn F R n pl none (.inRegion ops rest :: k) (put tmps o.dst undef) (putT tags o.dst none) loc h
          | true => False
        | none => False
      | _ => False
    | 6 => match a with
      | [s, m] => match tmps[s]? with
        | some (.bool b) => (b = true → exec P fn F R n (pl.take m) none todo (tmps.set s (.bool true)) tags loc h) ∧ (b = false → exec P fn F R n (pl.drop m) none todo (tmps.set s (.bool false)) tags loc h)
        | _ => False
      | _ => False
    | 7 => match todo with
      | .code (.region _ ops true) :: k => exec P fn F R n pl (some (ops, List.range ops.size, [], [])) k tmps tags loc h
      | _ => False
    | 14 => match todo, a with
      | .inRegion ops (i :: rest) :: k, r :: ks => match ops[i]? with
        | some o => match Region.wanted o (yielded ops tmps.toArray) with
          | true => flVC P r ks o (ev tmps) h fun v _ => exec P fn F R n pl none (.inRegion ops rest :: k) (put tmps o.dst v) (putT tags o.dst none) loc h
          | false => False
        | none => False
      | _, _ => False
    | 15 => match todo, a with
      | .inRegion ops (i :: rest) :: k, r :: ks => match ops[i]? with
        | some o => match Region.wanted o (yielded ops tmps.toArray) with
          | true => effVC P r ks o (ev tmps) h fun v h' => exec P fn F R n pl none (.inRegion ops rest :: k) (put tmps o.dst v) (putT tags o.dst none) loc h'
          | false => False
        | none => False
      | _, _ => False
    | 17 => match todo, a with
      | .inRegion ops (i :: rest) :: k, [m] => match ops[i]? with
        | some o => match Region.wanted o (yielded ops tmps.toArray), o.op with
          | true, .next it s => SemOk P (Instr.next (ev tmps it) s o.type) h fun v h' =>
              (v = .tuple #[.bool false] ∧ exec P fn F R n (pl.take m) none (.inRegion ops rest :: k) (put tmps o.dst (.tuple #[.bool false])) (putT tags o.dst none) loc h') ∨
              (∃ ky, ∃ vl, v = .tuple #[.bool true, ky, vl] ∧ exec P fn F R n (pl.drop m) none (.inRegion ops rest :: k) (put tmps o.dst (.tuple #[.bool true, ky, vl])) (putT tags o.dst none) loc h')
          | _, _ => False
        | none => False
      | _, _ => False
    | 20 => match todo, a with
      | .inRegion ops (i :: rest) :: k, [r] => match ops[i]? with
        | some o => match Region.wanted o (yielded ops tmps.toArray) with
          | true => lfVC P r o tags loc fun v tg _ => exec P fn F R n pl none (.inRegion ops rest :: k) (put tmps o.dst v) (putT tags o.dst tg) loc h
          | false => False
        | none => False
      | _, _ => False
    | 21 => match todo with
      | .inRegion ops (i :: rest) :: k => match ops[i]? with
        | some o => match Region.wanted o (yielded ops tmps.toArray) with
          | true => alVC P o (ev tmps) loc fun v l => exec P fn F R n pl none (.inRegion ops rest :: k) (put tmps o.dst v) (putT tags o.dst (some (loc.length, 0))) l h
          | false => False
        | none => False
      | _ => False
    | 22 => match todo with
      | .inRegion ops (i :: rest) :: k => match ops[i]? with
        | some o => match Region.wanted o (yielded ops tmps.toArray) with
          | true => stVC P a o (ev tmps) tags loc fun _ l => exec P fn F R n pl none (.inRegion ops rest :: k) (put tmps o.dst undef) (putT tags o.dst none) l h
          | false => False
        | none => False
      | _ => False
    | _ => False
  | n + 1, (c, a) :: pl, some (ops, rem, FL, done), k, tmps, tags, loc, h =>
    match c with
    | 6 => match a with
      | [s, m] => match tmps[s]? with
        | some (.bool b) => (b = true → exec P fn F R n (pl.take m) (some (ops, rem, FL, done)) k (tmps.set s (.bool true)) tags loc h) ∧ (b = false → exec P fn F R n (pl.drop m) (some (ops, rem, FL, done)) k (tmps.set s (.bool false)) tags loc h)
        | _ => False
      | _ => False
    | 8 => match a, done with
      | i :: r :: ks, [] => match ops[i]?, rem.contains i && rdy ops rem i && allFree ops rem i with
        | some o, true => match Region.wanted o (yielded ops tmps.toArray) with
          | true => flVC P r ks o (ev tmps) h fun v f => exec P fn F R n pl (some (ops, rem.erase i, addF i f FL, [])) k (put tmps o.dst v) (putT tags o.dst none) loc h
          | false => False
        | _, _ => False
      | _, _ => False
    | 20 => match a, done with
      | [i, r], [] => match ops[i]?, rem.contains i && rdy ops rem i && allFree ops rem i with
        | some o, true => match Region.wanted o (yielded ops tmps.toArray) with
          | true => lfVC P r o tags loc fun v tg f => exec P fn F R n pl (some (ops, rem.erase i, addF i f FL, [])) k (put tmps o.dst v) (putT tags o.dst tg) loc h
          | false => False
        | _, _ => False
      | _, _ => False
    | 12 => match a, done with
      | [i], [] => match ops[i]?, rem.contains i && rdy ops rem i && allFree ops rem i with
        | some o, true => match Region.wanted o (yielded ops tmps.toArray) with
          | false => exec P fn F R n pl (some (ops, rem.erase i, FL, [])) k (put tmps o.dst undef) (putT tags o.dst none) loc h
          | true => False
        | _, _ => False
      | _, _ => False
    | 10 => match a with
      | i :: m :: r :: ks => match ops[i]?, rem.contains i && rdy ops rem i with
        | some o, true => match Region.wanted o (yielded ops tmps.toArray) with
          | true => effVC P r ks o (ev tmps) h (fun v h' => match decide (r = 20) with
              | true => exec P fn F R n (pl.take m) (some (ops, rem.erase i, keepF ops FL i, [])) k (put tmps o.dst v) (putT tags o.dst none) loc h'
              | false => conjMem (keepF ops FL i) h' (exec P fn F R n (pl.take m) (some (ops, rem.erase i, keepF ops FL i, [])) k (put tmps o.dst v) (putT tags o.dst none) loc h'))
              ∧ exec P fn F R n (pl.drop m) (some (ops, rem, FL, i :: done)) k tmps tags loc h
          | false => False
        | _, _ => False
      | _ => False
    | 9 => match a with
      | i :: r :: ks => match ops[i]?, rem.contains i && rdy ops rem i && rem.all (fun j => j == i || done.contains j || !rdy ops rem j) with
        | some o, true => match Region.wanted o (yielded ops tmps.toArray) with
          | true => effVC P r ks o (ev tmps) h (fun v h' => match decide (r = 20) with
              | true => exec P fn F R n pl (some (ops, rem.erase i, keepF ops FL i, [])) k (put tmps o.dst v) (putT tags o.dst none) loc h'
              | false => conjMem (keepF ops FL i) h' (exec P fn F R n pl (some (ops, rem.erase i, keepF ops FL i, [])) k (put tmps o.dst v) (putT tags o.dst none) loc h'))
          | false => False
        | _, _ => False
      | _ => False
    | 21 => match a with
      | [i] => match ops[i]?, rem.contains i && rdy ops rem i && rem.all (fun j => j == i || done.contains j || !rdy ops rem j) with
        | some o, true => match Region.wanted o (yielded ops tmps.toArray) with
          | true => alVC P o (ev tmps) loc fun v l => exec P fn F R n pl (some (ops, rem.erase i, keepF ops FL i, [])) k (put tmps o.dst v) (putT tags o.dst (some (loc.length, 0))) l h
          | false => False
        | _, _ => False
      | _ => False
    | 23 => match a with
      | [i, m] => match ops[i]?, rem.contains i && rdy ops rem i with
        | some o, true => match Region.wanted o (yielded ops tmps.toArray) with
          | true => alVC P o (ev tmps) loc (fun v l => exec P fn F R n (pl.take m) (some (ops, rem.erase i, keepF ops FL i, [])) k (put tmps o.dst v) (putT tags o.dst (some (loc.length, 0))) l h)
              ∧ exec P fn F R n (pl.drop m) (some (ops, rem, FL, i :: done)) k tmps tags loc h
          | false => False
        | _, _ => False
      | _ => False
    | 22 => match a with
      | i :: ks => match ops[i]?, rem.contains i && rdy ops rem i && rem.all (fun j => j == i || done.contains j || !rdy ops rem j) with
        | some o, true => match Region.wanted o (yielded ops tmps.toArray) with
          | true => stVC P ks o (ev tmps) tags loc fun j l => match noLoc (keepF ops FL i) j with
              | true => exec P fn F R n pl (some (ops, rem.erase i, keepF ops FL i, [])) k (put tmps o.dst undef) (putT tags o.dst none) l h
              | false => False
          | false => False
        | _, _ => False
      | _ => False
    | 13 => match rem with
      | [] => exec P fn F R n pl none k tmps tags loc h
      | _ => False
    | _ => False

/-- What a plan in the middle of a drawn region stands for. -/
def AOd (P : Program) (fn : FuncId) (ops : Array Oper) (k : List Item) (R : Value → Heap → Prop) (done rem : List Nat) (FL : List (Nat × (Loc → Heap → Prop)))
    (tmps : List Value) (loc : Loc) (h : Heap) : Prop :=
  match rem.length with
  | 0 => RT P fn k tmps loc h R
  | n + 1 => (done = [] → (∀ i ∈ rem, rdy ops rem i = false) → RT P fn k tmps loc h R) ∧
    ∀ i ∈ rem, rdy ops rem i = true → i ∉ done → OpRun P ops i tmps loc h fun t' l' h' =>
      (∀ p ∈ keepFl ops FL i, p.2 l' h') ∧ AOF P fn ops k R n (rem.erase i) (keepFl ops FL i) t' l' h'

section
variable {P : Program} {fn : FuncId} {ops : Array Oper} {k : List Item} {R : Value → Heap → Prop}

theorem AOd_nil {rem : List Nat} {FL : List (Nat × (Loc → Heap → Prop))} {tmps : List Value} {loc : Loc} {h : Heap} (H : AOd P fn ops k R [] rem FL tmps loc h) :
    AOF P fn ops k R rem.length rem FL tmps loc h := by
  unfold AOd at H
  cases hl : rem.length with
  | zero => simp only [hl] at H; simpa [AOF] using H
  | succ n =>
    simp only [hl] at H
    exact ⟨H.1 trivial, fun i hi hr => H.2 i hi hr (by simp)⟩

theorem AOd_of_AOF {done rem : List Nat} {FL : List (Nat × (Loc → Heap → Prop))} {tmps : List Value} {loc : Loc} {h : Heap} (H : AOF P fn ops k R rem.length rem FL tmps loc h) :
    AOd P fn ops k R done rem FL tmps loc h := by
  unfold AOd
  cases hl : rem.length with
  | zero => rw [hl] at H; simpa [AOF] using H
  | succ n => rw [hl] at H; exact ⟨fun _ => H.1, fun i hi hr _ => H.2 i hi hr⟩

theorem set_bool {tmps : List Value} {s : Nat} {b : Bool} (h : tmps[s]? = some (.bool b)) : tmps.set s (.bool b) = tmps := by
  apply List.ext_getElem?
  intro i
  rw [List.getElem?_set]
  split
  · rename_i hi
    subst hi
    obtain ⟨h1, h2⟩ := List.getElem?_eq_some_iff.1 h
    simp [h1, h2]
  · rfl

theorem eff20 {ks : List Nat} {o : Oper} {ρ : Operand → Value} {loc : Loc} {h : Heap} {K : Value → Heap → Prop}
    (H : effVC P 20 ks o ρ h K) : effVC P 20 ks o ρ h fun v h' => (∀ f : Fact, f.sem loc h → f.sem loc h') ∧ K v h' := by
  simp only [effVC] at *
  split at H
  · rename_i obj k hk
    intro b h' ha
    have := H b h' ha
    split at this
    · exact ⟨fun f hf => Fact.al hf ha, this⟩
    · exact this.elim
  · exact H.elim

/-- What is to be shown behind an operation of a drawn region. -/
def Next (P : Program) (fn : FuncId) (ops : Array Oper) (k : List Item) (R : Value → Heap → Prop) (rem : List Nat) (FL : List (Nat × Fact)) (i m : Nat) : List Value → Loc → Heap → Prop :=
  fun t' l' h' => (∀ p ∈ keepFl ops (semFl FL) i, p.2 l' h') ∧ AOF P fn ops k R m (rem.erase i) (keepFl ops (semFl FL) i) t' l' h'

theorem Next.mk {rem : List Nat} {FL : List (Nat × Fact)} {i m : Nat} {t' : List Value} {l' : Loc} {h' : Heap} (h1 : ∀ p ∈ keepF ops FL i, p.2.sem l' h')
    (h2 : AOF P fn ops k R m (rem.erase i) (semFl (keepF ops FL i)) t' l' h') : Next P fn ops k R rem FL i m t' l' h' := by
  unfold Next
  rw [keepFl_sem]
  refine ⟨fun p hp => ?_, h2⟩
  obtain ⟨q, hq, rfl⟩ := List.mem_map.1 hp
  exact h1 q hq

/-- The operation that acts, in a drawn region. -/
theorem eff_run {rem : List Nat} {FL : List (Nat × Fact)} {tmps : List Value} {loc : Loc} {h : Heap} {i r m : Nat} {ks : List Nat} {o : Oper} {X : Value → Heap → Prop}
    (hFL : ∀ p ∈ FL, p.2.sem loc h) (ho : ops[i]? = some o) (hw : Region.wanted o (yielded ops tmps.toArray) = true)
    (hX : ∀ v h', X v h' → (∀ p ∈ keepF ops FL i, p.2.sem loc h') → AOF P fn ops k R m (rem.erase i) (semFl (keepF ops FL i)) (put tmps o.dst v) loc h')
    (H : effVC P r ks o (ev tmps) h fun v h' => match decide (r = 20) with
      | true => X v h'
      | false => conjMem (keepF ops FL i) h' (X v h')) :
    OpRun P ops i tmps loc h (Next P fn ops k R rem FL i m) := by
  unfold OpRun
  simp only [ho, hw]
  have hFLk : ∀ p ∈ keepF ops FL i, p.2.sem loc h := fun p hp => hFL p (List.mem_filter.1 hp).1
  refine OpOk.step ?_
  by_cases h20 : r = 20
  · subst h20
    refine (effVC_sound (eff20 (loc := loc) H)).mono fun v h' hk => ?_
    simp only [decide_true] at hk
    have hp : ∀ p ∈ keepF ops FL i, p.2.sem loc h' := fun p hp => hk.1 _ (hFLk p hp)
    exact Next.mk hp (hX v h' hk.2 hp)
  · refine (effVC_sound H).mono fun v h' hk => ?_
    simp only [h20, decide_false] at hk
    obtain ⟨h1, h2⟩ := conjMem_sound hFLk hk
    exact Next.mk h1 (hX v h' h2 h1)

/-- A new variable of the function's own, in a drawn region. -/
theorem al_run {rem : List Nat} {FL : List (Nat × Fact)} {tmps : List Value} {loc : Loc} {h : Heap} {i m : Nat} {o : Oper} {X : Value → Loc → Prop}
    (hFL : ∀ p ∈ FL, p.2.sem loc h) (ho : ops[i]? = some o) (hw : Region.wanted o (yielded ops tmps.toArray) = true)
    (hX : ∀ (b : Nat) (T : TypeId) (cs : List Value), X (.pointer (some ⟨b, 0, none⟩)) (loc ++ [(b, T, cs)]) → (∀ p ∈ keepF ops FL i, p.2.sem (loc ++ [(b, T, cs)]) h) →
      AOF P fn ops k R m (rem.erase i) (semFl (keepF ops FL i)) (put tmps o.dst (.pointer (some ⟨b, 0, none⟩))) (loc ++ [(b, T, cs)]) h)
    (H : alVC P o (ev tmps) loc X) : OpRun P ops i tmps loc h (Next P fn ops k R rem FL i m) := by
  unfold OpRun
  simp only [ho, hw]
  refine alVC_sound (H.mono fun b T cs hx => ?_)
  have hp : ∀ p ∈ keepF ops FL i, p.2.sem (loc ++ [(b, T, cs)]) h := by
    intro p hp
    have h0 := hFL p (List.mem_filter.1 hp).1
    unfold Fact.sem at h0 ⊢
    cases hlj : p.2.lj with
    | none => simp only [hlj] at h0 ⊢; exact h0
    | some x =>
      obtain ⟨i0, q⟩ := x
      simp only [hlj] at h0 ⊢
      rw [List.getElem?_append_left (List.getElem?_eq_some_iff.1 h0).1]; exact h0
  exact Next.mk hp (hX b T cs hx hp)

end

theorem exec_sound {P : Program} {fn : FuncId} {F : Func} {R : Value → Heap → Prop} (hf : P.funcs[fn]? = some F) (hm : P.follows .mixedOrders = true) :
    ∀ (n : Nat) (pl : List (Nat × List Nat)) (md : Option (Array Oper × List Nat × List (Nat × Fact) × List Nat)) (todo : List Item) (tmps : List Value) (tags : Tags) (loc : Loc) (h : Heap),
    exec P fn F R n pl md todo tmps tags loc h → tags.length = tmps.length → TagOk tags tmps loc →
    match md with
    | none => RT P fn todo tmps loc h R
    | some (ops, rem, FL, done) => rem.Nodup → (∀ p ∈ FL, p.2.sem loc h) → AOd P fn ops todo R done rem (semFl FL) tmps loc h := by
  intro n
  induction n with
  | zero => intro pl md todo tmps tags loc h H; exact H.elim
  | succ n ih =>
    intro pl md todo tmps tags loc h H hlen htag
    have len0 : ∀ (d : Option Tmp) (t : Option (Nat × Nat)) (v : Value), (putT tags d t).length = (put tmps d v).length := fun d t v => by rw [putT_length, put_length]; exact hlen
    cases pl with
    | nil => exact H.elim
    | cons ca pl =>
      obtain ⟨c, a⟩ := ca
      cases md with
      | none =>
        simp only [exec] at H
        show RT P fn todo tmps loc h R
        split at H
        · split at H
          · rename_i m r
            split at H
            · rename_i l hl
              have := H (fun j => tmps.getD j undef) (fun i => (l[i]?.map (·.1)).getD 0)
              rw [renum_self l l 0 rfl, maskT_self hl htag tmps tags 0 rfl rfl hlen] at this
              exact this.sel hl
            · exact H.elim
          · exact H.elim
        · split at H
          · rename_i t ht
            exact ctl_sound ht (ih _ _ _ _ _ _ _ H hlen htag)
          · exact H.elim
        · split at H
          · split at H
            · rename_i b hb
              exact cond_sound hb (fun e => ih _ _ _ _ _ _ _ (H.1 e) hlen htag) (fun e => ih _ _ _ _ _ _ _ (H.2 e) hlen htag)
            · exact H.elim
          · exact H.elim
        · split at H
          · obtain ⟨v, hk, hr⟩ := resVC_sound (K := fun v => R v h) htag H
            exact ret_sound hf hr hk
          · obtain ⟨v, hk, hr⟩ := resVC_sound (K := fun v => R v h) htag H
            exact end_sound hf hr hk
          · exact H.elim
        · split at H
          · split at H
            · rename_i hb
              exact cond_sound hb (fun _ => ih _ _ _ _ _ _ _ H hlen htag) (fun e => by cases e)
            · rename_i hb
              exact cond_sound hb (fun e => by cases e) (fun _ => ih _ _ _ _ _ _ _ H hlen htag)
            · exact H.elim
          · exact H.elim
        · split at H
          · split at H
            · rename_i o ho
              split at H
              · rename_i hw
                exact op_skip_sound ho hw (ih _ _ _ _ _ _ _ H (len0 _ _ _) (htag.put0 _ _ hlen))
              · exact H.elim
            · exact H.elim
          · exact H.elim
        · split at H
          · split at H
            · rename_i b hb
              cases b with
              | true => have := ih _ _ _ _ _ _ _ (H.1 rfl) (by simpa using hlen) (by rw [set_bool hb]; exact htag); simp only at this; rwa [set_bool hb] at this
              | false => have := ih _ _ _ _ _ _ _ (H.2 rfl) (by simpa using hlen) (by rw [set_bool hb]; exact htag); simp only at this; rwa [set_bool hb] at this
            · exact H.elim
          · exact H.elim
        · split at H
          · rename_i id ops k
            have := ih _ _ _ _ _ _ _ H hlen htag
            simp only at this
            have h2 := AOd_nil (this List.nodup_range (fun p hp => by cases hp))
            rw [List.length_range] at h2
            exact draw_sound hm h2
          · exact H.elim
        · split at H
          · split at H
            · rename_i o ho
              split at H
              · rename_i hw
                obtain ⟨v, f, hk, hsem, hfl⟩ := flVC_sound H
                exact op_sound ho hw (hfl.step (hsem loc) (ih _ _ _ _ _ _ _ hk (len0 _ _ _) (htag.put0 _ _ hlen)))
              · exact H.elim
            · exact H.elim
          · exact H.elim
        · split at H
          · split at H
            · rename_i o ho
              split at H
              · rename_i hw
                exact op_sound ho hw (OpOk.step ((effVC_sound H).mono fun v h' hk => ih _ _ _ _ _ _ _ hk (len0 _ _ _) (htag.put0 _ _ hlen)))
              · exact H.elim
            · exact H.elim
          · exact H.elim
        · split at H
          · split at H
            · rename_i o ho
              split at H
              · rename_i it s hw hop
                refine op_sound ho hw (OpOk.step fun w hwh => ?_)
                have hx := H w hwh
                have hrun : (execOp (ev tmps) o).run P w = ((Instr.next (ev tmps it) s o.type).run P w).andThen fun v w' => .ok (.value v) w' := by
                  simp [execOp, hop]
                rw [hrun]
                cases hr : (Instr.next (ev tmps it) s o.type).run P w with
                | halt e w' => rw [hr] at hx; exact hx.elim
                | ok v w' =>
                  rw [hr] at hx
                  obtain ⟨H', a1, a2, a3, hx⟩ := hx
                  refine ⟨H', a1, a2, a3, ?_⟩
                  rcases hx with ⟨rfl, hk⟩ | ⟨ky, vl, rfl, hk⟩
                  · exact ih _ _ _ _ _ _ _ hk (len0 _ _ _) (htag.put0 _ _ hlen)
                  · exact ih _ _ _ _ _ _ _ hk (len0 _ _ _) (htag.put0 _ _ hlen)
              · exact H.elim
            · exact H.elim
          · exact H.elim
        · split at H
          · split at H
            · rename_i o ho
              split at H
              · rename_i hw
                obtain ⟨v, tg, f, hk, hsem, hfl, htg⟩ := lfVC_sound htag H
                exact op_sound ho hw (hfl.step (hsem h) (ih _ _ _ _ _ _ _ hk (len0 _ _ _) (htag.put (fun j b T cs hj => ⟨cs, hj⟩) _ _ _ hlen htg)))
              · exact H.elim
            · exact H.elim
          · exact H.elim
        · split at H
          · split at H
            · rename_i o ho
              split at H
              · rename_i hw
                refine op_sound ho hw (alVC_sound (H.mono fun b T cs hk => ?_))
                exact ih _ _ _ _ _ _ _ hk (len0 _ _ _) (htag.al hlen _ _ _ _)
              · exact H.elim
            · exact H.elim
          · exact H.elim
        · split at H
          · split at H
            · rename_i o ho
              split at H
              · rename_i hw
                refine op_sound ho hw (stVC_sound htag H fun j l hk hl _ => ?_)
                exact ih _ _ _ _ _ _ _ hk (len0 _ _ _) (htag.put hl _ _ none hlen (fun _ _ h => by cases h))
              · exact H.elim
            · exact H.elim
          · exact H.elim
        · exact H.elim
      | some st =>
        obtain ⟨ops, rem, FL, done⟩ := st
        simp only [exec] at H
        show rem.Nodup → (∀ p ∈ FL, p.2.sem loc h) → AOd P fn ops todo R done rem (semFl FL) tmps loc h
        intro hnd hFL
        have hsem : ∀ p ∈ semFl FL, p.2 loc h := by
          intro p hp
          obtain ⟨q, hq, rfl⟩ := List.mem_map.1 hp
          exact hFL q hq
        have hfree : ∀ i, allFree ops rem i = true → ∀ j ∈ rem, j ≠ i → i ∉ preds ops j → free ops i j = true := by
          intro i h3 j hj hji hpj
          unfold allFree at h3
          rw [List.all_eq_true] at h3
          have := h3 j hj
          simpa [hji, hpj] using this
        have herase : ∀ i ∈ rem, (rem.erase i).length + 1 = rem.length := by
          intro i hi
          have := List.length_pos_of_mem hi
          rw [List.length_erase_of_mem hi]; omega
        -- behind an operation that was taken first
        have taken : ∀ (i : Nat) (o : Oper) (v : Value) (f : Option Fact), i ∈ rem → rdy ops rem i = true → allFree ops rem i = true → ops[i]? = some o → (∀ l h, f = none → optSem f l h) → optSem f loc h →
            FloatAt P ops i tmps (optSem f) v → ((∀ p ∈ addF i f FL, p.2.sem loc h) → AOd P fn ops todo R [] (rem.erase i) (semFl (addF i f FL)) (put tmps o.dst v) loc h) →
            AOd P fn ops todo R done rem (semFl FL) tmps loc h := by
          intro i o v f hi hr h3 ho hnone hf0 hfl hx
          have hFL' : ∀ p ∈ addF i f FL, p.2.sem loc h := by
            intro p hp
            cases f with
            | none => exact hFL p hp
            | some x =>
              cases hp with
              | head => exact hf0
              | tail _ hm' => exact hFL p hm'
          have hy := AOd_nil (hx hFL')
          refine AOd_of_AOF ?_
          rw [← herase i hi]
          refine AOF.float _ rem (semFl FL) tmps loc h i (optSem f) v hnd (herase i hi).symm hi hr hfl hf0 hsem (hfree i h3) ?_
          have hd : dstOf ops i = o.dst := by simp [dstOf, ho]
          rw [hd]
          cases f with
          | some x => exact hy
          | none => exact AOF.weak _ _ _ (semFl FL) _ _ _ (fun p hp => by cases hp with | head => exact .inr fun l h => hnone l h rfl | tail _ hm' => exact .inl hm') hy
        split at H
        · split at H
          · split at H
            · rename_i b hb
              cases b with
              | true => have := ih _ _ _ _ _ _ _ (H.1 rfl) (by simpa using hlen) (by rw [set_bool hb]; exact htag); simp only at this; rw [set_bool hb] at this; exact this hnd hFL
              | false => have := ih _ _ _ _ _ _ _ (H.2 rfl) (by simpa using hlen) (by rw [set_bool hb]; exact htag); simp only at this; rw [set_bool hb] at this; exact this hnd hFL
            · exact H.elim
          · exact H.elim
        · split at H
          · rename_i i r ks
            split at H
            · rename_i o ho hc
              split at H
              · rename_i hw
                simp only [Bool.and_eq_true] at hc
                obtain ⟨⟨h1, h2⟩, h3⟩ := hc
                have hi : i ∈ rem := by simpa using h1
                obtain ⟨v, f, hk, hsem', hfl⟩ := flVC_sound H
                refine taken i o v f hi h2 h3 ho (fun l h e => by subst e; trivial) (hsem' loc) ?_ fun hF => ?_
                · unfold FloatAt
                  simp only [ho, hw]
                  exact hfl
                · have := ih _ _ _ _ _ _ _ hk (len0 _ _ _) (htag.put0 _ _ hlen)
                  exact this (hnd.erase i) hF
              · exact H.elim
            · exact H.elim
          · exact H.elim
        · split at H
          · rename_i i r
            split at H
            · rename_i o ho hc
              split at H
              · rename_i hw
                simp only [Bool.and_eq_true] at hc
                obtain ⟨⟨h1, h2⟩, h3⟩ := hc
                have hi : i ∈ rem := by simpa using h1
                obtain ⟨v, tg, f, hk, hsem', hfl, htg⟩ := lfVC_sound htag H
                refine taken i o v f hi h2 h3 ho (fun l h e => by subst e; trivial) (hsem' h) ?_ fun hF => ?_
                · unfold FloatAt
                  simp only [ho, hw]
                  exact hfl
                · have := ih _ _ _ _ _ _ _ hk (len0 _ _ _) (htag.put (fun j b T cs hj => ⟨cs, hj⟩) _ _ _ hlen htg)
                  exact this (hnd.erase i) hF
              · exact H.elim
            · exact H.elim
          · exact H.elim
        · split at H
          · rename_i i
            split at H
            · rename_i o ho hc
              split at H
              · rename_i hw
                simp only [Bool.and_eq_true] at hc
                obtain ⟨⟨h1, h2⟩, h3⟩ := hc
                have hi : i ∈ rem := by simpa using h1
                refine taken i o undef none hi h2 h3 ho (fun l h e => trivial) trivial ?_ fun hF => ?_
                · unfold FloatAt
                  simp only [ho, hw]
                · have := ih _ _ _ _ _ _ _ H (len0 _ _ _) (htag.put0 _ _ hlen)
                  exact this (hnd.erase i) hF
              · exact H.elim
            · exact H.elim
          · exact H.elim
        · split at H
          · rename_i i m r ks
            split at H
            · rename_i o ho hc
              split at H
              · rename_i hw
                simp only [Bool.and_eq_true] at hc
                have hi : i ∈ rem := by simpa using hc.1
                have hl1 : rem.length = (rem.length - 1) + 1 := by have := herase i hi; omega
                have h2 := ih _ _ _ _ _ _ _ H.2 hlen htag
                simp only at h2
                have h2' := h2 hnd hFL
                unfold AOd at h2' ⊢
                rw [hl1] at h2' ⊢
                refine ⟨fun _ hno => by have := hno i hi; simp [hc.2] at this, fun j hj hrj hdj => ?_⟩
                by_cases hji : j = i
                · subst hji
                  refine eff_run (X := fun v h' => exec P fn F R n (pl.take m) (some (ops, rem.erase j, keepF ops FL j, [])) todo (put tmps o.dst v) (putT tags o.dst none) loc h') hFL ho hw (fun v h' hx hp => ?_) H.1
                  have h3 := ih _ _ _ _ _ _ _ hx (len0 _ _ _) (htag.put0 _ _ hlen)
                  simp only at h3
                  have h4 := AOd_nil (h3 (hnd.erase j) hp)
                  rwa [List.length_erase_of_mem hj] at h4
                · exact h2'.2 j hj hrj (by simp [hji, hdj])
              · exact H.elim
            · exact H.elim
          · exact H.elim
        · split at H
          · rename_i i r ks
            split at H
            · rename_i o ho hc
              split at H
              · rename_i hw
                simp only [Bool.and_eq_true] at hc
                obtain ⟨⟨h1, h2⟩, h3⟩ := hc
                have hi : i ∈ rem := by simpa using h1
                have hl1 : rem.length = (rem.length - 1) + 1 := by have := herase i hi; omega
                unfold AOd
                rw [hl1]
                refine ⟨fun _ hno => by have := hno i hi; simp [h2] at this, fun j hj hrj hdj => ?_⟩
                rw [List.all_eq_true] at h3
                have hji : j = i := by
                  have := h3 j hj
                  simpa [hrj, hdj] using this
                subst hji
                refine eff_run (X := fun v h' => exec P fn F R n pl (some (ops, rem.erase j, keepF ops FL j, [])) todo (put tmps o.dst v) (putT tags o.dst none) loc h') hFL ho hw (fun v h' hx hp => ?_) H
                have h4 := ih _ _ _ _ _ _ _ hx (len0 _ _ _) (htag.put0 _ _ hlen)
                simp only at h4
                have h5 := AOd_nil (h4 (hnd.erase j) hp)
                rwa [List.length_erase_of_mem hj] at h5
              · exact H.elim
            · exact H.elim
          · exact H.elim
        · split at H
          · rename_i i
            split at H
            · rename_i o ho hc
              split at H
              · rename_i hw
                simp only [Bool.and_eq_true] at hc
                obtain ⟨⟨h1, h2⟩, h3⟩ := hc
                have hi : i ∈ rem := by simpa using h1
                have hl1 : rem.length = (rem.length - 1) + 1 := by have := herase i hi; omega
                unfold AOd
                rw [hl1]
                refine ⟨fun _ hno => by have := hno i hi; simp [h2] at this, fun j hj hrj hdj => ?_⟩
                rw [List.all_eq_true] at h3
                have hji : j = i := by
                  have := h3 j hj
                  simpa [hrj, hdj] using this
                subst hji
                exact al_run hFL ho hw (fun b T cs hx hp => by
                  have h4 := ih _ _ _ _ _ _ _ hx (len0 _ _ _) (htag.al hlen _ _ _ _)
                  simp only at h4
                  have h5 := AOd_nil (h4 (hnd.erase j) hp)
                  rwa [List.length_erase_of_mem hj] at h5) H
              · exact H.elim
            · exact H.elim
          · exact H.elim
        · split at H
          · rename_i i m
            split at H
            · rename_i o ho hc
              split at H
              · rename_i hw
                simp only [Bool.and_eq_true] at hc
                have hi : i ∈ rem := by simpa using hc.1
                have hl1 : rem.length = (rem.length - 1) + 1 := by have := herase i hi; omega
                have h2 := ih _ _ _ _ _ _ _ H.2 hlen htag
                simp only at h2
                have h2' := h2 hnd hFL
                unfold AOd at h2' ⊢
                rw [hl1] at h2' ⊢
                refine ⟨fun _ hno => by have := hno i hi; simp [hc.2] at this, fun j hj hrj hdj => ?_⟩
                by_cases hji : j = i
                · subst hji
                  exact al_run hFL ho hw (fun b T cs hx hp => by
                    have h4 := ih _ _ _ _ _ _ _ hx (len0 _ _ _) (htag.al hlen _ _ _ _)
                    simp only at h4
                    have h5 := AOd_nil (h4 (hnd.erase j) hp)
                    rwa [List.length_erase_of_mem hj] at h5) H.1
                · exact h2'.2 j hj hrj (by simp [hji, hdj])
              · exact H.elim
            · exact H.elim
          · exact H.elim
        · split at H
          · rename_i i ks
            split at H
            · rename_i o ho hc
              split at H
              · rename_i hw
                simp only [Bool.and_eq_true] at hc
                obtain ⟨⟨h1, h2⟩, h3⟩ := hc
                have hi : i ∈ rem := by simpa using h1
                have hl1 : rem.length = (rem.length - 1) + 1 := by have := herase i hi; omega
                unfold AOd
                rw [hl1]
                refine ⟨fun _ hno => by have := hno i hi; simp [h2] at this, fun j hj hrj hdj => ?_⟩
                rw [List.all_eq_true] at h3
                have hji : j = i := by
                  have := h3 j hj
                  simpa [hrj, hdj] using this
                subst hji
                unfold OpRun
                simp only [ho, hw]
                refine stVC_sound htag H fun jj l hk hl hne => ?_
                split at hk
                · rename_i hno
                  have hp : ∀ p ∈ keepF ops FL j, p.2.sem l h := by
                    intro p hp
                    have h0 := hFL p (List.mem_filter.1 hp).1
                    unfold noLoc at hno
                    rw [List.all_eq_true] at hno
                    have h9 := hno p hp
                    unfold Fact.sem at h0 ⊢
                    cases hlj : p.2.lj with
                    | none => simp only [hlj] at h0 ⊢; exact h0
                    | some x =>
                      obtain ⟨i0, q⟩ := x
                      simp only [hlj] at h0 h9 ⊢
                      rw [hne i0 (by simpa using h9)]
                      exact h0
                  have h4 := ih _ _ _ _ _ _ _ hk (len0 _ _ _) (htag.put hl _ _ none hlen (fun _ _ h => by cases h))
                  simp only at h4
                  have h5 := AOd_nil (h4 (hnd.erase j) hp)
                  rw [List.length_erase_of_mem hj] at h5
                  exact Next.mk hp h5
                · exact hk.elim
              · exact H.elim
            · exact H.elim
          · exact H.elim
        · split at H
          · have := ih _ _ _ _ _ _ _ H hlen htag
            exact this
          · exact H.elim
        · exact H.elim

end Go.Eng
