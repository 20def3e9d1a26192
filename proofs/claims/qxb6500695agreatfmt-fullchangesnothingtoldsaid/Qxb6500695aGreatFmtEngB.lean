/-
  THE ENGINE, PART B: a region that draws its order: every order, and the operations that may be taken first.
-/
import Derived.Test.Qxb6500695aGreatFmtEngA
namespace Go.Eng
open Go

def preds (ops : Array Oper) (i : Nat) : List Nat :=
  match ops[i]? with
  | some o => (o.after.toList.filter (Region.binds .any)).map (·.on)
  | none => []

def rdy (ops : Array Oper) (rem : List Nat) (i : Nat) : Bool :=
  (ops[i]?).isSome && (preds ops i).all fun j => decide (j < ops.size) && !rem.contains j

def keepFl (ops : Array Oper) (FL : List (Nat × (Loc → Heap → Prop))) (i : Nat) : List (Nat × (Loc → Heap → Prop)) :=
  FL.filter fun p => !(preds ops i).contains p.1

def OpRun (P : Program) (ops : Array Oper) (i : Nat) (tmps : List Value) (loc : Loc) (H : Heap) (K : List Value → Loc → Heap → Prop) : Prop :=
  match ops[i]? with
  | none => False
  | some o =>
    match Region.wanted o (yielded ops tmps.toArray) with
    | true => StepOk P o (ev tmps) loc H fun v l H' => K (put tmps o.dst v) l H'
    | false => K (put tmps o.dst undef) loc H

theorem OpRun.mono {P : Program} {ops : Array Oper} {i : Nat} {tmps : List Value} {loc : Loc} {H : Heap} {K K' : List Value → Loc → Heap → Prop}
    (h : OpRun P ops i tmps loc H K) (hk : ∀ t l H', K t l H' → K' t l H') : OpRun P ops i tmps loc H K' := by
  unfold OpRun at *
  split at h
  · exact h.elim
  · rename_i o ho
    split at h
    · exact h.mono fun v l H' => hk _ _ _
    · exact hk _ _ _ h

/-- Every order of what is left; the facts of FL hold behind each operation that is not bound behind the one that read them. -/
def AOF (P : Program) (fn : FuncId) (ops : Array Oper) (k : List Item) (R : Value → Heap → Prop) :
    Nat → List Nat → List (Nat × (Loc → Heap → Prop)) → List Value → Loc → Heap → Prop
  | 0, _, _, tmps, loc, H => RT P fn k tmps loc H R
  | n + 1, rem, FL, tmps, loc, H =>
    ((∀ i ∈ rem, rdy ops rem i = false) → RT P fn k tmps loc H R) ∧
    ∀ i ∈ rem, rdy ops rem i = true → OpRun P ops i tmps loc H fun t' l' H' =>
      (∀ p ∈ keepFl ops FL i, p.2 l' H') ∧ AOF P fn ops k R n (rem.erase i) (keepFl ops FL i) t' l' H'

section
variable {P : Program} {fn : FuncId} {ops : Array Oper} {k : List Item} {R : Value → Heap → Prop}

/-- Fewer facts; a fact that always holds may be added. -/
theorem AOF.weak : ∀ (n : Nat) (rem : List Nat) (FL FL' : List (Nat × (Loc → Heap → Prop))) (tmps : List Value) (loc : Loc) (H : Heap),
    (∀ p ∈ FL, p ∈ FL' ∨ ∀ l h, p.2 l h) → AOF P fn ops k R n rem FL' tmps loc H → AOF P fn ops k R n rem FL tmps loc H := by
  intro n
  induction n with
  | zero => intro rem FL FL' tmps loc H _ h; exact h
  | succ n ih =>
    intro rem FL FL' tmps loc H hs h
    refine ⟨h.1, fun i hi hr => (h.2 i hi hr).mono fun t' l' h' hk => ?_⟩
    have hsub : ∀ p ∈ keepFl ops FL i, p ∈ keepFl ops FL' i ∨ ∀ l h, p.2 l h := by
      intro p hp
      simp only [keepFl, List.mem_filter] at *
      exact (hs p hp.1).elim (fun h => .inl ⟨h, hp.2⟩) .inr
    exact ⟨fun p hp => (hsub p hp).elim (hk.1 p) (fun h => h _ _), ih _ _ _ _ _ _ hsub hk.2⟩

def Fits (ops : Array Oper) (listed : Array Bool) (rem : List Nat) : Prop :=
  (∀ j, listed.getD j true = false ↔ j ∈ rem) ∧ (∀ j, listed.getD j false = true ↔ (j < ops.size ∧ j ∉ rem)) ∧ listed.size = ops.size

theorem ready_iff {listed : Array Bool} {rem : List Nat} (hf : Fits ops listed rem) (i : Nat) :
    i ∈ Region.ready .any ops listed ↔ (i ∈ rem ∧ rdy ops rem i = true) := by
  rw [mem_ready, hf.1 i]
  unfold rdy preds
  constructor
  · rintro ⟨h1, o, ho, h2⟩
    refine ⟨h1, ?_⟩
    simp only [ho, Option.isSome_some, Bool.true_and, List.all_eq_true, List.mem_map, List.mem_filter]
    rintro j ⟨e, ⟨he, hb⟩, rfl⟩
    have := (hf.2.1 _).1 (h2 e (by simpa using he) hb)
    simp [this.1, this.2]
  · rintro ⟨h1, h2⟩
    refine ⟨h1, ?_⟩
    cases ho : ops[i]? with
    | none => simp [ho] at h2
    | some o =>
      simp only [ho, Option.isSome_some, Bool.true_and, List.all_eq_true, List.mem_map, List.mem_filter] at h2
      refine ⟨o, rfl, fun e he hb => (hf.2.1 _).2 ?_⟩
      have := h2 e.on ⟨e, ⟨by simpa using he, hb⟩, rfl⟩
      simpa using this

theorem Fits.set {listed : Array Bool} {rem : List Nat} (hf : Fits ops listed rem) (hn : rem.Nodup) {i : Nat} (hi : i ∈ rem) :
    Fits ops (listed.setIfInBounds i true) (rem.erase i) := by
  have hlt : i < listed.size := by
    rcases Nat.lt_or_ge i listed.size with h | h
    · exact h
    · have := (hf.1 i).2 hi
      simp [h] at this
  refine ⟨fun j => ?_, fun j => ?_, by simpa using hf.2.2⟩
  · by_cases hij : i = j
    · subst hij
      simp [hlt, hn.not_mem_erase]
    · rw [getD_set_ne _ hij, hf.1 j, List.mem_erase_of_ne (Ne.symm hij)]
  · by_cases hij : i = j
    · subst hij
      have : i < ops.size := by have := hf.2.2; omega
      simp [hlt, hn.not_mem_erase, this]
    · rw [getD_set_ne _ hij, hf.2.1 j, List.mem_erase_of_ne (Ne.symm hij)]

theorem OpRun.step {i : Nat} {rest : List Nat} {tmps : List Value} {loc : Loc} {H : Heap}
    (h : OpRun P ops i tmps loc H fun t' l' H' => RT P fn (.inRegion ops rest :: k) t' l' H' R) : RT P fn (.inRegion ops (i :: rest) :: k) tmps loc H R := by
  unfold OpRun at h
  split at h
  · exact h.elim
  · rename_i o ho
    split at h
    · rename_i hw; exact op_sound ho hw h
    · rename_i hw; exact op_skip_sound ho hw h

theorem AOF.sound : ∀ (n t : Nat) (listed : Array Bool) (rem : List Nat) (FL : List (Nat × (Loc → Heap → Prop))) (tmps : List Value) (loc : Loc) (H : Heap),
    Fits ops listed rem → rem.Nodup → AOF P fn ops k R n rem FL tmps loc H →
    RT P fn (.inRegion ops (Region.linearise.go .any ops n t listed []) :: k) tmps loc H R := by
  intro n
  induction n with
  | zero =>
    intro t listed rem FL tmps loc H _ _ h
    exact ctl_sound (todo' := k) (by simp [Region.linearise.go, ctl]) h
  | succ n ih =>
    intro t listed rem FL tmps loc H hf hn h
    simp only [Region.linearise.go]
    change RT P fn (.inRegion ops (match (Region.ready .any ops listed)[t % (Region.ready .any ops listed).length]? with
      | some i => Region.linearise.go .any ops n (t / (Region.ready .any ops listed).length) (listed.setIfInBounds i true) [i]
      | none => [].reverse) :: k) tmps loc H R
    cases hi : (Region.ready .any ops listed)[t % (Region.ready .any ops listed).length]? with
    | none =>
      have hnil : Region.ready .any ops listed = [] := by
        cases hr : Region.ready .any ops listed with
        | nil => rfl
        | cons x xs =>
          rw [hr] at hi
          have hlt : t % (x :: xs).length < (x :: xs).length := Nat.mod_lt _ (by simp)
          simp at hi
          simp at hlt
          omega
      refine ctl_sound (todo' := k) (by simp [ctl]) (h.1 fun i hi' => ?_)
      cases hr : rdy ops rem i with
      | false => rfl
      | true =>
        have := (ready_iff hf i).2 ⟨hi', hr⟩
        rw [hnil] at this
        cases this
    | some i =>
      simp only []
      rw [linearise_go_acc, List.reverse_singleton, List.singleton_append]
      obtain ⟨hm, hr⟩ := (ready_iff hf i).1 (List.mem_of_getElem? hi)
      refine OpRun.step ((h.2 i hm hr).mono fun t' l' h' hk => ?_)
      exact ih _ _ _ _ _ _ _ (hf.set hn hm) (hn.erase i) hk.2

theorem draw_sound {id : Nat} {tmps : List Value} {loc : Loc} {H : Heap} (hm : P.follows .mixedOrders = true)
    (h : AOF P fn ops k R ops.size (List.range ops.size) [] tmps loc H) : RT P fn (.code (.region id ops true) :: k) tmps loc H R := by
  intro w hw hl cs
  have hs := step_region_draw (P := P) (b := base fn) (a := Act.mk tmps.toArray []) (k := k) (cs := cs) (w := w) (ops := ops) (id := id)
  have hrt := AOF.sound ops.size (w.tape w.drawn (.order (base fn).fn id)) (Array.replicate ops.size false) (List.range ops.size) [] tmps loc H
    ⟨fun j => by simp [Array.getElem?_replicate]; by_cases h : j < ops.size <;> simp [h], fun j => by simp [Array.getElem?_replicate]; by_cases h : j < ops.size <;> simp [h], by simp⟩ List.nodup_range h
  obtain ⟨v, w', fr, H', s, sa, f, r, st, l⟩ := hrt { w with drawn := w.drawn + 1 } hw hl cs
  refine ⟨v, w', fr, H', s, sa, f, r, .head (hs.trans ?_) st, l⟩
  simp only [Region.schedule, hm, Bool.true_or, if_true]
  rfl

/-- The operation reads what F says, turns nothing and yields v. -/
def Floats (P : Program) (o : Oper) (ρ : Operand → Value) (F : Loc → Heap → Prop) (v : Value) : Prop :=
  ∀ loc H (w : World), F loc H → Sat H w.heap → LocOk H w.heap loc → (execOp ρ o).run P w = .ok (.value v) w

theorem Floats.step {o : Oper} {ρ : Operand → Value} {F : Loc → Heap → Prop} {v : Value} {loc : Loc} {H : Heap} {K : Value → Loc → Heap → Prop}
    (h : Floats P o ρ F v) (hF : F loc H) (hk : K v loc H) : StepOk P o ρ loc H K := by
  intro w hw hl
  rw [h loc H w hF hw hl]
  exact ⟨H, loc, Str.refl w, hw, hl, .of (Fr.refl _ _), fun _ h => .inl h, hk⟩

def FloatAt (P : Program) (ops : Array Oper) (i : Nat) (tmps : List Value) (F : Loc → Heap → Prop) (v : Value) : Prop :=
  match ops[i]? with
  | none => False
  | some o =>
    match Region.wanted o (yielded ops tmps.toArray) with
    | true => Floats P o (ev tmps) F v
    | false => v = undef

theorem FloatAt.run {i : Nat} {tmps : List Value} {F : Loc → Heap → Prop} {v : Value} {loc : Loc} {H : Heap} {K : List Value → Loc → Heap → Prop}
    (h : FloatAt P ops i tmps F v) (hF : F loc H) (hk : K (put tmps ((ops[i]?).bind (·.dst)) v) loc H) : OpRun P ops i tmps loc H K := by
  unfold FloatAt at h
  unfold OpRun
  cases ho : ops[i]? with
  | none => simp [ho] at h
  | some o =>
    simp only [ho, Option.bind_some] at h hk ⊢
    cases hw : Region.wanted o (yielded ops tmps.toArray) with
    | true =>
      simp only [hw] at h ⊢
      exact h.step hF hk
    | false =>
      simp only [hw] at h ⊢
      subst h
      exact hk

def dstOf (ops : Array Oper) (i : Nat) : Option Tmp := (ops[i]?).bind (·.dst)

def noSel (o : Oper) : Bool := match o.op with | .select .. => false | _ => true

/-- i may be taken ahead of j. -/
def free (ops : Array Oper) (i j : Nat) : Bool :=
  match ops[i]?, ops[j]? with
  | some x, some y => x.apart ops y && noSel x && noSel y
  | _, _ => false

theorem noSel_ne {o : Oper} (h : noSel o = true) : ∀ cs b, o.op ≠ .select cs b := by
  intro cs b he
  simp [noSel, he] at h

theorem ev_put {o : Oper} (hs : noSel o = true) (tmps : List Value) (d : Option Tmp) (v : Value) (h : ∀ e, d = some e → e ∉ o.looksAt ops) :
    execOp (ev (put tmps d v)) o = execOp (ev tmps) o := by
  rw [← eval_eq _ [], ← put_eq, ← eval_eq _ []]
  exact execOp_put (ops := ops) o (noSel_ne hs) _ d v h

theorem wanted_put' {o : Oper} (tmps : List Value) (d : Option Tmp) (v : Value) (h : ∀ e, d = some e → e ∉ o.looksAt ops) :
    Region.wanted o (yielded ops (put tmps d v).toArray) = Region.wanted o (yielded ops tmps.toArray) := by
  have := wanted_put (ops := ops) o (Act.mk tmps.toArray []) d v h
  rw [put_eq] at this
  exact this

theorem put_comm (tmps : List Value) {x y : Option Tmp} (v u : Value) (h : ∀ d, x = some d → y ≠ some d) :
    put (put tmps x v) y u = put (put tmps y u) x v := by
  cases x with
  | none => rfl
  | some d =>
    cases y with
    | none => rfl
    | some e =>
      have hne : d ≠ e := fun he => h d rfl (he ▸ rfl)
      simp only [put]
      exact List.set_comm _ _ hne

theorem StepOk.of_eq {o : Oper} {ρ ρ' : Operand → Value} {loc : Loc} {H : Heap} {K : Value → Loc → Heap → Prop} (he : execOp ρ o = execOp ρ' o)
    (h : StepOk P o ρ' loc H K) : StepOk P o ρ loc H K := by
  unfold StepOk at *
  rw [he]
  exact h

/-- What may be taken first is taken first. -/
theorem AOF.float : ∀ (n : Nat) (rem : List Nat) (FL : List (Nat × (Loc → Heap → Prop))) (tmps : List Value) (loc : Loc) (H : Heap) (i : Nat) (F : Loc → Heap → Prop) (v : Value),
    rem.Nodup → rem.length = n + 1 → i ∈ rem → rdy ops rem i = true → FloatAt P ops i tmps F v → F loc H → (∀ p ∈ FL, p.2 loc H) →
    (∀ j ∈ rem, j ≠ i → i ∉ preds ops j → free ops i j = true) →
    AOF P fn ops k R n (rem.erase i) ((i, F) :: FL) (put tmps (dstOf ops i) v) loc H →
    AOF P fn ops k R (n + 1) rem FL tmps loc H := by
  intro n
  induction n with
  | zero =>
    intro rem FL tmps loc H i F v hn hl hi hr hfl hF hFL hfree h
    obtain ⟨a, rfl⟩ : ∃ a, rem = [a] := by
      match rem, hl with
      | [a], _ => exact ⟨a, rfl⟩
    obtain rfl : i = a := by simpa using hi
    refine ⟨fun hno => by simp [hno i hi] at hr, fun j hj hrj => ?_⟩
    obtain rfl : j = i := by simpa using hj
    exact hfl.run hF ⟨fun p hp => hFL p (List.mem_filter.1 hp).1, h⟩
  | succ n ih =>
    intro rem FL tmps loc H i F v hn hl hi hr hfl hF hFL hfree h
    refine ⟨fun hno => by simp [hno i hi] at hr, fun j hj hrj => ?_⟩
    by_cases hji : j = i
    · subst hji
      exact hfl.run hF ⟨fun p hp => hFL p (List.mem_filter.1 hp).1,
        AOF.weak (n + 1) (rem.erase j) (keepFl ops FL j) ((j, F) :: FL) _ loc H (fun p hp => .inl (List.mem_cons_of_mem _ (List.mem_filter.1 hp).1)) h⟩
    · -- another one comes first
      have hij : i ∉ preds ops j := by
        intro hc
        unfold rdy at hrj
        simp only [Bool.and_eq_true, List.all_eq_true] at hrj
        have := hrj.2 i hc
        simp [hi] at this
      have hfr := hfree j hj hji hij
      have hjr : j ∈ rem.erase i := (List.mem_erase_of_ne hji).2 hj
      have hrj' : rdy ops (rem.erase i) j = true := by
        unfold rdy at hrj ⊢
        simp only [Bool.and_eq_true, List.all_eq_true] at hrj ⊢
        refine ⟨hrj.1, fun x hx => ?_⟩
        have := hrj.2 x hx
        simp only [Bool.not_eq_true', List.contains_eq_mem, decide_eq_false_iff_not, decide_eq_true_eq] at this ⊢
        exact ⟨this.1, fun hc => this.2 (List.mem_of_mem_erase hc)⟩
      have h2 := h.2 j hjr hrj'
      unfold free at hfr
      unfold FloatAt at hfl
      unfold OpRun at h2 ⊢
      unfold dstOf at h2
      cases hoi : ops[i]? with
      | none => simp [hoi] at hfl
      | some oi =>
        cases hoj : ops[j]? with
        | none => simp [hoi, hoj] at hfr
        | some oj =>
          simp only [hoi, hoj, Option.bind_some, Bool.and_eq_true] at hfr hfl h2 ⊢
          obtain ⟨⟨hap, hsi⟩, hsj⟩ := hfr
          obtain ⟨a1, a2, a3⟩ := Oper.apart_spec hap
          rw [wanted_put' tmps oi.dst v a1] at h2
          -- behind j, i is taken first by the hypothesis of the induction
          have key : ∀ (u : Value) (l' : Loc) (h' : Heap), ((∀ p ∈ keepFl ops ((i, F) :: FL) j, p.2 l' h') ∧
              AOF P fn ops k R n ((rem.erase i).erase j) (keepFl ops ((i, F) :: FL) j) (put (put tmps oi.dst v) oj.dst u) l' h') →
              ((∀ p ∈ keepFl ops FL j, p.2 l' h') ∧ AOF P fn ops k R (n + 1) (rem.erase j) (keepFl ops FL j) (put tmps oj.dst u) l' h') := by
            rintro u l' h' ⟨k1, k2⟩
            have hcons : keepFl ops ((i, F) :: FL) j = (i, F) :: keepFl ops FL j := by
              unfold keepFl
              rw [List.filter_cons_of_pos (by simpa using hij)]
            rw [hcons] at k1 k2
            refine ⟨fun p hp => k1 p (List.mem_cons_of_mem _ hp), ?_⟩
            have hij' : i ≠ j := Ne.symm hji
            refine ih (rem.erase j) (keepFl ops FL j) (put tmps oj.dst u) l' h' i F v (hn.erase j) (by rw [List.length_erase_of_mem hj]; omega)
              ((List.mem_erase_of_ne hij').2 hi) ?_ ?_ (k1 _ List.mem_cons_self) (fun p hp => k1 p (List.mem_cons_of_mem _ hp)) ?_ ?_
            · unfold rdy at hr ⊢
              simp only [Bool.and_eq_true, List.all_eq_true] at hr ⊢
              refine ⟨hr.1, fun x hx => ?_⟩
              have := hr.2 x hx
              simp only [Bool.not_eq_true', List.contains_eq_mem, decide_eq_false_iff_not, decide_eq_true_eq] at this ⊢
              exact ⟨this.1, fun hc => this.2 (List.mem_of_mem_erase hc)⟩
            · unfold FloatAt
              simp only [hoi]
              rw [wanted_put' tmps oj.dst u a3]
              cases hw : Region.wanted oi (yielded ops tmps.toArray) with
              | true =>
                simp only [hw] at hfl ⊢
                intro l1 H1 w hwF
                rw [ev_put (ops := ops) hsi tmps oj.dst u a3]
                exact hfl l1 H1 w hwF
              | false => simp only [hw] at hfl ⊢; exact hfl
            · intro x hx hxi hpx
              exact hfree x (List.mem_of_mem_erase hx) hxi hpx
            · unfold dstOf
              simp only [hoi, Option.bind_some]
              rw [put_comm tmps u v (fun d hd he => a2 d he hd), List.erase_comm]
              exact k2
          cases hw : Region.wanted oj (yielded ops tmps.toArray) with
          | true =>
            simp only [hw] at h2 ⊢
            exact StepOk.of_eq (by rw [ev_put (ops := ops) hsj tmps oi.dst v a1]) (h2.mono fun u l' h' => key u l' h')
          | false =>
            simp only [hw] at h2 ⊢
            exact key undef loc H h2

end
end Go.Eng
