/-
  THE ENGINE, PART A: calls and runs said of a PART of the heap (what lies outside it stands; the streams stand; the tape is whatever it is), and the control rules.
-/
import Derived.Calls
import Derived.Orders
import Derived.KernelRfl
namespace Go.Eng
open Go

/-- A part of the heap: what is known of it. -/
abbrev Heap := Nat → Option Obj

/-- The blocks of a function's own variables: number, type, cells. -/
abbrev Loc := List (Nat × TypeId × List Value)

/-- The streams of the world stand. -/
def Str (w w' : World) : Prop := w'.os = w.os ∧ w'.tape = w.tape ∧ w'.output = w.output

theorem Str.refl (w : World) : Str w w := ⟨rfl, rfl, rfl⟩
theorem Str.trans {a b c : World} (h : Str a b) (k : Str b c) : Str a c :=
  ⟨k.1.trans h.1, k.2.1.trans h.2.1, k.2.2.trans h.2.2⟩

def Sat (H : Heap) (g : Array Obj) : Prop := ∀ b o, H b = some o → g[b]? = some o

/-- Outside H (and outside the function's own variables) nothing has turned; what H' knows beyond H is new. -/
def FrL (loc : Loc) (H : Heap) (g : Array Obj) (H' : Heap) (g' : Array Obj) : Prop :=
  g.size ≤ g'.size ∧ (∀ b, b < g.size → H b = none → b ∉ loc.map (·.1) → g'[b]? = g[b]?) ∧
  (∀ b, H b = none → H' b ≠ none → g.size ≤ b)

abbrev Fr (H : Heap) (g : Array Obj) (H' : Heap) (g' : Array Obj) : Prop := FrL [] H g H' g'

theorem Fr.refl (H : Heap) (g : Array Obj) : Fr H g H g := ⟨Nat.le_refl _, fun _ _ _ _ => rfl, fun _ h1 h2 => absurd h1 h2⟩

theorem Fr.transL {loc : Loc} {H H' H'' : Heap} {g g' g'' : Array Obj} (h : Fr H g H' g') (k : FrL loc H' g' H'' g'') : FrL loc H g H'' g'' := by
  refine ⟨Nat.le_trans h.1 k.1, fun b hb hn hl => ?_, fun b hn hs => ?_⟩
  · have h1 : H' b = none := by
      cases hc : H' b with
      | none => rfl
      | some x => have := h.2.2 b hn (by simp [hc]); omega
    rw [k.2.1 b (Nat.lt_of_lt_of_le hb h.1) h1 hl, h.2.1 b hb hn (by simp)]
  · cases hc : H' b with
    | none => exact Nat.le_trans h.1 (k.2.2 b hc hs)
    | some x => exact h.2.2 b hn (by simp [hc])

theorem Fr.trans {H H' H'' : Heap} {g g' g'' : Array Obj} (h : Fr H g H' g') (k : Fr H' g' H'' g'') : Fr H g H'' g'' := h.transL k

theorem FrL.of {loc : Loc} {H H' : Heap} {g g' : Array Obj} (h : Fr H g H' g') : FrL loc H g H' g' :=
  ⟨h.1, fun b hb hn _ => h.2.1 b hb hn (by simp), h.2.2⟩

def LocOk (H : Heap) (g : Array Obj) (loc : Loc) : Prop :=
  (loc.map (·.1)).Nodup ∧ ∀ p ∈ loc, H p.1 = none ∧ g[p.1]? = some (.cells p.2.2.toArray p.2.1 (0, 0))

theorem LocOk.nil (H : Heap) (g : Array Obj) : LocOk H g [] := ⟨by simp, fun _ h => (by cases h)⟩

theorem LocOk.fr {H H' : Heap} {g g' : Array Obj} {loc : Loc} (h : LocOk H g loc) (f : Fr H g H' g') : LocOk H' g' loc := by
  refine ⟨h.1, fun p hp => ?_⟩
  obtain ⟨h1, h2⟩ := h.2 p hp
  have hlt : p.1 < g.size := (Array.getElem?_eq_some_iff.1 h2).1
  refine ⟨?_, by rw [f.2.1 p.1 hlt h1 (by simp)]; exact h2⟩
  cases hc : H' p.1 with
  | none => rfl
  | some x => have := f.2.2 p.1 h1 (by simp [hc]); omega

/-- A call of function f is entered (it has a body). -/
def Enters (P : Program) (f : FuncId) : Prop :=
  ∀ (args : Array Value) (w : World), (callFunc f args).run P w = .ok (.enter f args) w

/-- The call returns; what it returns and the heap behind it are in R. -/
def HT (P : Program) (f : FuncId) (args : List Value) (H : Heap) (R : Value → Heap → Prop) : Prop :=
  Enters P f ∧ ∀ w : World, Sat H w.heap →
    Calls P f args.toArray w fun e w' => ∃ v H', e = .returned v ∧ Str w w' ∧ Sat H' w'.heap ∧ Fr H w.heap H' w'.heap ∧ R v H'

theorem HT.mono {P : Program} {f : FuncId} {args : List Value} {H : Heap} {R R' : Value → Heap → Prop}
    (h : HT P f args H R) (hr : ∀ v H', R v H' → R' v H') : HT P f args H R' :=
  ⟨h.1, fun w hw => (h.2 w hw).mono fun _ _ ⟨v, H', e, s, sa, f, r⟩ => ⟨v, H', e, s, sa, f, hr _ _ r⟩⟩

def base (fn : FuncId) : Frame := { (default : Frame) with fn := fn, kind := .normal }

/-- From the middle of a function's body: it comes to the function's return. -/
def RT (P : Program) (fn : FuncId) (todo : List Item) (tmps : List Value) (loc : Loc) (H : Heap) (R : Value → Heap → Prop) : Prop :=
  ∀ w : World, Sat H w.heap → LocOk H w.heap loc → ∀ cs : List Frame, ∃ v w' fr H', Str w w' ∧ Sat H' w'.heap ∧ FrL loc H w.heap H' w'.heap ∧ R v H' ∧
    Steps P (lone ((base fn).at ⟨tmps.toArray, []⟩ todo) cs w) (lone fr cs w') ∧ fr.fn = fn ∧ fr.leaving P w' (.returned v)

section
variable {P : Program} {fn : FuncId} {k : List Item} {tmps : List Value} {loc : Loc} {H : Heap} {R : Value → Heap → Prop}

/-- One step of the machine that turns the stack alone. -/
theorem RT.of_step {todo todo' : List Item}
    (hs : ∀ (cs : List Frame) (w : World), step P (lone ((base fn).at ⟨tmps.toArray, []⟩ todo) cs w) = .next (lone ((base fn).at ⟨tmps.toArray, []⟩ todo') cs w))
    (h : RT P fn todo' tmps loc H R) : RT P fn todo tmps loc H R :=
  fun w hw hl cs => let ⟨v, w', fr, H', s, sa, f, r, st, l⟩ := h w hw hl cs; ⟨v, w', fr, H', s, sa, f, r, .head (hs cs w) st, l⟩

/-- The control steps that take no test. -/
def ctl : List Item → Option (List Item)
  | .code .skip :: k => some k
  | .code (.label _) :: k => some k
  | .inBlock _ :: k => some k
  | .code (.seq a b) :: k => some (.code a :: .code b :: k)
  | .code (.block id c) :: k => some (.code c :: .inBlock id :: k)
  | .code (.loop c) :: k => some (.code c :: .inLoop c :: k)
  | .inLoop c :: k => some (.code c :: .inLoop c :: k)
  | .code (.exit id) :: k => exitTo id k
  | .code (.region _ ops false) :: k => some (.inRegion ops (List.range ops.size) :: k)
  | .inRegion _ [] :: k => some k
  | _ => none

theorem ctl_sound {todo todo' : List Item} (hc : ctl todo = some todo') (h : RT P fn todo' tmps loc H R) : RT P fn todo tmps loc H R := by
  refine RT.of_step (fun cs w => ?_) h
  unfold ctl at hc
  split at hc
  all_goals first | (cases hc) | (injection hc with hc; subst hc) | skip
  · exact step_skip
  · exact step_label
  · exact step_inBlock
  · exact step_seq
  · exact step_block
  · exact step_loop
  · exact step_inLoop
  · exact step_exit hc
  · exact step_region
  · exact step_region_end

def ev (tmps : List Value) : Operand → Value
  | .tmp t => tmps.getD t undef
  | .const v => v
  | .global g => .pointer (some ⟨g, 0, none⟩)
  | .func f => .func (.func f) #[] #[]

theorem eval_eq (tmps : List Value) (ds : List Deferred) : (Act.mk tmps.toArray ds).eval = ev tmps := by
  funext x
  cases x <;> simp [Act.eval, ev]

def put (tmps : List Value) (d : Option Tmp) (v : Value) : List Value :=
  match d with
  | some d => tmps.set d v
  | none => tmps

theorem put_eq (tmps : List Value) (ds : List Deferred) (d : Option Tmp) (v : Value) :
    (Act.mk tmps.toArray ds).put d v = Act.mk (put tmps d v).toArray ds := by
  cases d <;> simp [Act.put, put]

theorem cond_sound {c : Operand} {x y : Code} {b : Bool} (hc : ev tmps c = .bool b)
    (ht : b = true → RT P fn (.code x :: k) tmps loc H R) (hf : b = false → RT P fn (.code y :: k) tmps loc H R) :
    RT P fn (.code (.cond c x y) :: k) tmps loc H R := by
  have he : (Act.mk tmps.toArray []).eval c = .bool b := by rw [eval_eq]; exact hc
  cases b
  · exact RT.of_step (fun cs w => step_cond he) (hf rfl)
  · exact RT.of_step (fun cs w => step_cond he) (ht rfl)

/-- What an operation does to what is known. -/
def OpOk (P : Program) (o : Oper) (ρ : Operand → Value) (H : Heap) (K : Value → Heap → Prop) : Prop :=
  ∀ w : World, Sat H w.heap →
    match (execOp ρ o).run P w with
    | .ok (.value v) w' => ∃ H', Str w w' ∧ Sat H' w'.heap ∧ Fr H w.heap H' w'.heap ∧ K v H'
    | .ok .skip w' => ∃ H', Str w w' ∧ Sat H' w'.heap ∧ Fr H w.heap H' w'.heap ∧ K undef H'
    | .ok (.enter f args) w' => w' = w ∧ HT P f args.toList H K
    | _ => False

theorem OpOk.mono {o : Oper} {ρ : Operand → Value} {K K' : Value → Heap → Prop} (h : OpOk P o ρ H K)
    (hk : ∀ v H', K v H' → K' v H') : OpOk P o ρ H K' := by
  intro w hw
  have := h w hw
  revert this
  generalize (execOp ρ o).run P w = r
  cases r with
  | ok n w' =>
    cases n <;> simp only <;> first
      | exact fun ⟨H', a, b, c, d⟩ => ⟨H', a, b, c, hk _ _ d⟩
      | exact fun h => ⟨h.1, h.2.mono hk⟩
      | exact fun h => h
  | halt x w' => exact fun h => h

/-- The operation, with what it does to the function's own variables beside. -/
def StepOk (P : Program) (o : Oper) (ρ : Operand → Value) (loc : Loc) (H : Heap) (K : Value → Loc → Heap → Prop) : Prop :=
  ∀ w : World, Sat H w.heap → LocOk H w.heap loc →
    match (execOp ρ o).run P w with
    | .ok (.value v) w' => ∃ H' loc', Str w w' ∧ Sat H' w'.heap ∧ LocOk H' w'.heap loc' ∧ FrL loc H w.heap H' w'.heap ∧ (∀ b ∈ loc'.map (·.1), b ∈ loc.map (·.1) ∨ w.heap.size ≤ b) ∧ K v loc' H'
    | .ok .skip w' => ∃ H' loc', Str w w' ∧ Sat H' w'.heap ∧ LocOk H' w'.heap loc' ∧ FrL loc H w.heap H' w'.heap ∧ (∀ b ∈ loc'.map (·.1), b ∈ loc.map (·.1) ∨ w.heap.size ≤ b) ∧ K undef loc' H'
    | .ok (.enter f args) w' => w' = w ∧ HT P f args.toList H fun v H' => K v loc H'
    | _ => False

theorem StepOk.mono {o : Oper} {ρ : Operand → Value} {K K' : Value → Loc → Heap → Prop} (h : StepOk P o ρ loc H K)
    (hk : ∀ v l H', K v l H' → K' v l H') : StepOk P o ρ loc H K' := by
  intro w hw hl
  have := h w hw hl
  revert this
  generalize (execOp ρ o).run P w = r
  cases r with
  | ok n w' =>
    cases n <;> simp only <;> first
      | exact fun ⟨H', l', a, b, c, d, e, f⟩ => ⟨H', l', a, b, c, d, e, hk _ _ _ f⟩
      | exact fun h => ⟨h.1, h.2.mono fun _ _ => hk _ _ _⟩
      | exact fun h => h
  | halt x w' => exact fun h => h

theorem OpOk.step {o : Oper} {ρ : Operand → Value} {K : Value → Loc → Heap → Prop} (h : OpOk P o ρ H fun v H' => K v loc H') : StepOk P o ρ loc H K := by
  intro w hw hl
  have := h w hw
  revert this
  generalize (execOp ρ o).run P w = r
  cases r with
  | ok n w' =>
    cases n <;> simp only <;> first
      | exact fun ⟨H', a, b, c, d⟩ => ⟨H', loc, a, b, hl.fr c, .of c, fun _ h => .inl h, d⟩
      | exact fun h => h
  | halt x w' => exact fun h => h

theorem FrL.trans' {loc loc' : Loc} {H H' H'' : Heap} {g g' g'' : Array Obj} (h : FrL loc H g H' g') (hl : ∀ b ∈ loc'.map (·.1), b ∈ loc.map (·.1) ∨ g.size ≤ b)
    (k : FrL loc' H' g' H'' g'') : FrL loc H g H'' g'' := by
  refine ⟨Nat.le_trans h.1 k.1, fun b hb hn hl' => ?_, fun b hn hs => ?_⟩
  · have h1 : H' b = none := by
      cases hc : H' b with
      | none => rfl
      | some x => have := h.2.2 b hn (by simp [hc]); omega
    have h2 : b ∉ loc'.map (·.1) := by
      intro hc
      rcases hl b hc with h | h
      · exact hl' h
      · omega
    rw [k.2.1 b (Nat.lt_of_lt_of_le hb h.1) h1 h2, h.2.1 b hb hn hl']
  · cases hc : H' b with
    | none => exact Nat.le_trans h.1 (k.2.2 b hc hs)
    | some x => exact h.2.2 b hn (by simp [hc])

/-- One operation of a region. -/
theorem op_sound {ops : Array Oper} {i : Nat} {rest : List Nat} {o : Oper} (ho : ops[i]? = some o)
    (hw : Region.wanted o (yielded ops tmps.toArray) = true)
    (h : StepOk P o (ev tmps) loc H fun v l H' => RT P fn (.inRegion ops rest :: k) (put tmps o.dst v) l H' R) :
    RT P fn (.inRegion ops (i :: rest) :: k) tmps loc H R := by
  intro w hsat hloc cs
  have hg := stepG_op (P := P) (b := base fn) (a := Act.mk tmps.toArray []) (k := k) (cs := cs) (w := w) (rest := rest) ho hw
  rw [eval_eq] at hg
  have hfin : ∀ v, ((base fn).at (Act.mk tmps.toArray []) (.inRegion ops (i :: rest) :: k)).finish v = (base fn).at (Act.mk (put tmps o.dst v).toArray []) (.inRegion ops rest :: k) := by
    intro v; rw [Frame.finish_at, ho]; show (base fn).at (Act.put _ o.dst v) _ = _; rw [put_eq]
  have hop := h w hsat hloc
  revert hop
  generalize hr : (execOp (ev tmps) o).run P w = r
  cases r with
  | halt x w' => exact fun h => h.elim
  | ok n w' =>
    cases n <;> simp only <;> first | exact fun h => h.elim | skip
    · rename_i v
      rintro ⟨H', l', hs, hsa, hlo, hfr, hli, hrt⟩
      obtain ⟨v', w'', fr, H'', s, sa, f, r', st, l⟩ := hrt w' hsa hlo cs
      refine ⟨v', w'', fr, H'', hs.trans s, sa, hfr.trans' hli f, r', .head (step_lone_go ?_) st, l⟩
      rw [hg, ← hfin]; simp [stepG.apply, hr]
    · rintro ⟨H', l', hs, hsa, hlo, hfr, hli, hrt⟩
      obtain ⟨v', w'', fr, H'', s, sa, f, r', st, l⟩ := hrt w' hsa hlo cs
      refine ⟨v', w'', fr, H'', hs.trans s, sa, hfr.trans' hli f, r', .head (step_lone_go ?_) st, l⟩
      rw [hg, ← hfin]; simp [stepG.apply, hr]
    · rename_i f args
      rintro ⟨rfl, _, hc⟩
      obtain ⟨e, w'', fr, ⟨v, H', rfl, hs', hsa', hfr', hrt⟩, hsteps, _, hleave⟩ := hc w' hsat ((base fn).at (Act.mk tmps.toArray []) (.inRegion ops (i :: rest) :: k) :: cs)
      obtain ⟨v', w₃, fr', H'', s, sa, f', r', st, l⟩ := hrt w'' hsa' (hloc.fr hfr') cs
      refine ⟨v', w₃, fr', H'', hs'.trans s, sa, hfr'.transL f', r', ?_, l⟩
      have henter : step P (lone ((base fn).at (Act.mk tmps.toArray []) (.inRegion ops (i :: rest) :: k)) cs w') =
          .next (lone (Frame.enter P f args .normal) ((base fn).at (Act.mk tmps.toArray []) (.inRegion ops (i :: rest) :: k) :: cs) w') :=
        step_lone_go (by rw [hg]; simp [stepG.apply, hr, Frame.at])
      have h2 := hsteps
      simp only [Array.toArray_toList] at h2
      refine .head henter (Steps.trans h2 (.head ?_ st))
      rw [← hfin]; exact step_leave_returned hleave

theorem op_skip_sound {ops : Array Oper} {i : Nat} {rest : List Nat} {o : Oper} (ho : ops[i]? = some o)
    (hw : Region.wanted o (yielded ops tmps.toArray) = false)
    (h : RT P fn (.inRegion ops rest :: k) (put tmps o.dst undef) loc H R) :
    RT P fn (.inRegion ops (i :: rest) :: k) tmps loc H R := by
  intro w hsat hloc cs
  obtain ⟨v', w'', fr, H'', s, sa, f, r', st, l⟩ := h w hsat hloc cs
  refine ⟨v', w'', fr, H'', s, sa, f, r', .head ?_ st, l⟩
  have := step_op_skip (P := P) (b := base fn) (a := Act.mk tmps.toArray []) (k := k) (cs := cs) (w := w) (ops := ops) (i := i) (rest := rest) (by simp [ho, hw])
  rw [this, ho]
  show _ = Stepped.next (lone ((base fn).at _ _) cs w)
  rw [← put_eq]; rfl

/-- The function's return. -/
theorem ret_sound {f : Func} (hf : P.funcs[fn]? = some f) {v : Value}
    (hr : ∀ w : World, Sat H w.heap → LocOk H w.heap loc → (results f tmps.toArray).run P w = .ok v w) (hR : R v H) : RT P fn (.code .ret :: k) tmps loc H R := by
  intro w hs hl cs
  exact ⟨v, w, _, H, Str.refl w, hs, .of (Fr.refl _ _), hR, .one step_ret, rfl, rfl, rfl, rfl, f, hf, hr w hs hl⟩

theorem end_sound {f : Func} (hf : P.funcs[fn]? = some f) {v : Value}
    (hr : ∀ w : World, Sat H w.heap → LocOk H w.heap loc → (results f tmps.toArray).run P w = .ok v w) (hR : R v H) : RT P fn [] tmps loc H R := by
  intro w hs hl cs
  exact ⟨v, w, _, H, Str.refl w, hs, .of (Fr.refl _ _), hR, .one step_end, rfl, rfl, rfl, rfl, f, hf, hr w hs hl⟩

/-- From the body's run to the call. -/
theorem HT.of_RT {f : Func} {c : Code} {args : List Value} (hf : P.funcs[fn]? = some f) (hb : f.body = some c)
    (hn : (f.name == "runtime.NumGoroutine") = false)
    (h : RT P fn [.code c] (args ++ List.replicate (f.ntmps - args.length) undef) [] H R) : HT P fn args H R := by
  refine ⟨fun a w => ?_, fun w hw cs => ?_⟩
  · have hn' : f.name ≠ "runtime.NumGoroutine" := by simpa using hn
    simp [callFunc, program, Bind.bind, Sem.bind, Sem.run, hf, hn', hb, Pure.pure]
  · obtain ⟨v, w', fr, H', s, sa, fr', r, st, l1, l2⟩ := h w hw (LocOk.nil _ _) cs
    refine ⟨.returned v, w', fr, ⟨v, H', rfl, s, sa, fr', r⟩, ?_, l1, l2⟩
    have henter : Frame.enter P fn args.toArray .normal =
        (base fn).at { tmps := (args ++ List.replicate (f.ntmps - args.length) undef).toArray, defers := [] } [.code c] := by
      simp [Frame.enter, Frame.at, hf, hb, base]
    show Steps P (lone (Frame.enter P fn args.toArray .normal) cs w) _
    rw [henter]; exact st

end
end Go.Eng
