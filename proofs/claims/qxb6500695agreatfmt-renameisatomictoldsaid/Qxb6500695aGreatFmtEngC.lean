/-
  THE ENGINE, PART C: what each operation asks and gives, in the words of heaps.
-/
import Derived.Test.Qxb6500695aGreatFmtEngB
import Derived.Laws.Sem
namespace Go.Eng
open Go

/-- The cells vs lie in block b from off on. -/
def Cells (H : Heap) (b off : Nat) (vs : List Value) : Prop :=
  ∃ c T fr, H b = some (.cells c T fr) ∧ ∀ i, i < vs.length → c[off + i]? = vs[i]?

def CellsG (g : Array Obj) (b off : Nat) (vs : List Value) : Prop :=
  ∃ c T fr, g[b]? = some (.cells c T fr) ∧ ∀ i, i < vs.length → c[off + i]? = vs[i]?

theorem Cells.g {H : Heap} {g : Array Obj} {b off : Nat} {vs : List Value} (h : Cells H b off vs) (hs : Sat H g) : CellsG g b off vs := by
  obtain ⟨c, T, fr, hb, hc⟩ := h
  exact ⟨c, T, fr, hs _ _ hb, hc⟩

def upd (H : Heap) (b : Nat) (o : Obj) : Heap := fun x => if x = b then some o else H x

/-- A new block. -/
def Al (H : Heap) (o : Obj) (b : Nat) (H' : Heap) : Prop := H b = none ∧ H' = upd H b o

/-- Block b becomes o. -/
def Wr (H : Heap) (b : Nat) (o : Obj) (H' : Heap) : Prop := H b ≠ none ∧ H' = upd H b o

def setAll (c : Array Value) (off : Nat) : List Value → Array Value
  | [] => c
  | v :: vs => setAll (c.setIfInBounds off v) (off + 1) vs

theorem Sat.lt {H : Heap} {g : Array Obj} (hs : Sat H g) {b : Nat} {o : Obj} (hb : H b = some o) : b < g.size :=
  (Array.getElem?_eq_some_iff.1 (hs b o hb)).1

theorem Sat.fresh {H : Heap} {g : Array Obj} (hs : Sat H g) : H g.size = none := by
  cases hc : H g.size with
  | none => rfl
  | some o => have := hs.lt hc; omega

theorem Sat.push {H : Heap} {g : Array Obj} (hs : Sat H g) (o : Obj) : Sat (upd H g.size o) (g.push o) := by
  intro b x hb
  unfold upd at hb
  split at hb
  · rename_i he; subst he; simp at hb; subst hb; simp
  · have := hs.lt hb
    rw [Array.getElem?_push, if_neg (by omega)]
    exact hs b x hb

theorem Fr.push {H : Heap} {g : Array Obj} (o : Obj) : Fr H g (upd H g.size o) (g.push o) := by
  refine ⟨by simp, fun b hb _ _ => by rw [Array.getElem?_push, if_neg (by omega)], fun b hn hs => ?_⟩
  unfold upd at hs
  split at hs
  · omega
  · exact absurd hn hs

theorem Sat.set {H : Heap} {g : Array Obj} (hs : Sat H g) {b : Nat} (o : Obj) (hb : b < g.size) : Sat (upd H b o) (g.setIfInBounds b o) := by
  intro x y hx
  unfold upd at hx
  split at hx
  · rename_i he; subst he; simp at hx; subst hx; simp [hb]
  · rename_i he
    have := hs x y hx
    rw [Array.getElem?_setIfInBounds_ne (Ne.symm he)]
    exact this

theorem Fr.set {H : Heap} {g : Array Obj} {b : Nat} (o : Obj) (hb : H b ≠ none) : Fr H g (upd H b o) (g.setIfInBounds b o) := by
  refine ⟨by simp, fun x hx hn _ => ?_, fun x hn hs => ?_⟩
  · rw [Array.getElem?_setIfInBounds_ne]
    intro he; subst he; exact hb hn
  · unfold upd at hs
    split at hs
    · rename_i he; subst he; exact absurd hn hb
    · exact absurd hn hs

/-- A value of a kind, as data of its own. -/
def kv (kd : Nat) (K : Value → Prop) : Prop :=
  match kd with
  | 0 => ∃ n : Int, K (.int .i8 n)
  | 1 => ∃ n : Int, K (.int .i16 n)
  | 2 => ∃ n : Int, K (.int .i32 n)
  | 3 => ∃ n : Int, K (.int .i64 n)
  | 4 => ∃ n : Int, K (.int .u8 n)
  | 5 => ∃ n : Int, K (.int .u16 n)
  | 6 => ∃ n : Int, K (.int .u32 n)
  | 7 => ∃ n : Int, K (.int .u64 n)
  | 8 => ∃ b : Bool, K (.bool b)
  | 9 => ∃ s : ByteArray, K (.string s)
  | 10 => ∃ p : Option Addr, K (.pointer p)
  | 11 => ∃ (p : Option Addr) (n c : Nat), K (.slice p n c)
  | 12 => ∃ r : Option Nat, K (.map r)
  | 14 => ∃ (t : TypeId) (x : Value), K (.iface t x)
  | 15 => ∃ p : Option Addr, K (.iface 178 (.pointer p))
  | 16 => ∃ p : Option Addr, K (.iface 94 (.pointer p))
  | 17 => ∃ p : Option Addr, K (.iface 45 (.pointer p))
  | 18 => ∃ r : Option Nat, K (.iface 168 (.map r))
  | 19 => ∃ (f : FuncId) (a d : Array Value), K (.func (.func f) a d)
  | 20 => ∃ (f : FuncId) (a d : Array Value), K (.iface 245 (.func (.func f) a d))
  | 21 => ∃ n : Int, K (.iface 187 (.agg #[.int .u64 n]))
  | _ => ∃ v : Value, K v

theorem kv_sound {kd : Nat} {K : Value → Prop} (H : kv kd K) : ∃ v, K v := by
  unfold kv at H
  split at H
  all_goals first | (obtain ⟨p, n, c, h⟩ := H; exact ⟨_, h⟩) | (obtain ⟨n, c, h⟩ := H; exact ⟨_, h⟩) | (obtain ⟨n, h⟩ := H; exact ⟨_, h⟩)

def kvs : List Nat → (List Value → Prop) → Prop
  | [], K => K []
  | kd :: r, K => kv kd fun v => kvs r fun vs => K (v :: vs)

theorem kvs_sound : ∀ {ks : List Nat} {K : List Value → Prop}, kvs ks K → ∃ vs, vs.length = ks.length ∧ K vs
  | [], K, H => ⟨[], rfl, H⟩
  | kd :: r, K, H => by
    obtain ⟨v, hv⟩ := kv_sound H
    obtain ⟨vs, hl, hk⟩ := kvs_sound hv
    exact ⟨v :: vs, by simp [hl], hk⟩

/-- A value of a shape: below 100 a kind, 100 + n a struct of n cells. -/
def shp1 (ks : List Nat) (K : Value → List Nat → Prop) : Prop :=
  match ks with
  | [] => False
  | k :: r =>
    match decide (k < 100) with
    | true => kv k fun v => K v r
    | false => kvs (r.take (k - 100)) fun vs => K (.agg vs.toArray) (r.drop (k - 100))

def comps : Nat → List Nat → (List Value → Prop) → Prop
  | 0, _, K => K []
  | n + 1, r, K => shp1 r fun v r' => comps n r' fun vs => K (v :: vs)

theorem shp1_sound {ks : List Nat} {K : Value → List Nat → Prop} (H : shp1 ks K) : ∃ v r, K v r := by
  unfold shp1 at H
  split at H
  · exact H.elim
  · split at H
    · obtain ⟨v, hv⟩ := kv_sound H; exact ⟨_, _, hv⟩
    · obtain ⟨v, _, hv⟩ := kvs_sound H; exact ⟨_, _, hv⟩

theorem comps_sound : ∀ {n : Nat} {ks : List Nat} {K : List Value → Prop}, comps n ks K → ∃ vs, K vs := by
  intro n
  induction n with
  | zero => intro ks K H; exact ⟨_, H⟩
  | succ n ih =>
    intro ks K H
    obtain ⟨v, r, hv⟩ := shp1_sound H
    obtain ⟨vs, hvs⟩ := ih hv
    exact ⟨_, hvs⟩

/-- There is a value of the shape ks (1000 + n ahead: a tuple of n) of which K holds. -/
def exShape (ks : List Nat) (K : Value → Prop) : Prop :=
  match ks with
  | [] => ∃ v, K v
  | k :: r => match decide (k < 1000) with
    | true => shp1 (k :: r) fun v' _ => K v'
    | false => comps (k - 1000) r fun vs => K (.tuple vs.toArray)

theorem exShape_sound {ks : List Nat} {K : Value → Prop} (H : exShape ks K) : ∃ v, K v := by
  cases ks with
  | nil => exact H
  | cons k r =>
    simp only [exShape] at H
    generalize k - 1000 = n at H
    generalize decide (k < 1000) = d at H
    cases d with
    | true =>
      obtain ⟨v', r, hk⟩ := shp1_sound H
      exact ⟨_, hk⟩
    | false =>
      obtain ⟨vs, hk⟩ := comps_sound H
      exact ⟨_, hk⟩

/-- v has the shape ks, and K holds of it. -/
def shaped (ks : List Nat) (v : Value) (K : Value → Prop) : Prop := exShape ks fun v' => v = v' ∧ K v'

theorem shaped_sound {ks : List Nat} {v : Value} {K : Value → Prop} (H : shaped ks v K) : K v := by
  obtain ⟨v', he, hk⟩ := exShape_sound H
  rw [he]; exact hk

/-- A fact that an operation has read: cells, a map, a variable of the function's own. -/
structure Fact where
  b : Nat
  off : Nat
  vs : List Value
  mp : Option (Array MapEntry × Nat)
  lj : Option (Nat × Nat × TypeId × List Value)

def Fact.sem (f : Fact) (loc : Loc) (H : Heap) : Prop :=
  match f.lj with
  | some (j, p) => loc[j]? = some p
  | none => match f.mp with
    | some (es, c) => H f.b = some (.map es c)
    | none => Cells H f.b f.off f.vs

theorem upd_ne {H : Heap} {b x : Nat} {o : Obj} (h : x ≠ b) : upd H b o x = H x := by simp [upd, h]
theorem upd_same {H : Heap} {b : Nat} {o : Obj} : upd H b o b = some o := by simp [upd]

theorem Cells.al {H H' : Heap} {b b' off : Nat} {o : Obj} {vs : List Value} (h : Cells H b off vs) (ha : Al H o b' H') : Cells H' b off vs := by
  obtain ⟨c, T, fr, hb, hc⟩ := h
  obtain ⟨h1, rfl⟩ := ha
  refine ⟨c, T, fr, ?_, hc⟩
  rw [upd_ne]; exact hb
  intro he; subst he; rw [h1] at hb; cases hb

theorem Fact.al {f : Fact} {loc : Loc} {H H' : Heap} {o : Obj} {b : Nat} (h : f.sem loc H) (ha : Al H o b H') : f.sem loc H' := by
  unfold Fact.sem at *
  split
  · rename_i he; simp only [he] at h; exact h
  · rename_i he
    simp only [he] at h
    split
    · rename_i es c he2
      simp only [he2] at h
      obtain ⟨h1, rfl⟩ := ha
      rw [upd_ne]; exact h
      intro hc; subst hc; rw [h1] at h; cases h
    · rename_i he2
      simp only [he2] at h
      exact Cells.al h ha

/-- What touches no memory. -/
def pureRun {α : Type} (P : Program) : Sem α → Option α
  | .pure a => some a
  | .program k => pureRun P (k P)
  | .mark _ k => pureRun P k
  | _ => none

theorem pureRun_sound {α : Type} {P : Program} : ∀ {s : Sem α} {a : α}, pureRun P s = some a → ∀ w, s.run P w = .ok a w := by
  intro s
  induction s with
  | pure a => intro x h w; simp [pureRun] at h; simp [Sem.run, h]
  | program k ih => intro x h w; simp only [pureRun] at h; simp only [Sem.run]; exact ih _ h w
  | mark m k ih => intro x h w; simp only [pureRun] at h; simp only [Sem.run]; exact ih h w
  | _ => intro x h; simp [pureRun] at h

/-- What makes one block and touches no other memory. -/
def allocRun {α : Type} (P : Program) : Sem α → Option (Obj × (Nat → Sem α))
  | .new o k => some (o, k)
  | .program k => allocRun P (k P)
  | .mark _ k => allocRun P k
  | _ => none

theorem allocRun_sound {α : Type} {P : Program} : ∀ {s : Sem α} {o : Obj} {k : Nat → Sem α}, allocRun P s = some (o, k) →
    ∀ w, s.run P w = (k w.heap.size).run P { w with heap := w.heap.push o } := by
  intro s
  induction s with
  | new o' k' _ => intro o k h w; simp [allocRun] at h; obtain ⟨rfl, rfl⟩ := h; simp [Sem.run]
  | program k' ih => intro o k h w; simp only [allocRun] at h; simp only [Sem.run]; exact ih _ h w
  | mark m k' ih => intro o k h w; simp only [allocRun] at h; simp only [Sem.run]; exact ih h w
  | _ => intro o k h; simp [allocRun] at h

/-- (struct or array?, cells) -/
def loadShape (P : Program) (t : TypeId) : Option (Bool × Nat) :=
  match P.underlying t, P.info? t with
  | some (.struct _), some i => some (true, i.size)
  | some (.array _ _), some i => some (true, i.size)
  | some _, some _ => some (false, 1)
  | _, _ => none

theorem addr_add (b off n : Nat) : (Addr.mk b off none).add n = ⟨b, off + n, none⟩ := by
  unfold Addr.add
  split
  · rename_i h; subst h; rfl
  · rfl

theorem CellsG.cell {w : World} {b off : Nat} {vs : List Value} (H : CellsG w.heap b off vs) {i : Nat} (hi : i < vs.length) :
    w.cell? ⟨b, off + i, none⟩ = some vs[i] := by
  obtain ⟨c, T, fr, hb, hc⟩ := H
  simp only [World.cell?, hb]
  have := hc i hi
  rw [List.getElem?_eq_getElem hi] at this
  simpa using this

theorem run_loadCellsFrom {P : Program} {w : World} {b off : Nat} : ∀ (n i : Nat) (vs : List Value) (acc : Array Value),
    CellsG w.heap b off vs → i + n = vs.length → (loadCellsFrom ⟨b, off, none⟩ i n acc).run P w = .ok (acc ++ (vs.drop i).toArray) w := by
  intro n
  induction n with
  | zero =>
    intro i vs acc _ hi
    have : vs.drop i = [] := List.drop_eq_nil_of_le (by omega)
    simp [loadCellsFrom, this]
  | succ n ih =>
    intro i vs acc hc hi
    have hlt : i < vs.length := by omega
    have hcell := hc.cell hlt
    simp only [loadCellsFrom, Sem.run_bind, run_load, addr_add, hcell, Result.andThen_ok]
    rw [ih (i + 1) vs _ hc (by omega)]
    congr 1
    rw [List.drop_eq_getElem_cons hlt]
    simp

theorem run_loadVar_agg {P : Program} {w : World} {t b off : Nat} {vs : List Value} (hs : loadShape P t = some (true, vs.length)) (hc : CellsG w.heap b off vs) :
    (loadVar t ⟨b, off, none⟩).run P w = .ok (.agg vs.toArray) w := by
  unfold loadShape at hs
  have hl := run_loadCellsFrom (P := P) vs.length 0 vs #[] hc (by omega)
  have hag : ∃ d i, P.underlying t = some d ∧ P.info? t = some i ∧ i.size = vs.length ∧ ((∃ f, d = .struct f) ∨ ∃ n e, d = .array n e) := by
    split at hs <;> simp at hs
    · rename_i f i h1 h2; exact ⟨_, _, h1, h2, hs, .inl ⟨_, rfl⟩⟩
    · rename_i n e i h1 h2; exact ⟨_, _, h1, h2, hs, .inr ⟨_, _, rfl⟩⟩
  obtain ⟨d, i, h1, h2, h3, h4⟩ := hag
  have hl' : (loadCells ⟨b, off, none⟩ i.size).run P w = .ok vs.toArray w := by
    rw [h3]; simpa [loadCells] using hl
  rcases h4 with ⟨f, rfl⟩ | ⟨n, e, rfl⟩ <;>
    simp [loadVar, isAgg, underlying, sizeOf, typeInfo, h1, h2, hl']

theorem run_loadVar_one {P : Program} {w : World} {t b off n : Nat} {v : Value} (hs : loadShape P t = some (false, n)) (hc : CellsG w.heap b off [v]) :
    (loadVar t ⟨b, off, none⟩).run P w = .ok v w := by
  have hcell := hc.cell (i := 0) (by simp)
  simp at hcell
  unfold loadShape at hs
  split at hs <;> simp at hs
  rename_i d i hn1 hn2 h1 h2
  cases d <;> first
    | (exact (hn1 _ rfl).elim) | (exact (hn2 _ _ rfl).elim)
    | (simp [loadVar, isAgg, underlying, h1, hcell])

/-- What a binary operation yields, whatever the world. -/
def BinIs (P : Program) (op : BinOp) (t : TypeId) (x y : Operand) (a b v : Value) : Prop :=
  ∀ w, ((do eqGuard op t x y a b; binOp op t a b) : Sem Value).run P w = .ok v w

/-- What a lookup in the map r yields where it holds es. -/
def LookIs (P : Program) (t : TypeId) (r : Nat) (es : Array MapEntry) (c : Nat) (key : Value) (ok : Bool) (v : Value) : Prop :=
  ∀ w : World, w.heap[r]? = some (.map es c) → (Instr.lookup t (.map (some r)) key ok).run P w = .ok v w

def SliceIs (P : Program) (t : TypeId) (x : Value) (lo hi mx : Option Value) (v : Value) : Prop :=
  ∀ w, (Instr.sliceAt t x lo hi mx).run P w = .ok v w

def IndexIs (P : Program) (t : TypeId) (x ix : Value) (v : Value) : Prop :=
  ∀ w, (Instr.index t x ix).run P w = .ok v w

def BuildIs (P : Program) (t : TypeId) (ps : Array (Nat × Value)) (v : Value) : Prop :=
  ∀ w, (Instr.build t ps).run P w = .ok v w

/-- What the operation that only reads comes to. -/
def flVC (P : Program) (r : Nat) (ks : List Nat) (o : Oper) (ρ : Operand → Value) (h : Heap) (K : Value → Option Fact → Prop) : Prop :=
  match r with
  | 0 => match pureRun P (execOp ρ o) with
    | some (.value v) => K v none
    | _ => False
  | 1 => match o.op with
    | .load t a => match ρ a, loadShape P t with
      | .pointer (some ⟨b, off, none⟩), some (true, n) => match decide (n = ks.length) with
        | true => kvs ks fun vs => Cells h b off vs ∧ K (.agg vs.toArray) (some ⟨b, off, vs, none, none⟩)
        | false => False
      | .pointer (some ⟨b, off, none⟩), some (false, _) => match ks with
        | [k] => kv k fun v => Cells h b off [v] ∧ K v (some ⟨b, off, [v], none, none⟩)
        | _ => False
      | _, _ => False
    | _ => False
  | 2 => match o.op with
    | .nilCheck x => match ρ x with
      | .pointer p => ∃ b off, p = some ⟨b, off, none⟩ ∧ K (.pointer (some ⟨b, off, none⟩)) none
      | _ => False
    | _ => False
  | 3 => match o.op with
    | .indexAddr t x ix => match ρ x, ρ ix, P.underlying t with
      | .slice p n _, .int _ i, some (.slice e) => match P.info? e with
        | some inf => ∃ b off, p = some ⟨b, off, none⟩ ∧ 0 ≤ i ∧ i < n ∧ K (.pointer (some ⟨b, off + i.toNat * inf.size, none⟩)) none
        | none => False
      | _, _, _ => False
    | _ => False
  | 4 => match o.op with
    | .indexAddr t x ix => match ρ x, ρ ix, P.underlying t with
      | .pointer (some ⟨b, off, none⟩), .int _ i, some (.array len e) => match P.info? e with
        | some inf => 0 ≤ i ∧ i < len ∧ K (.pointer (some ⟨b, off + i.toNat * inf.size, none⟩)) none
        | none => False
      | _, _, _ => False
    | _ => False
  | 6 => match o.op with
    | .binOp op t x y _ => exShape ks fun v => BinIs P op t x y (ρ x) (ρ y) v ∧ K v none
    | _ => False
  | 7 => match o.op with
    | .lookup t x ix ok => match ρ x with
      | .map m => ∃ r es c, m = some r ∧ h r = some (.map es c) ∧ exShape ks fun v => LookIs P t r es c (ρ ix) ok v ∧ K v (some ⟨r, 0, [], some (es, c), none⟩)
      | _ => False
    | _ => False
  | 8 => match o.op with
    | .slice t x lo hi mx => exShape ks fun v => SliceIs P t (ρ x) (lo.map ρ) (hi.map ρ) (mx.map ρ) v ∧ K v none
    | _ => False
  | 9 => match o.op with
    | .index t x ix => exShape ks fun v => IndexIs P t (ρ x) (ρ ix) v ∧ K v none
    | _ => False
  | 10 => match o.op with
    | .build t ps => exShape ks fun v => BuildIs P t (ps.map fun (i, x) => (i, ρ x)) v ∧ K v none
    | _ => False
  | _ => False

def optSem (f : Option Fact) (loc : Loc) (h : Heap) : Prop :=
  match f with
  | none => True
  | some x => x.sem loc h

theorem flVC_sound {P : Program} {r : Nat} {ks : List Nat} {o : Oper} {ρ : Operand → Value} {h : Heap} {K : Value → Option Fact → Prop}
    (H : flVC P r ks o ρ h K) : ∃ v f, K v f ∧ (∀ loc, optSem f loc h) ∧ Floats P o ρ (optSem f) v := by
  unfold flVC at H
  split at H
  · split at H
    · rename_i v hv
      exact ⟨v, none, H, fun _ => trivial, fun _ _ w _ _ _ => pureRun_sound hv w⟩
    · exact H.elim
  · split at H
    · rename_i t a ho
      split at H
      · rename_i b off n ha hsh
        split at H
        · rename_i hn
          obtain ⟨vs, hl, hc, hk⟩ := kvs_sound H
          refine ⟨_, _, hk, fun _ => hc, fun _ _ w hw hs _ => ?_⟩
          have hn' : n = ks.length := by simpa using hn
          have := run_loadVar_agg (P := P) (w := w) (t := t) (b := b) (off := off) (vs := vs) (by rw [hsh, hn', hl]) (Cells.g hw hs)
          simp [execOp, ho, ha, Instr.loadAt, Instr.sureAddr, this]
        · exact H.elim
      · rename_i b off n ha hsh
        split at H
        · obtain ⟨v, hc, hk⟩ := kv_sound H
          refine ⟨_, _, hk, fun _ => hc, fun _ _ w hw hs _ => ?_⟩
          have := run_loadVar_one (P := P) (w := w) hsh (Cells.g hw hs)
          simp [execOp, ho, ha, Instr.loadAt, Instr.sureAddr, this]
        · exact H.elim
      · exact H.elim
    · exact H.elim
  · split at H
    · rename_i x ho
      split at H
      · rename_i q hx
        obtain ⟨b, off, rfl, hk⟩ := H
        exact ⟨_, _, hk, fun _ => trivial, fun _ _ w _ _ _ => by simp [execOp, ho, hx]⟩
      · exact H.elim
    · exact H.elim
  · split at H
    · rename_i t x ix ho
      split at H
      · rename_i q n c kd i e hx hi hu
        split at H
        · rename_i inf hinf
          obtain ⟨b, off, rfl, h0, h1, hk⟩ := H
          refine ⟨_, _, hk, fun _ => trivial, fun _ _ w _ _ _ => ?_⟩
          simp [execOp, ho, hx, hi, Instr.indexAt, asIntOf, underlying, hu, h0, h1, sizeOf, typeInfo, hinf, addr_add]
        · exact H.elim
      · exact H.elim
    · exact H.elim
  · split at H
    · rename_i t x ix ho
      split at H
      · rename_i b off kd i len e hx hi hu
        split at H
        · rename_i inf hinf
          obtain ⟨h0, h1, hk⟩ := H
          refine ⟨_, _, hk, fun _ => trivial, fun _ _ w _ _ _ => ?_⟩
          simp [execOp, ho, hx, hi, Instr.indexAt, Instr.sureAddr, asIntOf, underlying, hu, h0, h1, sizeOf, typeInfo, hinf, addr_add]
        · exact H.elim
      · exact H.elim
    · exact H.elim
  · split at H
    · rename_i op t x y yt ho
      obtain ⟨v, hb, hk⟩ := exShape_sound H
      refine ⟨_, _, hk, fun _ => trivial, fun _ _ w _ _ _ => ?_⟩
      have := hb w
      simp only [execOp, ho]
      rw [Sem.run_bind, this]
      rfl
    · exact H.elim
  · split at H
    · rename_i t x ix ok ho
      split at H
      · rename_i m hx
        obtain ⟨r, es, c, rfl, hm, H⟩ := H
        obtain ⟨v, hv, hk⟩ := exShape_sound H
        refine ⟨_, _, hk, fun _ => hm, fun _ _ w hw hs _ => ?_⟩
        have := hv w (hs _ _ hw)
        simp only [execOp, ho, hx]
        rw [Sem.run_bind, this]
        rfl
      · exact H.elim
    · exact H.elim
  · split at H
    · rename_i t x lo hi mx ho
      obtain ⟨v, hb, hk⟩ := exShape_sound H
      refine ⟨_, _, hk, fun _ => trivial, fun _ _ w _ _ _ => ?_⟩
      have := hb w
      simp only [execOp, ho]
      rw [Sem.run_bind, this]
      rfl
    · exact H.elim
  · split at H
    · rename_i t x ix ho
      obtain ⟨v, hb, hk⟩ := exShape_sound H
      refine ⟨_, _, hk, fun _ => trivial, fun _ _ w _ _ _ => ?_⟩
      have := hb w
      simp only [execOp, ho]
      rw [Sem.run_bind, this]
      rfl
    · exact H.elim
  · split at H
    · rename_i t ps ho
      obtain ⟨v, hb, hk⟩ := exShape_sound H
      refine ⟨_, _, hk, fun _ => trivial, fun _ _ w _ _ _ => ?_⟩
      have := hb w
      simp only [execOp, ho]
      rw [Sem.run_bind, this]
      rfl
    · exact H.elim
  · exact H.elim

/-- What a run in the model's own words does to what is known. -/
def SemOk {α : Type} (P : Program) (s : Sem α) (H : Heap) (K : α → Heap → Prop) : Prop :=
  ∀ w : World, Sat H w.heap →
    match s.run P w with
    | .ok v w' => ∃ H', Str w w' ∧ Sat H' w'.heap ∧ Fr H w.heap H' w'.heap ∧ K v H'
    | .halt _ _ => False

theorem SemOk.mono {α : Type} {P : Program} {s : Sem α} {H : Heap} {K K' : α → Heap → Prop} (h : SemOk P s H K)
    (hk : ∀ v h', K v h' → K' v h') : SemOk P s H K' := by
  intro w hw
  have := h w hw
  revert this
  cases s.run P w with
  | ok v w' => exact fun ⟨H', a, b, c, d⟩ => ⟨H', a, b, c, hk _ _ d⟩
  | halt _ _ => exact fun h => h

/-- Each value is one cell; of the places in ks it is asked. -/
def ones (vs : List Value) (i : Nat) (ks : List Nat) (X : Prop) : Prop :=
  match vs with
  | [] => X
  | v :: r => match ks.contains i with
    | true => v.oneCell' = true ∧ ones r (i + 1) ks X
    | false => match v.oneCell' with
      | true => ones r (i + 1) ks X
      | false => False

theorem ones_sound : ∀ {vs : List Value} {i : Nat} {ks : List Nat} {X : Prop}, ones vs i ks X → (∀ v ∈ vs, v.oneCell' = true) ∧ X
  | [], _, _, _, H => ⟨fun _ h => (by cases h), H⟩
  | v :: r, i, ks, X, H => by
    unfold ones at H
    split at H
    · obtain ⟨h1, h2⟩ := H
      obtain ⟨h3, h4⟩ := ones_sound h2
      exact ⟨fun x hx => by cases hx with | head => exact h1 | tail _ hm => exact h3 x hm, h4⟩
    · split at H
      · rename_i h1
        obtain ⟨h3, h4⟩ := ones_sound H
        exact ⟨fun x hx => by cases hx with | head => exact h1 | tail _ hm => exact h3 x hm, h4⟩
      · exact H.elim

def semOf (o : Oper) (ρ : Operand → Value) : Option (Sem Value) :=
  match o.op with
  | .makeSlice t l c => some (Instr.makeSlice t (ρ l) (ρ c))
  | .lookup t x ix ok => some (Instr.lookup t (ρ x) (ρ ix) ok)
  | .mapEntry t m k => some (Instr.mapEntry t (ρ m) (ρ k))
  | .range t x => some (Instr.range t (ρ x))
  | .next it s => some (Instr.next (ρ it) s o.type)
  | .entry it => some (Instr.entry (ρ it))
  | .convert a b x => some (convert a b (ρ x))
  | .binOp op t x y _ => some (do eqGuard op t x y (ρ x) (ρ y); binOp op t (ρ x) (ρ y))
  | .call { callee := .builtin .append, args, argTypes } => some (Builtin.append_ argTypes o.type (args.map ρ))
  | .call { callee := .builtin .copy, args, argTypes } => some (Builtin.copy_ argTypes o.type (args.map ρ))
  | .call { callee := .builtin .clear, args, argTypes } => some (Builtin.clear_ argTypes o.type (args.map ρ))
  | .call { callee := .builtin .delete, args, argTypes } => some (Builtin.delete_ argTypes o.type (args.map ρ))
  | .call { callee := .builtin .len, args, argTypes } => some (Builtin.len_ argTypes o.type (args.map ρ))
  | _ => none

/-- A call of a function that has no body, by its value. -/
def extSem (g : FuncId) (args : Array Value) : Sem Value := do
  match ← callFunc g args with
  | .value v => pure v
  | _ => stuck "extSem"

def semUOf (o : Oper) (ρ : Operand → Value) : Option (Sem Unit) :=
  match o.op with
  | .mapUpdate t m k x => some (Instr.mapUpdate t (ρ m) (ρ k) (ρ x))
  | .insert t m k x => some (Instr.mapUpdate t (ρ m) (ρ k) (ρ x))
  | .entryStore t m k x => some (Instr.entryStore t (ρ m) (ρ k) (ρ x))
  | _ => none

/-- The function that a method's name means at a type whose method set holds it without a path. -/
def methOf (P : Program) (t : TypeId) (name : String) : Option FuncId :=
  match P.info? t, P.underlying t with
  | some i, some u => match i.methods.find? (·.name == name) with
    | some m => match m.path.toList, m.func, u with
      | [], some (f, true), .pointer _ => some f
      | [], some (f, false), .func _ _ _ => some f
      | [], some (f, false), .struct _ => some f
      | _, _, _ => none
    | none => none
  | _, _ => none

/-- What the operation that acts comes to. -/
def effVC (P : Program) (r : Nat) (ks : List Nat) (o : Oper) (ρ : Operand → Value) (h : Heap) (K : Value → Heap → Prop) : Prop :=
  match r with
  | 20 => match allocRun P (execOp ρ o) with
    | some (obj, k) => ∀ b h', Al h obj b h' → match pureRun P (k b) with
      | some (.value v) => K v h'
      | _ => False
    | none => False
  | 21 => match o.op with
    | .store t a x => match ρ a, P.info? t with
      | .pointer (some ⟨b, off, none⟩), some inf => match decide (inf.size = (ρ x).cells.toList.length) with
        | true => ones (ρ x).cells.toList 0 ks (∃ c T, h b = some (.cells c T (0, 0)) ∧ off + (ρ x).cells.toList.length ≤ c.size ∧
            ∀ h', Wr h b (.cells (setAll c off (ρ x).cells.toList) T (0, 0)) h' → K undef h')
        | false => False
      | _, _ => False
    | _ => False
  | 22 => match o.op with
    | .call { callee := .value f, args, argTypes := _ } => match ρ f with
      | .func (.func g) first captured => HT P g ((first ++ args.map ρ) ++ captured).toList h fun v h' => shaped ks v fun v' => K v' h'
      | _ => False
    | .call { callee := .invoke recv name, args, argTypes := _ } => match ρ recv with
      | .iface t x => match methOf P t name with
        | some g => HT P g (#[x] ++ args.map ρ).toList h fun v h' => shaped ks v fun v' => K v' h'
        | none => False
      | _ => False
    | _ => False
  | 23 => match semOf o ρ with
    | some s => SemOk P s h fun v h' => shaped ks v fun v' => K v' h'
    | none => False
  | 24 => match semUOf o ρ with
    | some s => SemOk P s h fun _ h' => K undef h'
    | none => False
  | 25 => match o.op with
    | .call { callee := .value f, args, argTypes := _ } => match ρ f with
      | .func (.func g) first captured => SemOk P (extSem g ((first ++ args.map ρ) ++ captured)) h fun v h' => shaped ks v fun v' => K v' h'
      | _ => False
    | _ => False
  | _ => False

end Go.Eng
