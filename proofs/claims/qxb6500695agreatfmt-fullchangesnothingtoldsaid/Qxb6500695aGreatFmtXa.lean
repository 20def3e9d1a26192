/-
  THE PLANE, PART A: words; durable, latest, firstSpan, blank.
-/
import Derived.Test.Qxb6500695aGreatFmtEngO
import Derived.Test.Qxb6500695aGreatFmtVa
import Derived.Test.Qxb6500695aGreatFmtVd
import Derived.Test.Qxb6500695aGreatFmtVe
namespace Go.Proofs.Qxb6500695aGreatFmt
open Go Go.Eng Go.Proofs
set_option maxRecDepth 100000
set_option linter.unusedVariables false
set_option linter.unusedSimpArgs false
set_option linter.unusedSectionVars false

/-- A list as it is read. -/
structure ReadL {α : Type} (H : Heap) (sz : Nat) (enc : α → List Value) (p : Option Addr) (n : Nat) (xs : List α) : Prop where
  len : n = xs.length
  cells : ∀ i (hi : i < xs.length), ∃ b o, p = some ⟨b, o, none⟩ ∧ Cells H b (o + i * sz) (enc xs[i])

theorem ReadL.sub {α : Type} {H H' : Heap} {sz : Nat} {enc : α → List Value} {p : Option Addr} {n : Nat} {xs : List α} (h : ReadL H sz enc p n xs) (hs : Sub H H') : ReadL H' sz enc p n xs :=
  ⟨h.len, fun i hi => let ⟨b, o, h1, h2⟩ := h.cells i hi; ⟨b, o, h1, hs.cells h2⟩⟩

theorem ReadL.of {α : Type} {H : Heap} {T sz : Nat} {enc : α → List Value} {p : Option Addr} {n c : Nat} {xs : List α} (h : OwnL H T sz enc p n c xs) : ReadL H sz enc p n xs :=
  ⟨h.len, fun _ hi => h.cells hi⟩

def U8.cs (x : Int) : List Value := [.int .u8 x]
theorem U8.size (x : Int) : (U8.cs x).length = 1 := rfl

/-- A slice of bytes, by its header. -/
structure Sec where
  p : Option Addr
  n : Nat
  c : Nat

def Sec.val (s : Sec) : Value := .slice s.p s.n s.c
def Sec.cs (s : Sec) : List Value := [s.val]
theorem Sec.size (s : Sec) : (Sec.cs s).length = 1 := rfl
def Sec.nil : Sec := ⟨none, 0, 0⟩

theorem wrapS {i : Nat} (h : i < 4611686018427387904) : IntKind.wrap .i64 ((i : Int) + 1) = ((i + 1 : Nat) : Int) := by
  simp only [IntKind.wrap, IntKind.bits, IntKind.signed]
  simp
  omega

theorem wrapI {x : Int} (h1 : -9223372036854775808 ≤ x) (h2 : x < 9223372036854775808) : IntKind.wrap .i64 x = x := by
  simp only [IntKind.wrap, IntKind.bits, IntKind.signed]
  simp
  omega

/-- A sector's value that is not nil: ss bytes in a row that nobody turns (tag 0). -/
structure SecOk (H : Heap) (g : Gh) (ss : Nat) (s : Sec) (bs : List Int) : Prop where
  n : s.n = ss
  c : ss ≤ s.c
  len : bs.length = ss
  row : ∃ b o arr, s.p = some ⟨b, o, none⟩ ∧ g b = some (0, 0) ∧ H b = some (.cells arr 5 (0, 0)) ∧ o + ss ≤ arr.size ∧ (arr.toList.drop o).take ss = bs.map (fun x => .int .u8 x)

/-- A sector's value: nil reads as zeros. -/
def SecV (H : Heap) (g : Gh) (ss : Nat) (s : Sec) (v : Option (List Int)) : Prop :=
  match v with
  | none => s = Sec.nil
  | some bs => SecOk H g ss s bs

theorem SecV.ev {S : Nat × Int → Prop} {H H' : Heap} {g g' : Gh} {ss : Nat} {s : Sec} {v : Option (List Int)} (h : SecV H g ss s v) (e : Ev S H g H' g') (hS : ¬ S (0, 0)) : SecV H' g' ss s v := by
  unfold SecV at *
  cases v with
  | none => exact h
  | some bs =>
    simp only at h ⊢
    obtain ⟨b, o, arr, h1, h2, h3, h4, h5⟩ := h.row
    exact ⟨h.n, h.c, h.len, b, o, arr, h1, e.tag _ _ h2, e.get h2 hS h3, h4, h5⟩

/-- Lists of sectors' values. -/
def Secs (H : Heap) (g : Gh) (ss : Nat) : List Sec → List (Option (List Int)) → Prop
  | [], [] => True
  | s :: r, v :: vs => SecV H g ss s v ∧ Secs H g ss r vs
  | _, _ => False

theorem Secs.ev {S : Nat × Int → Prop} {H H' : Heap} {g g' : Gh} {ss : Nat} (e : Ev S H g H' g') (hS : ¬ S (0, 0)) : ∀ {l : List Sec} {vs : List (Option (List Int))}, Secs H g ss l vs → Secs H' g' ss l vs
  | [], [], _ => trivial
  | _ :: _, _ :: _, h => ⟨h.1.ev e hS, h.2.ev e hS⟩
  | [], _ :: _, h => h.elim
  | _ :: _, [], h => h.elim

theorem Secs.len {H : Heap} {g : Gh} {ss : Nat} : ∀ {l : List Sec} {vs : List (Option (List Int))}, Secs H g ss l vs → l.length = vs.length
  | [], [], _ => rfl
  | _ :: _, _ :: _, h => by simp [Secs.len h.2]
  | [], _ :: _, h => h.elim
  | _ :: _, [], h => h.elim

theorem Secs.get {H : Heap} {g : Gh} {ss : Nat} : ∀ {l : List Sec} {vs : List (Option (List Int))} (h : Secs H g ss l vs) (i : Nat) (hi : i < l.length) (hv : i < vs.length), SecV H g ss l[i] vs[i]
  | [], _, _, i, hi, _ => absurd hi (by simp)
  | s :: r, v :: vs, h, 0, _, _ => h.1
  | s :: r, v :: vs, h, i + 1, hi, hv => by
    have := Secs.get h.2 i (by simpa using hi) (by simpa using hv)
    simpa using this
  | _ :: _, [], h, _, _, _ => h.elim

theorem Secs.snoc {H : Heap} {g : Gh} {ss : Nat} {s : Sec} {v : Option (List Int)} (hs : SecV H g ss s v) : ∀ {l : List Sec} {vs : List (Option (List Int))}, Secs H g ss l vs → Secs H g ss (l ++ [s]) (vs ++ [v])
  | [], [], _ => ⟨hs, trivial⟩
  | _ :: _, _ :: _, h => ⟨h.1, Secs.snoc hs h.2⟩
  | [], _ :: _, h => h.elim
  | _ :: _, [], h => h.elim

theorem Secs.set {H : Heap} {g : Gh} {ss : Nat} {s : Sec} {v : Option (List Int)} (hs : SecV H g ss s v) : ∀ {l : List Sec} {vs : List (Option (List Int))} (i : Nat), Secs H g ss l vs → Secs H g ss (l.set i s) (vs.set i v)
  | [], [], _, _ => trivial
  | _ :: _, _ :: _, 0, h => ⟨hs, h.2⟩
  | _ :: _, _ :: _, i + 1, h => ⟨h.1, Secs.set hs i h.2⟩
  | [], _ :: _, _, h => h.elim
  | _ :: _, [], _, h => h.elim

theorem Secs.take {H : Heap} {g : Gh} {ss : Nat} : ∀ {l : List Sec} {vs : List (Option (List Int))} (i : Nat), Secs H g ss l vs → Secs H g ss (l.take i) (vs.take i)
  | [], [], i, _ => by simp [Secs]
  | _ :: _, _ :: _, 0, _ => trivial
  | _ :: _, _ :: _, i + 1, h => ⟨h.1, Secs.take i h.2⟩
  | [], _ :: _, _, h => h.elim
  | _ :: _, [], _, h => h.elim

/-- A plane, as it is meant. -/
structure Pl where
  media : List (Option (List Int))
  cache : Int → List (Option (List Int))

/-- Its blocks: the plane (12), the media's array (13), the cache (14), the cache's arrays (100 + the sector), scratch (18), all of e. -/
def SpP (e : Int) (tg : Nat × Int) : Prop := tg.2 = e ∧ (tg.1 = 12 ∨ tg.1 = 13 ∨ tg.1 = 14 ∨ tg.1 = 18 ∨ 100 ≤ tg.1)

theorem SpP.zero {e : Int} : ¬ SpP e (0, 0) := fun h => by
  rcases h.2 with h | h | h | h | h <;> simp at h

/-- An entry of the cache. -/
def CacheE (H : Heap) (g : Gh) (e : Int) (ss ns bd : Nat) (en : MapEntry) (C : Int → List (Option (List Int))) : Prop :=
  0 ≤ keyN en.key ∧ keyN en.key < (ns : Int) ∧ (C (keyN en.key)).length ≤ bd ∧ 0 < (C (keyN en.key)).length ∧ (∀ v ∈ C (keyN en.key), v ≠ none) ∧ ∃ q n c l, en.val = .slice q n c ∧ OwnT H g (100 + (keyN en.key).toNat, e) 35 1 Sec.cs q n c l ∧ Secs H g ss l (C (keyN en.key))

/-- A plane as it lies. -/
structure PlOk (H : Heap) (g : Gh) (e : Int) (pb ss ns bd : Nat) (P : Pl) : Prop where
  ssb : 0 < ss ∧ ss ≤ 16
  nsb : ns ≤ 12
  tp : g pb = some (12, e)
  ex : ∃ mp mn mc r ml es ck, H pb = some (.cells #[.int .i64 (ss : Int), .slice mp mn mc, .map (some r)] 244 (0, 0)) ∧
    OwnT H g (13, e) 35 1 Sec.cs mp mn mc ml ∧ Secs H g ss ml P.media ∧ mn ≤ ns ∧
    g r = some (14, e) ∧ H r = some (.map es ck) ∧ MapOk .i64 es ck ∧ (∀ en ∈ es.toList, CacheE H g e ss ns bd en P.cache) ∧ (∀ i, iget es.toList i = none → P.cache i = [])

theorem CacheE.ev {S : Nat × Int → Prop} {H H' : Heap} {g g' : Gh} {e : Int} {ss ns bd : Nat} {en : MapEntry} {C : Int → List (Option (List Int))} (h : CacheE H g e ss ns bd en C) (ev : Ev S H g H' g') (h0 : ¬ S (0, 0)) (hS : ¬ S (100 + (keyN en.key).toNat, e)) : CacheE H' g' e ss ns bd en C := by
  obtain ⟨h1, h2, h3, h4, h5, q, n, c, l, h6, h7, h8⟩ := h
  exact ⟨h1, h2, h3, h4, h5, q, n, c, l, h6, h7.ev ev hS, h8.ev ev h0⟩

theorem PlOk.ev {S : Nat × Int → Prop} {H H' : Heap} {g g' : Gh} {e : Int} {pb ss ns bd : Nat} {P : Pl} (h : PlOk H g e pb ss ns bd P) (ev : Ev S H g H' g') (h0 : ¬ S (0, 0)) (hS : ∀ tg, SpP e tg → ¬ S tg) : PlOk H' g' e pb ss ns bd P := by
  obtain ⟨mp, mn, mc, r, ml, es, ck, h1, h2, h3, h4, h5, h6, h7, h8, h9⟩ := h.ex
  exact ⟨h.ssb, h.nsb, ev.tag _ _ h.tp, mp, mn, mc, r, ml, es, ck, ev.get h.tp (hS _ ⟨rfl, .inl rfl⟩) h1, h2.ev ev (hS _ ⟨rfl, .inr (.inl rfl)⟩), h3.ev ev h0, h4, ev.tag _ _ h5, ev.get h5 (hS _ ⟨rfl, .inr (.inr (.inl rfl))⟩) h6, h7, fun en hen => (h8 en hen).ev ev h0 (hS _ ⟨rfl, .inr (.inr (.inr (.inr (by simp))))⟩), h9⟩

theorem PlOk.mono {H : Heap} {g : Gh} {e : Int} {pb ss ns bd bd' : Nat} {P : Pl} (h : PlOk H g e pb ss ns bd P) (hb : bd ≤ bd') : PlOk H g e pb ss ns bd' P := by
  obtain ⟨mp, mn, mc, r, ml, es, ck, h1, h2, h3, h4, h5, h6, h7, h8, h9⟩ := h.ex
  refine ⟨h.ssb, h.nsb, h.tp, mp, mn, mc, r, ml, es, ck, h1, h2, h3, h4, h5, h6, h7, fun en hen => ?_, h9⟩
  obtain ⟨k1, k2, k3, k4⟩ := h8 en hen
  exact ⟨k1, k2, by omega, k4⟩

end Go.Proofs.Qxb6500695aGreatFmt
