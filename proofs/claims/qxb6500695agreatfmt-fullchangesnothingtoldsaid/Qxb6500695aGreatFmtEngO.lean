/-
  THE WORLD, PART A: who owns which block (a ghost), and what turns.
-/
import Derived.Test.Qxb6500695aGreatFmtEngN
namespace Go.Eng
open Go
set_option maxRecDepth 100000
set_option linter.unusedVariables false
set_option linter.unusedSimpArgs false

/-- append(s, x) where x lies in a new block of its own. -/
theorem semOk_append1x {α : Type} {P : Program} {t T ty : TypeId} {inf : TypeInfo} {zero : Value} {p : Option Addr} {n c b : Nat} {xs : List α} {x : α} {enc : α → List Value} {H0 H H1 : Heap} {K : Value → Heap → Prop}
    (ht : P.underlying t = some (.slice T)) (hi : P.info? T = some inf) (hz : inf.zero = some zero) (hzs : zero.cells.size = inf.size) (hby : inf.bytes ≤ 4096)
    (hs : OwnL H T inf.size enc p n c xs) (hx : Cells H1 b 0 (enc x)) (hsub : Sub H H1) (h1 : ∀ v ∈ enc x, v.oneCell' = true) (hn : n < 2 ^ 34)
    (h0 : Sub H0 H1) (hnew : New H0 p)
    (h3 : ∀ p' c' H', Sub H0 H' → New H0 p' → OwnL H' T inf.size enc p' (n + 1) c' (xs ++ [x]) → (∀ b' o', H1 b' = some o' → (∀ a, p = some a → a.block ≠ b') → H' b' = some o') → (∀ b', H1 b' ≠ none → H' b' ≠ none) → K (.slice p' (n + 1) c') H') :
    SemOk P (Builtin.append_ #[t, t] ty #[.slice p n c, .slice (some ⟨b, 0, none⟩) 1 1]) H1 K := by
  have hxl := hs.size x
  have hs' := hs.sub hsub
  refine semOk_append (xs := xs.flatMap enc) (ys := enc x) ht hi hz hs'.own ⟨b, 0, rfl, hx⟩ (by rw [hxl]; omega) h1 ?_ (by omega) ?_ ?_ (by omega)
  · have : 2 * (n + 1) * inf.bytes ≤ 2 * (n + 1) * 4096 := Nat.mul_le_mul_left _ hby
    have : 2 * (n + 1) ≤ 2 ^ 36 := by omega
    have h4 : 2 * (n + 1) * 4096 ≤ 2 ^ 36 * 4096 := Nat.mul_le_mul_right _ this
    have : (2 : Nat) ^ 36 * 4096 = 2 ^ 48 := by decide
    omega
  · intro b' o arr H' hp hb hsz hfit hw
    refine h3 p c H' ?_ hnew ⟨by simp [hs.len], hs.size, ?_⟩ ?_ (fun x hx => by
      by_cases hxb : x = b'
      · subst hxb; rw [hw.same]; simp
      · rw [hw.other hxb]; exact hx)
    · refine h0.wr hw ?_
      have := hnew _ hp
      exact this
    · refine .inr ⟨b', o, _, hp, hw.same, hfit, ?_, ?_⟩
      · rw [setAll_size]
        rcases hs'.own with ⟨h9, _⟩ | ⟨b2, o2, arr2, hp2, hb2, _, h10, _⟩
        · rw [hp] at h9; cases h9
        · rw [hp] at hp2
          simp at hp2
          obtain ⟨rfl, rfl⟩ := hp2
          rw [hb] at hb2
          simp at hb2
          rw [hb2]; exact h10
      · have hrow : xs.flatMap enc = (arr.toList.drop o).take (n * inf.size) := by
          rcases hs'.own with ⟨h9, _⟩ | ⟨b2, o2, arr2, hp2, hb2, _, _, h11⟩
          · rw [hp] at h9; cases h9
          · rw [hp] at hp2
            simp at hp2
            obtain ⟨rfl, rfl⟩ := hp2
            rw [hb] at hb2
            simp at hb2
            rw [hb2]; exact h11
        have := row_append (arr := arr) (o := o) (k := n * inf.size) (ys := enc x) (by rw [hxl]; rw [Nat.add_mul] at hsz; omega)
        rw [hxl] at this
        rw [Nat.add_mul, Nat.one_mul, this, ← hrow]
        simp
    · intro b2 o2 hb2 hne
      refine hw.keep hb2 ?_
      have := hne _ hp
      exact Ne.symm this
  · intro c' b' H' hc' ha
    refine h3 _ c' H' (h0.al ha) ?_ ⟨by simp [hs.len], hs.size, ?_⟩ (fun b2 o2 hb2 _ => ha.keep hb2) (fun x hx => by
      cases hc : H1 x with
      | none => exact absurd hc hx
      | some o => rw [ha.keep hc]; simp)
    · intro a hab
      simp at hab
      subst hab
      cases hc : H0 b' with
      | none => rfl
      | some y => have := h0 _ _ hc; rw [ha.fresh] at this; cases this
    · refine .inr ⟨b', 0, _, rfl, ha.same, hc', ?_, ?_⟩
      · have hl : (xs.flatMap enc ++ enc x).length = (n + 1) * inf.size := by
          rw [List.length_append, flat_len hs.size, hxl, hs.len, Nat.add_mul, Nat.one_mul]
        simp only [Nat.zero_add, Array.size_append, List.size_toArray, zeroCells_eq, hl, hzs]
        rw [← Nat.add_mul, show n + 1 + (c' - (n + 1)) = c' by omega]
        exact Nat.le_refl _
      · have hl : (xs.flatMap enc ++ enc x).length = (n + 1) * inf.size := by
          rw [List.length_append, flat_len hs.size, hxl, hs.len, Nat.add_mul, Nat.one_mul]
        rw [List.drop_zero, Array.toList_append]
        simp only [List.flatMap_append, List.flatMap_cons, List.flatMap_nil, List.append_nil]
        rw [List.take_append_of_le_length (by rw [hl]; exact Nat.le_refl _), List.take_of_length_le (by rw [hl]; exact Nat.le_refl _)]

/-- The heap without the array of a slice. -/
def minus (H : Heap) (p : Option Addr) : Heap := fun b' => match p with
  | some a => if a.block = b' then none else H b'
  | none => H b'

theorem minus_sub (H : Heap) (p : Option Addr) : Sub (minus H p) H := by
  intro b' o' hb
  unfold minus at hb
  cases p with
  | none => exact hb
  | some a =>
    simp only at hb
    split at hb
    · cases hb
    · exact hb

theorem minus_new (H : Heap) (p : Option Addr) : New (minus H p) p := by
  intro a hp
  subst hp
  simp [minus]

theorem minus_none {H : Heap} {p : Option Addr} {b : Nat} (h : minus H p b = none) : (∃ a, p = some a ∧ a.block = b) ∨ H b = none := by
  unfold minus at h
  cases p with
  | none => exact .inr h
  | some a =>
    simp only at h
    by_cases he : a.block = b
    · exact .inl ⟨a, rfl, he⟩
    · rw [if_neg he] at h; exact .inr h

/-- The ghost: of what kind a block is, and of which timeline. -/
abbrev Gh := Nat → Option (Nat × Int)

def GOk (H : Heap) (g : Gh) : Prop := ∀ b tg, g b = some tg → H b ≠ none

/-- Only blocks with tags in S turn; tags stay. -/
structure Ev (S : Nat × Int → Prop) (H : Heap) (g : Gh) (H' : Heap) (g' : Gh) : Prop where
  ok : GOk H' g'
  tag : ∀ b tg, g b = some tg → g' b = some tg
  keep : ∀ b tg, g b = some tg → ¬ S tg → H' b = H b

def gset (g : Gh) (b : Nat) (tg : Nat × Int) : Gh := fun x => if x = b then some tg else g x

section
variable {S S' : Nat × Int → Prop} {H H' H'' : Heap} {g g' g'' : Gh}

theorem Ev.refl (h : GOk H g) : Ev S H g H g := ⟨h, fun _ _ h => h, fun _ _ _ _ => rfl⟩

theorem Ev.trans (h : Ev S H g H' g') (k : Ev S H' g' H'' g'') : Ev S H g H'' g'' :=
  ⟨k.ok, fun b tg hb => k.tag b tg (h.tag b tg hb), fun b tg hb hs => (k.keep b tg (h.tag b tg hb) hs).trans (h.keep b tg hb hs)⟩

theorem Ev.mono (h : Ev S H g H' g') (hs : ∀ tg, S tg → S' tg) : Ev S' H g H' g' :=
  ⟨h.ok, h.tag, fun b tg hb hn => h.keep b tg hb fun h' => hn (hs tg h')⟩

theorem Ev.sub (h : GOk H g) (hs : Sub H H') : Ev S H g H' g := by
  refine ⟨fun b tg hb => ?_, fun _ _ h => h, fun b tg hb _ => ?_⟩
  · cases hc : H b with
    | none => exact absurd hc (h b tg hb)
    | some o => rw [hs _ _ hc]; simp
  · cases hc : H b with
    | none => exact absurd hc (h b tg hb)
    | some o => rw [hs _ _ hc]

/-- A new block, tagged. -/
theorem Ev.al (h : GOk H g) {o : Obj} {b : Nat} (ha : Al H o b H') (tg : Nat × Int) : Ev S H g H' (gset g b tg) ∧ gset g b tg b = some tg := by
  have hne : ∀ x t, g x = some t → x ≠ b := by
    intro x t hx he
    subst he
    exact h x t hx ha.fresh
  refine ⟨⟨fun x t hx => ?_, fun x t hx => ?_, fun x t hx _ => ?_⟩, by simp [gset]⟩
  · unfold gset at hx
    by_cases he : x = b
    · subst he; rw [ha.same]; simp
    · rw [if_neg he] at hx
      cases hc : H x with
      | none => exact absurd hc (h x t hx)
      | some o => rw [ha.keep hc]; simp
  · unfold gset; rw [if_neg (hne x t hx)]; exact hx
  · cases hc : H x with
    | none => exact absurd hc (h x t hx)
    | some o => rw [ha.keep hc]

theorem Ev.wr (h : GOk H g) {o : Obj} {b : Nat} (hw : Wr H b o H') (hs : ∀ tg, g b = some tg → S tg) : Ev S H g H' g := by
  refine ⟨fun x t hx => ?_, fun _ _ h => h, fun x t hx hn => ?_⟩
  · by_cases he : x = b
    · subst he; rw [hw.same]; simp
    · rw [hw.other he]; exact h x t hx
  · refine hw.other fun he => ?_
    subst he
    exact hn (hs t hx)

/-- What is read of a tagged block stands. -/
theorem Ev.get (h : Ev S H g H' g') {b : Nat} {o : Obj} {tg : Nat × Int} (hb : g b = some tg) (hn : ¬ S tg) (ho : H b = some o) : H' b = some o := by
  rw [h.keep b tg hb hn]; exact ho

end

/-- A list that is owned, its array tagged. -/
structure OwnT {α : Type} (H : Heap) (g : Gh) (tg : Nat × Int) (T sz : Nat) (enc : α → List Value) (p : Option Addr) (n c : Nat) (xs : List α) : Prop where
  own : OwnL H T sz enc p n c xs
  tag : ∀ a, p = some a → g a.block = some tg

section
variable {α : Type} {S : Nat × Int → Prop} {H H' : Heap} {g g' : Gh} {tg : Nat × Int} {T sz : Nat} {enc : α → List Value} {p : Option Addr} {n c : Nat} {xs : List α}

theorem OwnT.ev (h : OwnT H g tg T sz enc p n c xs) (he : Ev S H g H' g') (hn : ¬ S tg) : OwnT H' g' tg T sz enc p n c xs :=
  ⟨h.own.keep fun a ha => he.keep _ _ (h.tag a ha) hn, fun a ha => he.tag _ _ (h.tag a ha)⟩

theorem OwnT.sub (h : OwnT H g tg T sz enc p n c xs) (hs : Sub H H') : OwnT H' g tg T sz enc p n c xs :=
  ⟨h.own.sub hs, h.tag⟩

theorem OwnT.nil (hs : ∀ x, (enc x).length = sz) : OwnT H g tg T sz enc none 0 0 [] := ⟨OwnL.nil hs, fun _ h => by cases h⟩

/-- append of one to a list that is owned and tagged. -/
theorem appT {P : Program} {t ty : TypeId} {inf : TypeInfo} {zero : Value} {b : Nat} {x : α} {arr : Array Value} {H1 : Heap} {K : Value → Heap → Prop}
    (ht : P.underlying t = some (.slice T)) (hi : P.info? T = some inf) (hz : inf.zero = some zero) (hzs : zero.cells.size = inf.size) (hby : inf.bytes ≤ 4096) (hsz : inf.size = sz)
    (ha : Al H (.cells arr T (0, 0)) b H1) (harr : arr.toList = enc x) (h1 : ∀ v ∈ enc x, v.oneCell' = true)
    (hg : GOk H g) (hs : OwnT H g tg T sz enc p n c xs) (hS : S tg) (hn : n < 2 ^ 34)
    (h3 : ∀ p' c' H' g', p' ≠ none → Ev S H g H' g' → OwnT H' g' tg T sz enc p' (n + 1) c' (xs ++ [x]) → (∀ b' o', H b' = some o' → (∀ a, p = some a → a.block ≠ b') → H' b' = some o') → K (.slice p' (n + 1) c') H') :
    SemOk P (Builtin.append_ #[t, t] ty #[.slice p n c, .slice (some ⟨b, 0, none⟩) 1 1]) H1 K := by
  subst hsz
  have hx1 : Cells H1 b 0 (enc x) := by
    refine Cells.of ha.same ?_
    rw [harr, List.drop_zero, List.take_of_length_le (Nat.le_refl _)]
  refine semOk_append1x ht hi hz hzs hby hs.own hx1 ha.sub h1 hn ((minus_sub H p).al ha) (minus_new H p) fun p' c' H' a1 a2 a3 a4 a5 => ?_
  obtain ⟨b', o', hp'⟩ := a3.isSome (by simp)
  have hcase := minus_none (a2 _ hp')
  have hb' : H' b' ≠ none := by
    rcases a3.own with ⟨h6, _⟩ | ⟨b2, o2, arr2, h6, h7, _⟩
    · rw [hp'] at h6; cases h6
    · rw [hp'] at h6; simp at h6; rw [h6.1, h7]; simp
  have hkeep : ∀ x t, g x = some t → (∀ a, p = some a → a.block ≠ x) → H' x = H x := by
    intro x t hx hne
    cases hc : H x with
    | none => exact absurd hc (hg x t hx)
    | some o => exact a4 x o (ha.keep hc) hne
  refine h3 p' c' H' (gset g b' tg) (by rw [hp']; simp) ⟨?_, ?_, ?_⟩ ⟨a3, ?_⟩ fun b2 o2 hb2 hne => a4 b2 o2 (ha.keep hb2) hne
  · intro x t hx
    unfold gset at hx
    by_cases he : x = b'
    · subst he; exact hb'
    · rw [if_neg he] at hx
      refine a5 x ?_
      cases hc : H x with
      | none => exact absurd hc (hg x t hx)
      | some o => rw [ha.keep hc]; simp
  · intro x t hx
    unfold gset
    by_cases he : x = b'
    · subst he
      rw [if_pos rfl]
      rcases hcase with ⟨a, ha1, ha2⟩ | hnone
      · rw [← hs.tag a ha1, ha2, hx]
      · exact absurd hnone (hg x t hx)
    · rw [if_neg he]; exact hx
  · intro x t hx hnS
    refine hkeep x t hx fun a ha1 ha2 => hnS ?_
    have := hs.tag a ha1
    rw [ha2, hx] at this
    cases this
    exact hS
  · intro a ha1
    rw [hp'] at ha1
    cases ha1
    simp [gset]

end

end Go.Eng
