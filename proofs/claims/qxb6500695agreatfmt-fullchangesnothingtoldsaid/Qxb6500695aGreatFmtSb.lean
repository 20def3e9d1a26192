/-
  THE STORE, PART B: words; find.
-/
import Derived.Test.Qxb6500695aGreatFmtSa
namespace Go.Proofs.Qxb6500695aGreatFmt
open Go Go.Eng Go.Proofs
set_option maxRecDepth 100000
set_option linter.unusedVariables false
set_option linter.unusedSimpArgs false
set_option linter.unusedSectionVars false

/-- The counters. -/
structure Q9 where
  a : Int
  b : Int
  c : Int
  d : Int
  e : Int
  f : Int
  g : Int
  h : Int
  i : Int

/-- The store's block. -/
abbrev stB (ss cap : Nat) (used : Int) (nxt : Nat) (db pwb : Nat) (q : Q9) : Obj :=
  .cells #[.int .i64 (ss : Int), .int .i64 (cap : Int), .int .i64 used, .int .u64 (nxt : Int), .pointer (some ⟨db, 0, none⟩), .pointer (some ⟨pwb, 0, none⟩), .int .u64 q.a, .int .u64 q.b, .int .u64 q.c, .int .u64 q.d, .int .u64 q.e, .int .u64 q.f, .int .u64 q.g, .int .u64 q.h, .int .u64 q.i] 138 (0, 0)

/-- A store, as it is meant. -/
structure StV where
  used : Int
  nxt : Nat
  m : NM
  xs : List ByteArray
  st : NM
  jr : List Jr
  T : List Nat
  O : Nat → Ob

/-- The owner of an object's blocks. -/
def zO (k id : Int) : Int := 3 * id + k

/-- A store as it lies. -/
structure StR (H : Heap) (g : Gh) (k : Int) (sb ss cap bd pwb : Nat) (s : StV) : Prop where
  tag : g sb = some (20, k)
  ex : ∃ db q, H sb = some (stB ss cap s.used s.nxt db pwb q) ∧ DirR H g k db s.m s.xs s.st s.jr
  obs : ∀ b ∈ s.T, ObS H g (zO k (s.O b).id) b ss cap bd (s.O b)

def oset (O : Nat → Ob) (b : Nat) (o : Ob) : Nat → Ob := fun x => if x = b then o else O x

/-- What a store's calls may turn. -/
def SpN (k : Int) (tg : Nat × Int) : Prop :=
  (20 ≤ tg.1 ∧ tg.1 ≤ 26 ∧ tg.2 = k) ∨ ((tg.1 = 11 ∨ tg.1 = 12 ∨ tg.1 = 13 ∨ tg.1 = 14 ∨ tg.1 = 16 ∨ tg.1 = 18 ∨ 100 ≤ tg.1) ∧ ∃ j : Int, 0 ≤ j ∧ tg.2 = zO k j) ∨ (30 ≤ tg.1 ∧ tg.1 ≤ 42)

section
variable {S : Nat × Int → Prop} {H H' : Heap} {g g' : Gh} {k : Int} {sb ss cap bd pwb : Nat} {s : StV} {E : Nat → Value}

theorem SpN.zero : ¬ SpN k (0, 0) := fun h => by
  rcases h with h | h | h
  · have := h.1; simp at this
  · have := h.1; simp at this
  · have := h.1; simp at this

theorem SpN.dir {tg : Nat × Int} (h : SpD k tg) : SpN k tg := .inl ⟨by have := h.2.1; omega, by have := h.2.2; omega, h.1⟩
theorem SpN.pw {tg : Nat × Int} (h : SpW k tg) : SpN k tg := .inl (by rw [h]; simp)
theorem SpN.st {tg : Nat × Int} (h : tg = (20, k)) : SpN k tg := .inl (by rw [h]; simp)
theorem SpN.obj {tg : Nat × Int} {id : Int} (h0 : 0 ≤ id) (h : SpO (zO k id) tg) : SpN k tg := by
  rcases h with h | h | h
  · rw [h]; exact .inr (.inl ⟨.inl rfl, ⟨id, h0, rfl⟩⟩)
  · rw [h]; exact .inr (.inl ⟨by simp, ⟨id, h0, rfl⟩⟩)
  · refine .inr (.inl ⟨?_, ⟨id, h0, h.1⟩⟩)
    rcases h.2 with h | h | h | h | h
    · exact .inr (.inl h)
    · exact .inr (.inr (.inl h))
    · exact .inr (.inr (.inr (.inl h)))
    · exact .inr (.inr (.inr (.inr (.inr (.inl h)))))
    · exact .inr (.inr (.inr (.inr (.inr (.inr h)))))
theorem SpN.pick {tg : Nat × Int} (h : Spk tg) : SpN k tg := .inr (.inr ⟨h.1, by have := h.2; omega⟩)

/-- The same, but for the supply. -/
def SpI (k : Int) (tg : Nat × Int) : Prop := SpN k tg ∧ tg.1 ≠ 26

theorem SpI.zero : ¬ SpI k (0, 0) := fun h => SpN.zero h.1
theorem SpI.le {tg : Nat × Int} (h : SpI k tg) : SpN k tg := h.1
theorem SpI.dir {tg : Nat × Int} (h : SpD k tg) : SpI k tg := ⟨SpN.dir h, fun hc => by have := h.2.2; omega⟩
theorem SpI.st {tg : Nat × Int} (h : tg = (20, k)) : SpI k tg := ⟨SpN.st h, by rw [h]; simp⟩
theorem SpI.obj {tg : Nat × Int} {id : Int} (h0 : 0 ≤ id) (h : SpO (zO k id) tg) : SpI k tg := ⟨SpN.obj h0 h, fun hc => by
  rcases h with h | h | h
  · rw [h] at hc; simp at hc
  · rw [h] at hc; simp at hc
  · rcases h.2 with h | h | h | h | h <;> omega⟩
theorem SpI.pick {tg : Nat × Int} (h : Spk tg) : SpI k tg := ⟨SpN.pick h, fun hc => by have := h.1; omega⟩

theorem SpO.rng {z : Int} {tg : Nat × Int} (h : SpO z tg) : tg.2 = z ∧ (tg.1 = 11 ∨ tg.1 = 16 ∨ tg.1 = 12 ∨ tg.1 = 13 ∨ tg.1 = 14 ∨ tg.1 = 18 ∨ 100 ≤ tg.1) := by
  rcases h with h | h | h
  · rw [h]; simp
  · rw [h]; simp
  · exact ⟨h.1, .inr (.inr h.2)⟩

theorem zO_inj {a b : Int} (h : zO k a = zO k b) : a = b := by unfold zO at h; omega

theorem StR.ev (h : StR H g k sb ss cap bd pwb s) (ev : Ev S H g H' g') (h0 : ¬ S (0, 0)) (h20 : ¬ S (20, k)) (hd : ∀ tg, SpD k tg → ¬ S tg) (ho : ∀ b ∈ s.T, ∀ tg, SpO (zO k (s.O b).id) tg → ¬ S tg) : StR H' g' k sb ss cap bd pwb s := by
  obtain ⟨db, q, h1, h2⟩ := h.ex
  exact ⟨ev.tag _ _ h.tag, ⟨db, q, ev.get h.tag h20 h1, h2.ev ev hd⟩, fun b hb => (h.obs b hb).ev ev h0 (ho b hb)⟩

/-- What turns no block of a store, nor what is read only. -/
def Off (S : Nat × Int → Prop) : Prop := ∀ tg, S tg → ¬ (tg.1 = 0 ∨ tg.1 = 11 ∨ tg.1 = 12 ∨ tg.1 = 13 ∨ tg.1 = 14 ∨ tg.1 = 16 ∨ tg.1 = 18 ∨ (20 ≤ tg.1 ∧ tg.1 ≤ 25) ∨ 100 ≤ tg.1)

theorem StR.off (h : StR H g k sb ss cap bd pwb s) (ev : Ev S H g H' g') (hS : Off S) : StR H' g' k sb ss cap bd pwb s :=
  h.ev ev (fun hc => hS _ hc (by simp)) (fun hc => hS _ hc (by simp)) (fun tg ht hc => hS _ hc (by have := ht.2; omega)) fun b _ tg ht hc => hS _ hc (by have := ht.rng.2; omega)

theorem SpW.off : Off (SpW k) := fun tg h hc => by rw [h] at hc; simp at hc
theorem Spk.off : Off Spk := fun tg h hc => by have := h.1; have := h.2; omega
theorem none_off : Off (fun _ => False) := fun tg h => h.elim

theorem StR.mono {bd' : Nat} (h : StR H g k sb ss cap bd pwb s) (hb : bd ≤ bd') : StR H g k sb ss cap bd' pwb s :=
  ⟨h.tag, h.ex, fun b hb' => (h.obs b hb').mono hb⟩

/-- The store's own block turned. -/
theorem StR.own {used' : Int} {nxt' db : Nat} {q' : Q9} {o : Obj} (hg : GOk H g) (h : StR H g k sb ss cap bd pwb s) (hd : DirR H g k db s.m s.xs s.st s.jr) (hw : Wr H sb o H') (ho : o = stB ss cap used' nxt' db pwb q') : Ev (fun tg => tg = (20, k)) H g H' g ∧ StR H' g k sb ss cap bd pwb { s with used := used', nxt := nxt' } := by
  subst ho
  have e : Ev (fun tg => tg = (20, k)) H g H' g := Ev.wr hg hw fun tg htg => by rw [h.tag] at htg; cases htg; rfl
  refine ⟨e, h.tag, ⟨db, q', hw.same, hd.ev e fun tg ht hc => ?_⟩, fun b hb => (h.obs b hb).ev e (fun hc => by cases hc) fun tg ht hc => ?_⟩
  · rw [hc] at ht; have := ht.2.1; simp at this
  · rw [hc] at ht; have := ht.rng.2; simp at this

/-- An object turned. -/
theorem StR.obj {b : Nat} {o' : Ob} {bd' : Nat} (h : StR H g k sb ss cap bd pwb s) (hids : (s.T.map fun b => (s.O b).id).Nodup) (hb : b ∈ s.T) (ev : Ev S H g H' g') (hS : ∀ tg, S tg → SpO (zO k (s.O b).id) tg ∨ Spk tg ∨ tg.1 = 40) (ho : ObS H' g' (zO k (s.O b).id) b ss cap bd' o') (hid : o'.id = (s.O b).id) (hbd : bd ≤ bd') :
    StR H' g' k sb ss cap bd' pwb { s with O := oset s.O b o' } := by
  obtain ⟨db, q, h1, h2⟩ := h.ex
  have n0 : ¬ S (0, 0) := fun hc => by
    rcases hS _ hc with h | h | h
    · have := h.rng.2; simp at this
    · have := h.1; simp at this
    · simp at h
  have n20 : ¬ S (20, k) := fun hc => by
    rcases hS _ hc with h | h | h
    · have := h.rng.2; simp at this
    · have := h.1; simp at this
    · simp at h
  refine ⟨ev.tag _ _ h.tag, ⟨db, q, ev.get h.tag n20 h1, h2.ev ev fun tg ht hc => ?_⟩, fun b' hb' => ?_⟩
  · have h3 := ht.2
    rcases hS _ hc with h | h | h
    · have := h.rng.2; omega
    · have := h.1; omega
    · omega
  · show ObS H' g' (zO k (oset s.O b o' b').id) b' ss cap bd' (oset s.O b o' b')
    unfold oset
    by_cases hbb : b' = b
    · subst hbb
      rw [if_pos rfl, hid]
      exact ho
    · rw [if_neg hbb]
      refine ((h.obs b' hb').ev ev n0 fun tg ht hc => ?_).mono hbd
      rcases hS _ hc with h | h | h
      · have e1 := h.rng.1
        have e2 := ht.rng.1
        have := zO_inj (e2.symm.trans e1)
        exact hbb (inj_of_nodup hids b' hb' b hb this)
      · have := ht.rng.2; have := h.1; have := h.2; omega
      · have := ht.rng.2; omega

/-- The directory turned. -/
theorem StR.dir {db : Nat} {m' : NM} {xs' : List ByteArray} {st' : NM} {jr' : List Jr} {q : Q9} (h : StR H g k sb ss cap bd pwb s) (hb : H sb = some (stB ss cap s.used s.nxt db pwb q)) (ev : Ev S H g H' g') (hS : ∀ tg, S tg → SpD k tg ∨ (40 ≤ tg.1 ∧ tg.1 ≤ 42)) (hd : DirR H' g' k db m' xs' st' jr') :
    StR H' g' k sb ss cap bd pwb { s with m := m', xs := xs', st := st', jr := jr' } := by
  have n0 : ¬ S (0, 0) := fun hc => by
    rcases hS _ hc with h | h
    · exact SpD.zero h
    · simp at h
  refine ⟨ev.tag _ _ h.tag, ⟨db, q, ev.get h.tag (fun hc => ?_) hb, hd⟩, fun b hb => (h.obs b hb).ev ev n0 fun tg ht hc => ?_⟩
  · rcases hS _ hc with h | h
    · have := h.2.1; simp at this
    · simp at h
  · have h3 := ht.rng.2
    rcases hS _ hc with h | h
    · have := h.2; omega
    · omega

theorem f101_ht (h : StR H g k sb ss cap bd pwb s) (hss : ss ≤ 16 ∧ cap ≤ 12) : HT Tryz.prog 101 [.pointer (some ⟨sb, 0, none⟩)] H fun v H' => H' = H ∧ v = .int .i64 ((cap * ss : Nat) : Int) := by
  obtain ⟨db, q, h1, h2⟩ := h.ex
  apply f101_of
  refine ⟨sb, 0, rfl, _, Cells.of h1 rfl, sb, 0, rfl, _, Cells.of h1 rfl, rfl, ?_⟩
  have hm : cap * ss ≤ 12 * 16 := Nat.mul_le_mul hss.2 hss.1
  have : (cap : Int) * (ss : Int) = ((cap * ss : Nat) : Int) := by simp
  rw [this, wrapI (by omega) (by omega)]

/-- What find answers. -/
def findV (E : Nat → Value) (s : StV) (nm : ByteArray) : Value := if vn nm then (match s.m nm with | some b => .tuple #[.pointer (some ⟨b, 0, none⟩), .nilIface] | none => .tuple #[.pointer none, E 8]) else .tuple #[.pointer none, E 4]

theorem f76_ht (hG : Gl H g E) (h : StR H g k sb ss cap bd pwb s) (nm : ByteArray) : HT Tryz.prog 76 [.pointer (some ⟨sb, 0, none⟩), .string nm] H fun v H' => H' = H ∧ v = findV E s nm := by
  obtain ⟨db, q, h1, h2⟩ := h.ex
  apply f76_of
  refine (f93_ht nm).mono fun v H1 ⟨he, hv⟩ => ⟨_, hv, fun hn => ?_, fun hn => ?_⟩
  · subst he
    obtain ⟨t, x, he, hc⟩ := hG.get 4 (by decide) (by decide)
    refine ⟨t, x, hc, rfl, ?_⟩
    have : vn nm = false := by simpa using hn
    simp [findV, this, he]
  · subst he
    have hvn : vn nm = true := by simpa using hn
    refine ⟨sb, 0, rfl, _, Cells.of h1 rfl, ?_⟩
    refine (f94_ht h2 nm).mono fun v H2 ⟨he2, hv2⟩ => ⟨_, hv2, _, binIs_ptr_eql Tryz.underlying152, fun hx => ?_, fun hx => ?_⟩
    · subst he2
      obtain ⟨t, x, he, hc⟩ := hG.get 8 (by decide) (by decide)
      refine ⟨t, x, hc, rfl, ?_⟩
      cases hm : s.m nm with
      | none => simp [findV, hvn, hm, he]
      | some b => rw [hm] at hx; simp [oP] at hx
    · subst he2
      refine ⟨rfl, ?_⟩
      cases hm : s.m nm with
      | none => rw [hm] at hx; simp [oP] at hx
      | some b => simp [findV, hvn, hm, oP]

end

end Go.Proofs.Qxb6500695aGreatFmt
