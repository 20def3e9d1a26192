/-
  THE DIRECTORY, PART A: words; lookup, insertName, removeName, create, remove.
-/
import Derived.Test.Qxb6500695aGreatFmtZd
namespace Go.Proofs.Qxb6500695aGreatFmt
open Go Go.Eng Go.Proofs
set_option maxRecDepth 100000
set_option linter.unusedVariables false
set_option linter.unusedSimpArgs false
set_option linter.unusedSectionVars false

/-- A pointer to an object's block, or nil. -/
def oP (o : Option Nat) : Option Addr := o.map fun b => ⟨b, 0, none⟩

/-- A record of the journal. -/
structure Jr where
  ch : Int
  name : ByteArray
  to : ByteArray
  ob : Nat
  vic : Option Nat

def Jr.cs (j : Jr) : List Value := [.int .u8 j.ch, .string j.name, .string j.to, .pointer (oP (some j.ob)), .pointer (oP j.vic)]
theorem Jr.size (j : Jr) : (Jr.cs j).length = 5 := rfl

/-- Names to objects. -/
abbrev NM := ByteArray → Option Nat

def mset (m : NM) (x : ByteArray) (v : Option Nat) : NM := fun y => if y = x then v else m y

def MapIs (H : Heap) (r : Nat) (m : NM) : Prop := ∃ es ck, H r = some (.map es ck) ∧ MapOkS es ck ∧ ∀ x, sget es.toList x = (m x).map fun b => .pointer (oP (some b))

/-- The directory's parts, as they lie. -/
structure DirR (H : Heap) (g : Gh) (k : Int) (db : Nat) (m : NM) (xs : List ByteArray) (st : NM) (jr : List Jr) : Prop where
  tag : g db = some (21, k)
  ex : ∃ lr op on oc sr jp jn jc, H db = some (.cells #[.map (some lr), .slice op on oc, .map (some sr), .slice jp jn jc] 171 (0, 0)) ∧
    g lr = some (22, k) ∧ MapIs H lr m ∧ OwnT H g (23, k) 9 1 Str.cs op on oc xs ∧ g sr = some (24, k) ∧ MapIs H sr st ∧ OwnT H g (25, k) 271 5 Jr.cs jp jn jc jr

def SpD (k : Int) (tg : Nat × Int) : Prop := tg.2 = k ∧ 21 ≤ tg.1 ∧ tg.1 ≤ 25

theorem SpD.zero {k : Int} : ¬ SpD k (0, 0) := fun h => by have := h.2.1; simp at this

section
variable {S : Nat × Int → Prop} {H H' : Heap} {g g' : Gh} {k : Int} {db r : Nat} {m st : NM} {xs : List ByteArray} {jr : List Jr} {nm : ByteArray}

theorem MapIs.ev {tg : Nat × Int} (h : MapIs H r m) (ht : g r = some tg) (ev : Ev S H g H' g') (hn : ¬ S tg) : MapIs H' r m := by
  obtain ⟨es, ck, h1, h2⟩ := h
  exact ⟨es, ck, ev.get ht hn h1, h2⟩

theorem DirR.ev (h : DirR H g k db m xs st jr) (ev : Ev S H g H' g') (hS : ∀ tg, SpD k tg → ¬ S tg) : DirR H' g' k db m xs st jr := by
  obtain ⟨lr, op, on, oc, sr, jp, jn, jc, h1, h2, h3, h4, h5, h6, h7⟩ := h.ex
  have s21 := hS (21, k) ⟨rfl, by simp, by simp⟩
  have s22 := hS (22, k) ⟨rfl, by simp, by simp⟩
  have s23 := hS (23, k) ⟨rfl, by simp, by simp⟩
  have s24 := hS (24, k) ⟨rfl, by simp, by simp⟩
  have s25 := hS (25, k) ⟨rfl, by simp, by simp⟩
  exact ⟨ev.tag _ _ h.tag, lr, op, on, oc, sr, jp, jn, jc, ev.get h.tag s21 h1, ev.tag _ _ h2, h3.ev h2 ev s22, h4.ev ev s23, ev.tag _ _ h5, h6.ev h5 ev s24, h7.ev ev s25⟩

theorem MapIs.look (h : MapIs H r m) (nm : ByteArray) : ∃ es ck, H r = some (.map es ck) ∧ LookIs Tryz.prog 168 r es ck (.string nm) false (.pointer (oP (m nm))) := by
  obtain ⟨es, ck, h1, h2, h3⟩ := h
  have hi : Tryz.prog.info? 152 = some Tryz.t152 := by kernel_rfl
  have := lookIs_str (P := Tryz.prog) (t := 168) (r := r) (c := ck) (es := es) (n := nm) (ok := false) (inf := Tryz.t152) (zero := .pointer none) Tryz.underlying168 Tryz.underlying9 hi rfl h2.1
  refine ⟨es, ck, h1, ?_⟩
  have hv : lookS es nm false (.pointer none) = .pointer (oP (m nm)) := by
    unfold lookS
    rw [h3 nm]
    cases m nm <;> rfl
  rw [hv] at this
  exact this

theorem MapIs.put {K : Unit → Heap → Prop} {ob : Nat} {tg : Nat × Int} (hg : GOk H g) (h : MapIs H r m) (ht : g r = some tg) (hS : S tg) (hK : ∀ H', Ev S H g H' g → MapIs H' r (mset m nm (some ob)) → K () H') :
    SemOk Tryz.prog (Instr.mapUpdate 168 (.map (some r)) (.string nm) (.pointer (oP (some ob)))) H K := by
  obtain ⟨es, ck, h1, h2, h3⟩ := h
  refine semOk_mapUpdateS Tryz.underlying168 Tryz.underlying9 h1 h2.1 fun H' hw => hK H' (Ev.wr hg hw fun tg' htg => by rw [ht] at htg; cases htg; exact hS) ?_
  obtain ⟨es', ck', he, hok, hget, _⟩ := mputS_ok (n := nm) (v := .pointer (oP (some ob))) h2
  rw [he] at hw
  refine ⟨es', ck', hw.same, hok, fun x => ?_⟩
  rw [hget x]
  unfold mset
  split
  · rfl
  · exact h3 x

theorem MapIs.del {K : Value → Heap → Prop} {tg : Nat × Int} (hg : GOk H g) (h : MapIs H r m) (ht : g r = some tg) (hS : S tg) (hK : ∀ H', Ev S H g H' g → MapIs H' r (mset m nm none) → K (.tuple #[]) H') :
    SemOk Tryz.prog (Builtin.delete_ #[168, 9] 0 #[.map (some r), .string nm]) H K := by
  obtain ⟨es, ck, h1, h2, h3⟩ := h
  refine semOk_deleteS Tryz.underlying168 Tryz.underlying9 h1 h2.1 fun H' hw => hK H' (Ev.wr hg hw fun tg' htg => by rw [ht] at htg; cases htg; exact hS) ?_
  obtain ⟨es', he, hok, hget, _⟩ := mdelS_ok (n := nm) h2
  rw [he] at hw
  refine ⟨es', ck, hw.same, hok, fun x => ?_⟩
  rw [hget x]
  unfold mset
  split
  · rfl
  · exact h3 x

theorem f94_ht (h : DirR H g k db m xs st jr) (nm : ByteArray) : HT Tryz.prog 94 [.pointer (some ⟨db, 0, none⟩), .string nm] H fun v H' => H' = H ∧ v = .pointer (oP (m nm)) := by
  obtain ⟨lr, op, on, oc, sr, jp, jn, jc, h1, h2, h3, h4, h5, h6, h7⟩ := h.ex
  obtain ⟨es, ck, hr, hl⟩ := h3.look nm
  apply f94_of
  exact ⟨db, 0, rfl, some lr, Cells.of h1 rfl, lr, es, ck, rfl, hr, _, hl, rfl, rfl⟩

/-- A name put in. -/
def insN (xs : List ByteArray) (nm : ByteArray) (i : Nat) : List ByteArray := xs.take i ++ nm :: xs.drop i
/-- A name taken out. -/
def delN (xs : List ByteArray) (i : Nat) : List ByteArray := xs.take i ++ xs.drop (i + 1)

def SpOrd (k : Int) (tg : Nat × Int) : Prop := tg = (21, k) ∨ tg = (23, k)

theorem SpOrd.le {tg : Nat × Int} (h : SpOrd k tg) : SpD k tg := by
  rcases h with h | h <;> rw [h] <;> exact ⟨rfl, by simp, by simp⟩

theorem dirWr {x1 x2 x3 x4 : Value} {H1 : Heap} (hg : GOk H g) (ht : g db = some (21, k)) (hS : S (21, k)) (hw : Wr H db (.cells #[x1, x2, x3, x4] 171 (0, 0)) H1) : Ev S H g H1 g :=
  Ev.wr hg hw fun tg htg => by rw [ht] at htg; cases htg; exact hS

theorem f175_ht (hg : GOk H g) (h : DirR H g k db m xs st jr) (hs : Srt xs) (hb : xs.length < 2 ^ 30) : HT Tryz.prog 175 [.pointer (some ⟨db, 0, none⟩), .string nm] H fun v H' => ∃ i g', v = .tuple #[] ∧ Spot xs nm i ∧ Ev (SpOrd k) H g H' g' ∧ DirR H' g' k db m (insN xs nm i) st jr := by
  obtain ⟨lr, op, on, oc, sr, jp, jn, jc, h1, h2, h3, h4, h5, h6, h7⟩ := h.ex
  have hlen := h4.own.len
  apply f175_of
  refine ⟨db, 0, rfl, op, on, oc, Cells.of h1 rfl, ?_⟩
  refine (f130_ht (c := oc) (x := nm) (.of h4.own) hs (by omega)).mono fun v H1 ⟨hs1, i, hv, hsp⟩ => ⟨_, hv, ?_⟩
  have e1 : Ev (SpOrd k) H g H1 g := Ev.sub hg hs1
  have h11 := hs1 _ _ h1
  refine ⟨db, 0, rfl, op, on, oc, Cells.of h11 rfl, fun vb H2 ha => ?_⟩
  refine (f201_ht (S := fun tg => tg = (23, k)) e1.ok (h4.sub hs1) ha (k := i) (by have := hsp.1; omega) rfl (by omega)).mono fun v H3 ⟨p', c', g3, hv3, e3, o3⟩ => ⟨_, _, _, hv3, ?_⟩
  have eX : Ev (fun tg => tg = (23, k)) H g H1 g := Ev.sub hg hs1
  have e13 := eX.trans e3
  have n : ∀ {j : Nat}, j ≠ 23 → ¬ ((fun tg => tg = (23, k)) (j, k)) := fun hj h => hj (by simpa using h)
  have h13 := e13.get h.tag (n (by decide)) h1
  refine ⟨db, 0, rfl, _, _, h13, by simp, fun H4 hw4 => ?_⟩
  have hw4' : Wr H3 db (.cells #[.map (some lr), .slice p' (on + 1) c', .map (some sr), .slice jp jn jc] 171 (0, 0)) H4 := hw4
  have t3 := e13.tag _ _ h.tag
  have e4 : Ev (fun tg => tg = (21, k)) H3 g3 H4 g3 := dirWr e3.ok t3 rfl hw4'
  have n' : ∀ {j : Nat}, j ≠ 21 → ¬ ((fun tg => tg = (21, k)) (j, k)) := fun hj h => hj (by simpa using h)
  refine ⟨i, g3, rfl, hsp, (e13.mono fun tg ht => .inr ht).trans (e4.mono fun tg ht => .inl ht), e4.tag _ _ t3, lr, p', on + 1, c', sr, jp, jn, jc, hw4'.same, e13.tag _ _ h2, (h3.ev h2 e13 (n (by decide))).ev (e13.tag _ _ h2) e4 (n' (by decide)), o3.ev e4 (n' (by decide)), e13.tag _ _ h5, (h6.ev h5 e13 (n (by decide))).ev (e13.tag _ _ h5) e4 (n' (by decide)), (h7.ev e13 (n (by decide))).ev e4 (n' (by decide))⟩

theorem f177_ht (hg : GOk H g) (h : DirR H g k db m xs st jr) (hs : Srt xs) (hb : xs.length < 2 ^ 30) (hm : nm ∈ xs) : HT Tryz.prog 177 [.pointer (some ⟨db, 0, none⟩), .string nm] H fun v H' => ∃ i g', v = .tuple #[] ∧ xs[i]? = some nm ∧ Ev (SpOrd k) H g H' g' ∧ DirR H' g' k db m (delN xs i) st jr := by
  obtain ⟨lr, op, on, oc, sr, jp, jn, jc, h1, h2, h3, h4, h5, h6, h7⟩ := h.ex
  have hlen := h4.own.len
  apply f177_of
  refine ⟨db, 0, rfl, op, on, oc, Cells.of h1 rfl, ?_⟩
  refine (f130_ht (c := oc) (x := nm) (.of h4.own) hs (by omega)).mono fun v H1 ⟨hs1, i, hv, hsp⟩ => ⟨_, hv, ?_⟩
  obtain ⟨j, hj, hjx⟩ := List.getElem_of_mem hm
  have hle : i ≤ j := by
    rcases Nat.lt_or_ge j i with hlt | hge
    · have := hsp.2.1 j hj hlt
      rw [hjx] at this
      exact absurd this (List.lt_irrefl _)
    · exact hge
  have hil : i < xs.length := by omega
  have hix : xs[i] = nm := by
    have hn := hsp.2.2 i hil (Nat.le_refl _)
    rcases Nat.lt_or_ge i j with hlt | hge
    · have := List.pairwise_iff_getElem.1 hs i j hil hj hlt
      rw [hjx] at this
      exact absurd this hn
    · have : i = j := by omega
      subst this
      exact hjx
  have h11 := hs1 _ _ h1
  have h41 := h4.sub hs1
  obtain ⟨b, o, hp, hc⟩ := h41.own.cells (i := i) hil
  refine ⟨db, 0, rfl, op, on, oc, Cells.of h11 rfl, fun hd => ?_, fun hd => ?_⟩
  · refine ⟨db, 0, rfl, op, on, oc, Cells.of h11 rfl, b, o, hp, by omega, by omega, xs[i], by simpa [Str.cs] using hc, _, binIs_str_eql, ?_⟩
    have heq : decide (xs[i] = nm) = true := by rw [hix]; simp
    rw [heq]
    apply f177_L1_of
    refine ⟨fun _ => ?_, (fun h => by cases h)⟩
    refine ⟨db, 0, rfl, op, on, oc, Cells.of h11 rfl, ?_⟩
    have hw : IntKind.wrap .i64 ((i : Int) + 1) = ((i + 1 : Nat) : Int) := wrapS (by omega)
    rw [hw]
    have eX : Ev (fun tg => tg = (23, k)) H g H1 g := Ev.sub hg hs1
    refine (f202_ht (S := fun tg => tg = (23, k)) eX.ok h41 (k := i) (by omega) rfl (by omega)).mono fun v H3 ⟨hv3, e3, o3⟩ => ⟨_, _, _, hv3, ?_⟩
    have e13 := eX.trans e3
    have n : ∀ {j : Nat}, j ≠ 23 → ¬ ((fun tg => tg = (23, k)) (j, k)) := fun hj h => hj (by simpa using h)
    have h13 := e13.get h.tag (n (by decide)) h1
    refine ⟨db, 0, rfl, _, _, h13, by simp, fun H4 hw4 => ?_⟩
    have hw4' : Wr H3 db (.cells #[.map (some lr), .slice op (on - 1) oc, .map (some sr), .slice jp jn jc] 171 (0, 0)) H4 := hw4
    have t3 := e13.tag _ _ h.tag
    have e4 : Ev (fun tg => tg = (21, k)) H3 g H4 g := dirWr e3.ok t3 rfl hw4'
    have n' : ∀ {j : Nat}, j ≠ 21 → ¬ ((fun tg => tg = (21, k)) (j, k)) := fun hj h => hj (by simpa using h)
    refine ⟨i, g, rfl, by rw [List.getElem?_eq_getElem hil, hix], (e13.mono fun tg ht => .inr ht).trans (e4.mono fun tg ht => .inl ht), e4.tag _ _ t3, lr, op, on - 1, oc, sr, jp, jn, jc, hw4'.same, h2, (h3.ev h2 e13 (n (by decide))).ev h2 e4 (n' (by decide)), o3.ev e4 (n' (by decide)), h5, (h6.ev h5 e13 (n (by decide))).ev h5 e4 (n' (by decide)), (h7.ev e13 (n (by decide))).ev e4 (n' (by decide))⟩
  · have := of_decide_eq_false hd
    omega

end

end Go.Proofs.Qxb6500695aGreatFmt
