/-
  THE RACK; STEPS.
-/
import Derived.Test.Qxb6500695aGreatFmtNd
namespace Go.Proofs.Qxb6500695aGreatFmt
open Go Go.Eng Go.Proofs
set_option maxRecDepth 100000
set_option linter.unusedVariables false
set_option linter.unusedSimpArgs false
set_option linter.unusedSectionVars false

def shS (k : Nat) : Nat := if k = 0 then 8 else if k = 1 then 4 else 16
def shN (k : Nat) : Nat := if k = 0 then 6 else if k = 1 then 4 else 0
def shC (k : Nat) : Nat := if k = 0 then 10 else if k = 1 then 7 else 12

/-- A node, its inner blocks not named. -/
def NdE (H : Heap) (g : Gh) (k nb bd : Nat) (n : NdV) : Prop := ∃ pwb dvb sb, NdR H g (k : Int) nb pwb dvb sb (shS k) (shN k) (shC k) bd n

/-- The rack as it lies. -/
structure RkR (H : Heap) (g : Gh) (rb bd : Nat) (nd : Nat → NdV) : Prop where
  tag : g rb = some (29, 0)
  ex : ∃ nbk : Nat → Nat, H rb = some (.cells #[.pointer (some ⟨nbk 0, 0, none⟩), .pointer (some ⟨nbk 1, 0, none⟩), .pointer (some ⟨nbk 2, 0, none⟩)] 125 (0, 0)) ∧ ∀ k, k < 3 → NdE H g k (nbk k) bd (nd k)

/-- What always holds of a rack. -/
def RkI (M : Nat) (nd : Nat → NdV) : Prop := ∀ k, k < 3 → StI (shS k) (shC k) M (nd k).s

def ndset (nd : Nat → NdV) (k : Nat) (n : NdV) : Nat → NdV := fun j => if j = k then n else nd j

section
variable {S : Nat × Int → Prop} {H H' : Heap} {g g' : Gh} {rb bd bd' M : Nat} {nd : Nat → NdV} {E : Nat → Value}

theorem StI.pos {ss cap N : Nat} {s : StV} (h : StI ss cap N s) : ∀ b ∈ s.T, 0 ≤ (s.O b).id := fun b hb => by have := (h.idp b hb).1; omega

theorem RkR.mono (h : RkR H g rb bd nd) (hb : bd ≤ bd') : RkR H g rb bd' nd := by
  obtain ⟨nbk, h1, h2⟩ := h.ex
  exact ⟨h.tag, nbk, h1, fun k hk => let ⟨p, d, s, hn⟩ := h2 k hk; ⟨p, d, s, hn.mono hb⟩⟩

theorem RkR.off (h : RkR H g rb bd nd) (ev : Ev S H g H' g') (hS : OffN S) : RkR H' g' rb bd nd := by
  obtain ⟨nbk, h1, h2⟩ := h.ex
  exact ⟨ev.tag _ _ h.tag, nbk, ev.get h.tag (fun hc => hS _ hc (by simp)) h1, fun k hk => let ⟨p, d, s, hn⟩ := h2 k hk; ⟨p, d, s, hn.off ev hS⟩⟩

/-- One node turned. -/
theorem RkR.upd {k nb : Nat} {n' : NdV} (h : RkR H g rb bd nd) (hI : RkI M nd) (hk : k < 3) (hnb : ∃ nbk : Nat → Nat, H rb = some (.cells #[.pointer (some ⟨nbk 0, 0, none⟩), .pointer (some ⟨nbk 1, 0, none⟩), .pointer (some ⟨nbk 2, 0, none⟩)] 125 (0, 0)) ∧ nbk k = nb ∧ ∀ k, k < 3 → NdE H g k (nbk k) bd (nd k))
    (ev : Ev (SpK (k : Int)) H g H' g') (hn : NdE H' g' k nb bd' n') (hb : bd ≤ bd') : RkR H' g' rb bd' (ndset nd k n') := by
  obtain ⟨nbk, h1, h2, h3⟩ := hnb
  have n29 : ¬ SpK (k : Int) (29, 0) := fun hc => by
    rcases hc with (hc | hc | hc) | hc | hc | hc
    · have := hc.2.1; simp at this
    · have := hc.1; simp at this
    · have := hc.1; simp at this
    · simp at hc
    · have := hc.rng.2; simp at this
    · simp at hc
  refine ⟨ev.tag _ _ h.tag, nbk, ev.get h.tag n29 h1, fun j hj => ?_⟩
  unfold ndset
  by_cases hjk : j = k
  · subst hjk
    rw [if_pos rfl, h2]
    exact hn
  · rw [if_neg hjk]
    obtain ⟨p, d, s, hn⟩ := h3 j hj
    exact ⟨p, d, s, (hn.other ⟨by omega, by omega⟩ ⟨by omega, by omega⟩ (by omega) (hI j hj).pos ev).mono hb⟩

theorem f12_ht (h : RkR H g rb bd nd) {k : Nat} (hk : k < 3) : HT Tryz.prog 12 [.pointer (some ⟨rb, 0, none⟩), .int .i64 (k : Int)] H fun v H' => H' = H ∧ ∃ nb, v = .pointer (some ⟨nb, 0, none⟩) ∧ ∃ nbk : Nat → Nat, H rb = some (.cells #[.pointer (some ⟨nbk 0, 0, none⟩), .pointer (some ⟨nbk 1, 0, none⟩), .pointer (some ⟨nbk 2, 0, none⟩)] 125 (0, 0)) ∧ nbk k = nb ∧ ∀ k, k < 3 → NdE H g k (nbk k) bd (nd k) := by
  obtain ⟨nbk, h1, h2⟩ := h.ex
  apply f12_of
  refine ⟨fun hx => by have := of_decide_eq_true hx; omega, fun _ => ?_⟩
  have hd : decide ((k : Int) ≥ 3) = false := by simp; omega
  rw [hd]
  apply f12_L1_of
  refine ⟨(fun h => by cases h), fun _ => ⟨rb, 0, rfl, by omega, by omega, some ⟨nbk k, 0, none⟩, ?_, rfl, nbk k, rfl, nbk, h1, rfl, h2⟩⟩
  have hcase : k = 0 ∨ k = 1 ∨ k = 2 := by omega
  rcases hcase with rfl | rfl | rfl
  · exact Cells.of h1 rfl
  · exact Cells.of h1 rfl
  · exact Cells.of h1 rfl

/-- The node that a step means. -/
def nodeOf (n : Int) : Nat := (if Int.tmod n 3 < 0 then Int.tmod n 3 + 3 else Int.tmod n 3).toNat

theorem nodeOf_lt (n : Int) : nodeOf n < 3 := by
  unfold nodeOf
  have h1 := Int.tmod_lt_of_pos n (b := 3) (by decide)
  split <;> omega

theorem tmod_gt (n : Int) : -3 < Int.tmod n 3 := by
  rcases Int.lt_or_le n 0 with h | h
  · have h1 : Int.tmod n 3 = -(Int.tmod (-n) 3) := by rw [Int.neg_tmod]; omega
    have h2 := Int.tmod_lt_of_pos (-n) (b := 3) (by decide)
    omega
  · have := Int.tmod_nonneg (a := n) 3 h
    omega

theorem f16_ht (n : Int) : HT Tryz.prog 16 [.int .i64 n] H fun v H' => H' = H ∧ v = .int .i64 (nodeOf n : Int) := by
  have h1 := Int.tmod_lt_of_pos n (b := 3) (by decide)
  have h2 := tmod_gt n
  apply f16_of
  unfold nodeOf
  refine ⟨fun hd => ?_, fun hd => ?_⟩
  · have hd := of_decide_eq_true hd
    apply f16_L1_of
    rw [if_pos hd, wrapI (by omega) (by omega)]
    exact ⟨rfl, by congr 1; omega⟩
  · have hd := of_decide_eq_false hd
    apply f16_L1_of
    rw [if_neg hd]
    exact ⟨rfl, by congr 1; omega⟩

end

/-- A step of a script. -/
structure OpV where
  kd : Int
  node : Int
  nm : ByteArray
  to : ByteArray
  off : Int
  n : Int
  dp : Option Addr
  dn : Nat
  dc : Nat
  data : List Int
  pp : Option Addr
  pn : Nat
  pc : Nat
  picks : List Int

def OpV.cs (o : OpV) : List Value := [.int .u8 o.kd, .int .i64 o.node, .string o.nm, .string o.to, .int .i64 o.off, .int .i64 o.n, .slice o.dp o.dn o.dc, .slice o.pp o.pn o.pc]

/-- Its lists lie, and nobody turns them. -/
structure OpOk (H : Heap) (g : Gh) (o : OpV) : Prop where
  data : Src H o.dp o.dn o.dc o.data
  dtag : ∀ a, o.dp = some a → 0 < o.dn → g a.block = some (0, 0)
  db : o.dn < 2 ^ 20
  pl : o.pn = o.picks.length
  pcs : 0 < o.pn → ∃ b q, o.pp = some ⟨b, q, none⟩ ∧ g b = some (0, 0) ∧ Cells H b q (o.picks.flatMap I64.cs)
  pb : o.pn < 2 ^ 20
  offb : o.off < 2 ^ 63 ∧ -(2 ^ 63) ≤ o.off
  nb : o.n < 2 ^ 63

theorem OpOk.ev {S : Nat × Int → Prop} {H H' : Heap} {g g' : Gh} {o : OpV} (h : OpOk H g o) (ev : Ev S H g H' g') (h0 : ¬ S (0, 0)) : OpOk H' g' o :=
  ⟨h.data.ev h.dtag ev h0, fun a ha h0 => ev.tag _ _ (h.dtag a ha h0), h.db, h.pl, fun hp => let ⟨b, q, h1, h2, h3⟩ := h.pcs hp; ⟨b, q, h1, ev.tag _ _ h2, Cells.ev h3 h2 ev h0⟩, h.pb, h.offb, h.nb⟩

/-- How many bytes a reading step asks for. -/
def readLen (n : Int) : Nat := if n < 0 then 0 else if n > 4096 then 4096 else n.toNat

/-- What a step leaves of its node: the error, the number, the node, the questions. -/
def StepR (E : Nat → Value) (ss ns cap : Nat) (op : OpV) (n : NdV) (e : Value) (m : Int) (n' : NdV) (tr : List Ask) : Prop :=
  ∀ Q : Value → Int → NdV → List Ask → Prop,
    (∀ (e : Value) (m i : Int) (D' : Pl), op.kd = 0 → wsecR ss ns E n.pw n.D i op.data e D' ∧ op.off = i * (ss : Int) → Q e m ⟨n.pw.spend.1, D', n.s⟩ []) →
    (∀ (e : Value) (m : Int) (D' : Pl), op.kd = 0 → wdevR ss ns E n.pw n.D op.off op.data (.tuple #[.int .i64 m, e]) D' → Q e m ⟨n.pw.spend.1, D', n.s⟩ []) →
    (∀ (e : Value) (m : Int), op.kd = 1 → Q e m n []) →
    (∀ (e : Value) (D' : Pl), op.kd = 2 → dsyncR E n.pw n.D e D' → Q e 0 ⟨n.pw.spend.1, D', n.s⟩ []) →
    (∀ (e : Value) (s' : StV), op.kd = 3 → createR E n.pw n.s op.nm e s' → Q e 0 ⟨n.pw.spend.1, n.D, s'⟩ []) →
    (∀ (e : Value) (m : Int) (s' : StV), op.kd = 4 → writeR ss cap E n.pw n.s op.nm op.off op.data (.tuple #[.int .i64 m, e]) s' → Q e m ⟨n.pw.spend.1, n.D, s'⟩ []) →
    (∀ (e : Value) (m : Int) (s' : StV), op.kd = 5 → appendR ss cap E n.pw n.s op.nm op.data (.tuple #[.int .i64 m, e]) s' → Q e m ⟨n.pw.spend.1, n.D, s'⟩ []) →
    (∀ (e : Value) (s' : StV), op.kd = 6 → truncR ss cap E n.pw n.s op.nm op.n e s' → Q e 0 ⟨n.pw.spend.1, n.D, s'⟩ []) →
    (∀ (e : Value) (m : Int), op.kd = 7 → readR E n.pw n.s op.nm op.off (readLen op.n) (.tuple #[.int .i64 m, e]) → Q e m n []) →
    (∀ (e : Value), op.kd = 8 → Q e 0 n []) →
    (∀ (e : Value), op.kd = 9 → Q e 0 n []) →
    (∀ (e : Value) (s' : StV), op.kd = 10 → syncR ss E n.pw n.s op.nm e s' → Q e 0 ⟨n.pw.spend.1, n.D, s'⟩ []) →
    (∀ (e : Value) (s' : StV), op.kd = 11 → syncDirR E n.pw n.s e s' → Q e 0 ⟨n.pw.spend.1, n.D, s'⟩ []) →
    (∀ (e : Value) (s' : StV), op.kd = 12 → syncAllR ss E n.pw n.s e s' → Q e 0 ⟨n.pw.spend.1, n.D, s'⟩ []) →
    (∀ (e : Value) (s' : StV), op.kd = 13 → renameR E n.pw n.s op.nm op.to e s' → Q e 0 ⟨n.pw.spend.1, n.D, s'⟩ []) →
    (∀ (e : Value) (s' : StV), op.kd = 14 → deleteR E n.pw n.s op.nm e s' → Q e 0 ⟨n.pw.spend.1, n.D, s'⟩ []) →
    (∀ (e : Value) (s' : StV) (P' : Pw), op.kd = 15 → pubR ss cap E op.nm op.to op.data n.pw n.s e s' P' → Q e 0 ⟨P', n.D, s'⟩ []) →
    (∀ (e : Value) (s' : StV) (P' : Pw), op.kd = 16 → burstR ss cap E op.nm n.pw n.s e s' P' → Q e 0 ⟨P', n.D, s'⟩ []) →
    (∀ (e : Value), op.kd = 17 → e = (if n.pw.down then E 0 else .nilIface) → Q e 0 ⟨if n.pw.down then n.pw else Pw.arm op.n, n.D, n.s⟩ []) →
    (∀ (m : Int) (n' : NdV) (tr : List Ask), op.kd = 18 → ndCrash ss ns cap n tr n' → Q .nilIface m n' tr) →
    ((∀ i : Nat, i < 19 → op.kd ≠ (i : Int)) → Q .nilIface 0 n []) →
    Q e m n' tr

theorem StepR.dwsec {E : Nat → Value} {ss ns cap : Nat} {op : OpV} {n : NdV} {e : Value} {m i : Int} {D' : Pl} (p0 : op.kd = 0) (p1 : wsecR ss ns E n.pw n.D i op.data e D' ∧ op.off = i * (ss : Int)) : StepR E ss ns cap op n e m ⟨n.pw.spend.1, D', n.s⟩ [] :=
  fun Q h0 h1 h2 h3 h4 h5 h6 h7 h8 h9 h10 h11 h12 h13 h14 h15 h16 h17 h18 h19 h20 => h0 _ _ _ _ p0 p1

theorem StepR.dwrite {E : Nat → Value} {ss ns cap : Nat} {op : OpV} {n : NdV} {e : Value} {m : Int} {D' : Pl} (p0 : op.kd = 0) (p1 : wdevR ss ns E n.pw n.D op.off op.data (.tuple #[.int .i64 m, e]) D') : StepR E ss ns cap op n e m ⟨n.pw.spend.1, D', n.s⟩ [] :=
  fun Q h0 h1 h2 h3 h4 h5 h6 h7 h8 h9 h10 h11 h12 h13 h14 h15 h16 h17 h18 h19 h20 => h1 _ _ _ p0 p1

theorem StepR.dread {E : Nat → Value} {ss ns cap : Nat} {op : OpV} {n : NdV} {e : Value} {m : Int} (p0 : op.kd = 1) : StepR E ss ns cap op n e m n [] :=
  fun Q h0 h1 h2 h3 h4 h5 h6 h7 h8 h9 h10 h11 h12 h13 h14 h15 h16 h17 h18 h19 h20 => h2 _ _ p0

theorem StepR.dsync {E : Nat → Value} {ss ns cap : Nat} {op : OpV} {n : NdV} {e : Value} {D' : Pl} (p0 : op.kd = 2) (p1 : dsyncR E n.pw n.D e D') : StepR E ss ns cap op n e 0 ⟨n.pw.spend.1, D', n.s⟩ [] :=
  fun Q h0 h1 h2 h3 h4 h5 h6 h7 h8 h9 h10 h11 h12 h13 h14 h15 h16 h17 h18 h19 h20 => h3 _ _ p0 p1

theorem StepR.create {E : Nat → Value} {ss ns cap : Nat} {op : OpV} {n : NdV} {e : Value} {s' : StV} (p0 : op.kd = 3) (p1 : createR E n.pw n.s op.nm e s') : StepR E ss ns cap op n e 0 ⟨n.pw.spend.1, n.D, s'⟩ [] :=
  fun Q h0 h1 h2 h3 h4 h5 h6 h7 h8 h9 h10 h11 h12 h13 h14 h15 h16 h17 h18 h19 h20 => h4 _ _ p0 p1

theorem StepR.write {E : Nat → Value} {ss ns cap : Nat} {op : OpV} {n : NdV} {e : Value} {m : Int} {s' : StV} (p0 : op.kd = 4) (p1 : writeR ss cap E n.pw n.s op.nm op.off op.data (.tuple #[.int .i64 m, e]) s') : StepR E ss ns cap op n e m ⟨n.pw.spend.1, n.D, s'⟩ [] :=
  fun Q h0 h1 h2 h3 h4 h5 h6 h7 h8 h9 h10 h11 h12 h13 h14 h15 h16 h17 h18 h19 h20 => h5 _ _ _ p0 p1

theorem StepR.append {E : Nat → Value} {ss ns cap : Nat} {op : OpV} {n : NdV} {e : Value} {m : Int} {s' : StV} (p0 : op.kd = 5) (p1 : appendR ss cap E n.pw n.s op.nm op.data (.tuple #[.int .i64 m, e]) s') : StepR E ss ns cap op n e m ⟨n.pw.spend.1, n.D, s'⟩ [] :=
  fun Q h0 h1 h2 h3 h4 h5 h6 h7 h8 h9 h10 h11 h12 h13 h14 h15 h16 h17 h18 h19 h20 => h6 _ _ _ p0 p1

theorem StepR.trunc {E : Nat → Value} {ss ns cap : Nat} {op : OpV} {n : NdV} {e : Value} {s' : StV} (p0 : op.kd = 6) (p1 : truncR ss cap E n.pw n.s op.nm op.n e s') : StepR E ss ns cap op n e 0 ⟨n.pw.spend.1, n.D, s'⟩ [] :=
  fun Q h0 h1 h2 h3 h4 h5 h6 h7 h8 h9 h10 h11 h12 h13 h14 h15 h16 h17 h18 h19 h20 => h7 _ _ p0 p1

theorem StepR.read {E : Nat → Value} {ss ns cap : Nat} {op : OpV} {n : NdV} {e : Value} {m : Int} (p0 : op.kd = 7) (p1 : readR E n.pw n.s op.nm op.off (readLen op.n) (.tuple #[.int .i64 m, e])) : StepR E ss ns cap op n e m n [] :=
  fun Q h0 h1 h2 h3 h4 h5 h6 h7 h8 h9 h10 h11 h12 h13 h14 h15 h16 h17 h18 h19 h20 => h8 _ _ p0 p1

theorem StepR.stat {E : Nat → Value} {ss ns cap : Nat} {op : OpV} {n : NdV} {e : Value} (p0 : op.kd = 8) : StepR E ss ns cap op n e 0 n [] :=
  fun Q h0 h1 h2 h3 h4 h5 h6 h7 h8 h9 h10 h11 h12 h13 h14 h15 h16 h17 h18 h19 h20 => h9 _ p0

theorem StepR.list {E : Nat → Value} {ss ns cap : Nat} {op : OpV} {n : NdV} {e : Value} (p0 : op.kd = 9) : StepR E ss ns cap op n e 0 n [] :=
  fun Q h0 h1 h2 h3 h4 h5 h6 h7 h8 h9 h10 h11 h12 h13 h14 h15 h16 h17 h18 h19 h20 => h10 _ p0

theorem StepR.sync {E : Nat → Value} {ss ns cap : Nat} {op : OpV} {n : NdV} {e : Value} {s' : StV} (p0 : op.kd = 10) (p1 : syncR ss E n.pw n.s op.nm e s') : StepR E ss ns cap op n e 0 ⟨n.pw.spend.1, n.D, s'⟩ [] :=
  fun Q h0 h1 h2 h3 h4 h5 h6 h7 h8 h9 h10 h11 h12 h13 h14 h15 h16 h17 h18 h19 h20 => h11 _ _ p0 p1

theorem StepR.syncDir {E : Nat → Value} {ss ns cap : Nat} {op : OpV} {n : NdV} {e : Value} {s' : StV} (p0 : op.kd = 11) (p1 : syncDirR E n.pw n.s e s') : StepR E ss ns cap op n e 0 ⟨n.pw.spend.1, n.D, s'⟩ [] :=
  fun Q h0 h1 h2 h3 h4 h5 h6 h7 h8 h9 h10 h11 h12 h13 h14 h15 h16 h17 h18 h19 h20 => h12 _ _ p0 p1

theorem StepR.syncAll {E : Nat → Value} {ss ns cap : Nat} {op : OpV} {n : NdV} {e : Value} {s' : StV} (p0 : op.kd = 12) (p1 : syncAllR ss E n.pw n.s e s') : StepR E ss ns cap op n e 0 ⟨n.pw.spend.1, n.D, s'⟩ [] :=
  fun Q h0 h1 h2 h3 h4 h5 h6 h7 h8 h9 h10 h11 h12 h13 h14 h15 h16 h17 h18 h19 h20 => h13 _ _ p0 p1

theorem StepR.rename {E : Nat → Value} {ss ns cap : Nat} {op : OpV} {n : NdV} {e : Value} {s' : StV} (p0 : op.kd = 13) (p1 : renameR E n.pw n.s op.nm op.to e s') : StepR E ss ns cap op n e 0 ⟨n.pw.spend.1, n.D, s'⟩ [] :=
  fun Q h0 h1 h2 h3 h4 h5 h6 h7 h8 h9 h10 h11 h12 h13 h14 h15 h16 h17 h18 h19 h20 => h14 _ _ p0 p1

theorem StepR.delete {E : Nat → Value} {ss ns cap : Nat} {op : OpV} {n : NdV} {e : Value} {s' : StV} (p0 : op.kd = 14) (p1 : deleteR E n.pw n.s op.nm e s') : StepR E ss ns cap op n e 0 ⟨n.pw.spend.1, n.D, s'⟩ [] :=
  fun Q h0 h1 h2 h3 h4 h5 h6 h7 h8 h9 h10 h11 h12 h13 h14 h15 h16 h17 h18 h19 h20 => h15 _ _ p0 p1

theorem StepR.publish {E : Nat → Value} {ss ns cap : Nat} {op : OpV} {n : NdV} {e : Value} {s' : StV} {P' : Pw} (p0 : op.kd = 15) (p1 : pubR ss cap E op.nm op.to op.data n.pw n.s e s' P') : StepR E ss ns cap op n e 0 ⟨P', n.D, s'⟩ [] :=
  fun Q h0 h1 h2 h3 h4 h5 h6 h7 h8 h9 h10 h11 h12 h13 h14 h15 h16 h17 h18 h19 h20 => h16 _ _ _ p0 p1

theorem StepR.burst {E : Nat → Value} {ss ns cap : Nat} {op : OpV} {n : NdV} {e : Value} {s' : StV} {P' : Pw} (p0 : op.kd = 16) (p1 : burstR ss cap E op.nm n.pw n.s e s' P') : StepR E ss ns cap op n e 0 ⟨P', n.D, s'⟩ [] :=
  fun Q h0 h1 h2 h3 h4 h5 h6 h7 h8 h9 h10 h11 h12 h13 h14 h15 h16 h17 h18 h19 h20 => h17 _ _ _ p0 p1

theorem StepR.arm {E : Nat → Value} {ss ns cap : Nat} {op : OpV} {n : NdV} {e : Value} (p0 : op.kd = 17) (p1 : e = (if n.pw.down then E 0 else .nilIface)) : StepR E ss ns cap op n e 0 ⟨if n.pw.down then n.pw else Pw.arm op.n, n.D, n.s⟩ [] :=
  fun Q h0 h1 h2 h3 h4 h5 h6 h7 h8 h9 h10 h11 h12 h13 h14 h15 h16 h17 h18 h19 h20 => h18 _ p0 p1

theorem StepR.crash {E : Nat → Value} {ss ns cap : Nat} {op : OpV} {n : NdV} {m : Int} {n' : NdV} {tr : List Ask} (p0 : op.kd = 18) (p1 : ndCrash ss ns cap n tr n') : StepR E ss ns cap op n .nilIface m n' tr :=
  fun Q h0 h1 h2 h3 h4 h5 h6 h7 h8 h9 h10 h11 h12 h13 h14 h15 h16 h17 h18 h19 h20 => h19 _ _ _ p0 p1

theorem StepR.other {E : Nat → Value} {ss ns cap : Nat} {op : OpV} {n : NdV}  (p0 : ∀ i : Nat, i < 19 → op.kd ≠ (i : Int)) : StepR E ss ns cap op n .nilIface 0 n [] :=
  fun Q h0 h1 h2 h3 h4 h5 h6 h7 h8 h9 h10 h11 h12 h13 h14 h15 h16 h17 h18 h19 h20 => h20 p0

theorem StepR.ind {E : Nat → Value} {ss ns cap : Nat} {op : OpV} {n : NdV} {motive : (e : Value) → (m : Int) → (n' : NdV) → (tr : List Ask) → StepR E ss ns cap op n e m n' tr → Prop}
    (dwsec : ∀ {e : Value} {m i : Int} {D' : Pl} (p0 : op.kd = 0) (p1 : wsecR ss ns E n.pw n.D i op.data e D' ∧ op.off = i * (ss : Int)), motive e m ⟨n.pw.spend.1, D', n.s⟩ [] (StepR.dwsec p0 p1))
    (dwrite : ∀ {e : Value} {m : Int} {D' : Pl} (p0 : op.kd = 0) (p1 : wdevR ss ns E n.pw n.D op.off op.data (.tuple #[.int .i64 m, e]) D'), motive e m ⟨n.pw.spend.1, D', n.s⟩ [] (StepR.dwrite p0 p1))
    (dread : ∀ {e : Value} {m : Int} (p0 : op.kd = 1), motive e m n [] (StepR.dread p0))
    (dsync : ∀ {e : Value} {D' : Pl} (p0 : op.kd = 2) (p1 : dsyncR E n.pw n.D e D'), motive e 0 ⟨n.pw.spend.1, D', n.s⟩ [] (StepR.dsync p0 p1))
    (create : ∀ {e : Value} {s' : StV} (p0 : op.kd = 3) (p1 : createR E n.pw n.s op.nm e s'), motive e 0 ⟨n.pw.spend.1, n.D, s'⟩ [] (StepR.create p0 p1))
    (write : ∀ {e : Value} {m : Int} {s' : StV} (p0 : op.kd = 4) (p1 : writeR ss cap E n.pw n.s op.nm op.off op.data (.tuple #[.int .i64 m, e]) s'), motive e m ⟨n.pw.spend.1, n.D, s'⟩ [] (StepR.write p0 p1))
    (append : ∀ {e : Value} {m : Int} {s' : StV} (p0 : op.kd = 5) (p1 : appendR ss cap E n.pw n.s op.nm op.data (.tuple #[.int .i64 m, e]) s'), motive e m ⟨n.pw.spend.1, n.D, s'⟩ [] (StepR.append p0 p1))
    (trunc : ∀ {e : Value} {s' : StV} (p0 : op.kd = 6) (p1 : truncR ss cap E n.pw n.s op.nm op.n e s'), motive e 0 ⟨n.pw.spend.1, n.D, s'⟩ [] (StepR.trunc p0 p1))
    (read : ∀ {e : Value} {m : Int} (p0 : op.kd = 7) (p1 : readR E n.pw n.s op.nm op.off (readLen op.n) (.tuple #[.int .i64 m, e])), motive e m n [] (StepR.read p0 p1))
    (stat : ∀ {e : Value} (p0 : op.kd = 8), motive e 0 n [] (StepR.stat p0))
    (list : ∀ {e : Value} (p0 : op.kd = 9), motive e 0 n [] (StepR.list p0))
    (sync : ∀ {e : Value} {s' : StV} (p0 : op.kd = 10) (p1 : syncR ss E n.pw n.s op.nm e s'), motive e 0 ⟨n.pw.spend.1, n.D, s'⟩ [] (StepR.sync p0 p1))
    (syncDir : ∀ {e : Value} {s' : StV} (p0 : op.kd = 11) (p1 : syncDirR E n.pw n.s e s'), motive e 0 ⟨n.pw.spend.1, n.D, s'⟩ [] (StepR.syncDir p0 p1))
    (syncAll : ∀ {e : Value} {s' : StV} (p0 : op.kd = 12) (p1 : syncAllR ss E n.pw n.s e s'), motive e 0 ⟨n.pw.spend.1, n.D, s'⟩ [] (StepR.syncAll p0 p1))
    (rename : ∀ {e : Value} {s' : StV} (p0 : op.kd = 13) (p1 : renameR E n.pw n.s op.nm op.to e s'), motive e 0 ⟨n.pw.spend.1, n.D, s'⟩ [] (StepR.rename p0 p1))
    (delete : ∀ {e : Value} {s' : StV} (p0 : op.kd = 14) (p1 : deleteR E n.pw n.s op.nm e s'), motive e 0 ⟨n.pw.spend.1, n.D, s'⟩ [] (StepR.delete p0 p1))
    (publish : ∀ {e : Value} {s' : StV} {P' : Pw} (p0 : op.kd = 15) (p1 : pubR ss cap E op.nm op.to op.data n.pw n.s e s' P'), motive e 0 ⟨P', n.D, s'⟩ [] (StepR.publish p0 p1))
    (burst : ∀ {e : Value} {s' : StV} {P' : Pw} (p0 : op.kd = 16) (p1 : burstR ss cap E op.nm n.pw n.s e s' P'), motive e 0 ⟨P', n.D, s'⟩ [] (StepR.burst p0 p1))
    (arm : ∀ {e : Value} (p0 : op.kd = 17) (p1 : e = (if n.pw.down then E 0 else .nilIface)), motive e 0 ⟨if n.pw.down then n.pw else Pw.arm op.n, n.D, n.s⟩ [] (StepR.arm p0 p1))
    (crash : ∀ {m : Int} {n' : NdV} {tr : List Ask} (p0 : op.kd = 18) (p1 : ndCrash ss ns cap n tr n'), motive .nilIface m n' tr (StepR.crash p0 p1))
    (other : ∀  (p0 : ∀ i : Nat, i < 19 → op.kd ≠ (i : Int)), motive .nilIface 0 n [] (StepR.other p0))
    {e : Value} {m : Int} {n' : NdV} {tr : List Ask} (h : StepR E ss ns cap op n e m n' tr) : motive e m n' tr h := by
  obtain ⟨hh, hm⟩ := h (fun e m n' tr => ∃ hh : StepR E ss ns cap op n e m n' tr, motive e m n' tr hh)
    (fun _ _ _ _ p0 p1 => ⟨StepR.dwsec p0 p1, dwsec p0 p1⟩)
    (fun _ _ _ p0 p1 => ⟨StepR.dwrite p0 p1, dwrite p0 p1⟩)
    (fun _ _ p0 => ⟨StepR.dread p0, dread p0⟩)
    (fun _ _ p0 p1 => ⟨StepR.dsync p0 p1, dsync p0 p1⟩)
    (fun _ _ p0 p1 => ⟨StepR.create p0 p1, create p0 p1⟩)
    (fun _ _ _ p0 p1 => ⟨StepR.write p0 p1, write p0 p1⟩)
    (fun _ _ _ p0 p1 => ⟨StepR.append p0 p1, append p0 p1⟩)
    (fun _ _ p0 p1 => ⟨StepR.trunc p0 p1, trunc p0 p1⟩)
    (fun _ _ p0 p1 => ⟨StepR.read p0 p1, read p0 p1⟩)
    (fun _ p0 => ⟨StepR.stat p0, stat p0⟩)
    (fun _ p0 => ⟨StepR.list p0, list p0⟩)
    (fun _ _ p0 p1 => ⟨StepR.sync p0 p1, sync p0 p1⟩)
    (fun _ _ p0 p1 => ⟨StepR.syncDir p0 p1, syncDir p0 p1⟩)
    (fun _ _ p0 p1 => ⟨StepR.syncAll p0 p1, syncAll p0 p1⟩)
    (fun _ _ p0 p1 => ⟨StepR.rename p0 p1, rename p0 p1⟩)
    (fun _ _ p0 p1 => ⟨StepR.delete p0 p1, delete p0 p1⟩)
    (fun _ _ _ p0 p1 => ⟨StepR.publish p0 p1, publish p0 p1⟩)
    (fun _ _ _ p0 p1 => ⟨StepR.burst p0 p1, burst p0 p1⟩)
    (fun _ p0 p1 => ⟨StepR.arm p0 p1, arm p0 p1⟩)
    (fun _ _ _ p0 p1 => ⟨StepR.crash p0 p1, crash p0 p1⟩)
    (fun p0 => ⟨StepR.other p0, other p0⟩)
  exact hm

theorem StepR.inv {E : Nat → Value} {ss ns cap M : Nat} {op : OpV} {n n' : NdV} {e : Value} {m : Int} {tr : List Ask} (h : StepR E ss ns cap op n e m n' tr) (hI : StI ss cap M n.s) (hb : M + 4 < 2 ^ 28) : StI ss cap (M + 4) n'.s := by
  cases h using StepR.ind with
  | dwsec _ h => exact hI.mono (by omega) hb
  | dwrite _ h => exact hI.mono (by omega) hb
  | dread => exact hI.mono (by omega) hb
  | dsync _ h => exact hI.mono (by omega) hb
  | create _ h => exact (h.inv hI (by omega)).mono (by omega) hb
  | write _ h => exact (h.inv hI).mono (by omega) hb
  | append _ h => exact (h.inv hI).mono (by omega) hb
  | trunc _ h => exact (h.inv hI).mono (by omega) hb
  | read _ h => exact hI.mono (by omega) hb
  | stat => exact hI.mono (by omega) hb
  | list => exact hI.mono (by omega) hb
  | sync _ h => exact (h.inv hI).mono (by omega) hb
  | syncDir _ h => exact (h.inv hI).mono (by omega) hb
  | syncAll _ h => exact (h.inv hI).mono (by omega) hb
  | rename _ h => exact (h.inv hI (by omega)).mono (by omega) hb
  | delete _ h => exact (h.inv hI (by omega)).mono (by omega) hb
  | publish _ h => exact h.inv hI hb
  | burst _ h => exact (h.inv hI).mono (by omega) hb
  | arm => exact hI.mono (by omega) hb
  | crash _ h =>
    obtain ⟨_, trD, trS, _, hc, _⟩ := h
    exact (hI.crash hc).mono (by omega) hb
  | other => exact hI.mono (by omega) hb

end Go.Proofs.Qxb6500695aGreatFmt
