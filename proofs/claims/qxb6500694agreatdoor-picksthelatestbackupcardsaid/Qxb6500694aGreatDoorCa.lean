/-
  CONTRACTS, PART A: words for the archive's data; the small readers.
-/
import Derived.Test.Qxb6500694aGreatDoorVa
import Derived.Test.Qxb6500694aGreatDoorEngK
namespace Go.Proofs.Qxb6500694aGreatDoor
open Go Go.Eng Go.Proofs
set_option maxRecDepth 100000
set_option linter.unusedVariables false
set_option linter.unusedSimpArgs false

theorem wrapI {x : Int} (h1 : -9223372036854775808 ≤ x) (h2 : x < 9223372036854775808) : IntKind.wrap .i64 x = x := by
  simp only [IntKind.wrap, IntKind.bits, IntKind.signed]
  simp
  omega

theorem wrapU {x : Int} (h1 : 0 ≤ x) (h2 : x < 18446744073709551616) : IntKind.wrap .u64 x = x := by
  simp only [IntKind.wrap, IntKind.bits, IntKind.signed]
  simp
  omega

theorem wrapT {x : Int} (h1 : 0 ≤ x) (h2 : x < 4294967296) : IntKind.wrap .u32 x = x := by
  simp only [IntKind.wrap, IntKind.bits, IntKind.signed]
  simp
  omega

def inU (x : Int) : Prop := 0 ≤ x ∧ x < 18446744073709551616

theorem wrapU_in (x : Int) : inU (IntKind.wrap .u64 x) := by
  unfold inU
  simp only [IntKind.wrap, IntKind.bits, IntKind.signed]
  simp
  omega

/-- A manifest. -/
structure Man where
  id : Int
  par : Int
  tl : Int
  start : Int
  stop : Int
  pp : Option Addr
  pn : Nat
  pc : Nat

def Man.cs (m : Man) : List Value := [.int .u64 m.id, .int .u64 m.par, .int .u32 m.tl, .int .u64 m.start, .int .u64 m.stop, .slice m.pp m.pn m.pc]
def Man.val (m : Man) : Value := .agg #[.int .u64 m.id, .int .u64 m.par, .int .u32 m.tl, .int .u64 m.start, .int .u64 m.stop, .slice m.pp m.pn m.pc]
def Man.zero : Man := ⟨0, 0, 0, 0, 0, none, 0, 0⟩

structure Hist where
  tl : Int
  par : Int
  br : Int

def Hist.cs (m : Hist) : List Value := [.int .u32 m.tl, .int .u32 m.par, .int .u64 m.br]
def Hist.val (m : Hist) : Value := .agg #[.int .u32 m.tl, .int .u32 m.par, .int .u64 m.br]

structure Leg where
  tl : Int
  fr : Int
  to : Int

def Leg.cs (m : Leg) : List Value := [.int .u32 m.tl, .int .u64 m.fr, .int .u64 m.to]

structure Com where
  lsn : Int
  time : Int
  sp : Option Addr
  sn : Nat
  sc : Nat
  cp : Option Addr
  cn : Nat
  cc : Nat

def Com.cs (m : Com) : List Value := [.int .u64 m.lsn, .int .i64 m.time, .slice m.sp m.sn m.sc, .slice m.cp m.cn m.cc]

/-- A slice that can be read: its elements, each laid by enc into sz cells. -/
structure ReadL {α : Type} (H : Heap) (sz : Nat) (enc : α → List Value) (p : Option Addr) (n : Nat) (xs : List α) : Prop where
  len : n = xs.length
  cells : ∀ i (hi : i < xs.length), ∃ b o, p = some ⟨b, o, none⟩ ∧ Cells H b (o + i * sz) (enc xs[i])

theorem ReadL.sub {α : Type} {H H' : Heap} {sz : Nat} {enc : α → List Value} {p : Option Addr} {n : Nat} {xs : List α} (h : ReadL H sz enc p n xs) (hs : Sub H H') : ReadL H' sz enc p n xs :=
  ⟨h.len, fun i hi => let ⟨b, o, h1, h2⟩ := h.cells i hi; ⟨b, o, h1, hs.cells h2⟩⟩

theorem ReadL.of {α : Type} {H : Heap} {T sz : Nat} {enc : α → List Value} {p : Option Addr} {n c : Nat} {xs : List α} (h : OwnL H T sz enc p n c xs) : ReadL H sz enc p n xs :=
  ⟨h.len, fun _ hi => h.cells hi⟩

theorem ReadL.nil {α : Type} {H : Heap} {sz : Nat} {enc : α → List Value} {p : Option Addr} : ReadL H sz enc p 0 [] := ⟨rfl, fun _ hi => by simp at hi⟩

/-- A set: its key is one of the eight. -/
structure SetV where
  key : Int
  val : Int

def SetV.cs (s : SetV) : List Value := [.int .i64 s.key, .int .u64 s.val]

def SetsOk (H : Heap) (p : Option Addr) (n : Nat) : Prop := n ≤ 65536 ∧ ∃ xs : List SetV, ReadL H 2 SetV.cs p n xs ∧ ∀ s ∈ xs, 0 ≤ s.key ∧ s.key < 8

def Com.ok (H : Heap) (c : Com) : Prop := inU c.lsn ∧ SetsOk H c.sp c.sn

theorem Com.ok.sub {H H' : Heap} {c : Com} (h : c.ok H) (hs : Sub H H') : c.ok H' := by
  obtain ⟨h1, h4, xs, h2, h3⟩ := h
  exact ⟨h1, h4, xs, h2.sub hs, h3⟩

/-- The variables that hold the errors. -/
def Globs (H : Heap) : Prop := ∀ g, g ∈ [0, 1, 2, 4, 5, 10] → ∃ t v, Cells H g 0 [.iface t v]

theorem Globs.sub {H H' : Heap} (h : Globs H) (hs : Sub H H') : Globs H' := fun g hg => let ⟨t, v, h1⟩ := h g hg; ⟨t, v, hs.cells h1⟩

/-- A log: at most 2^16 commits, each in order. -/
def LogOk (H : Heap) (v : Value) : Prop := ∃ p n c xs, v = .slice p n c ∧ ReadL H 4 Com.cs p n xs ∧ (∀ x ∈ xs, x.ok H) ∧ n ≤ 65536

/-- The archive as it lies: the manifests, the logs, the histories. -/
structure Arch (H : Heap) (ba : Nat) (esM esL esH : Array MapEntry) : Prop where
  ex : ∃ rm rl rh cM cL cH mp, H ba = some (.cells #[.map (some rm), mp, .map (some rl), .map (some rh)] 118 (0, 0)) ∧ H rm = some (.map esM cM) ∧ H rl = some (.map esL cL) ∧ H rh = some (.map esH cH) ∧
    MapOk .u64 esM cM ∧ MapOk .u32 esL cL ∧ MapOk .u32 esH cH
  man : ∀ e ∈ esM.toList, ∃ m : Man, e.val = m.val ∧ m.id = keyN e.key
  log : ∀ e ∈ esL.toList, LogOk H e.val
  his : ∀ e ∈ esH.toList, ∃ m : Hist, e.val = m.val ∧ m.tl = keyN e.key ∧ inU m.br ∧ 0 ≤ m.par ∧ m.par < m.tl ∧ m.tl < 131072 ∧ (m.par = 0 → m.br = 0)
  sizeM : esM.size ≤ 131072
  sizeH : esH.size ≤ 131072

theorem LogOk.sub {H H' : Heap} {v : Value} (h : LogOk H v) (hs : Sub H H') : LogOk H' v := by
  obtain ⟨p, n, c, xs, h1, h2, h3, h4⟩ := h
  exact ⟨p, n, c, xs, h1, h2.sub hs, fun x hx => (h3 x hx).sub hs, h4⟩

theorem Arch.sub {H H' : Heap} {ba : Nat} {esM esL esH : Array MapEntry} (h : Arch H ba esM esL esH) (hs : Sub H H') : Arch H' ba esM esL esH := by
  obtain ⟨rm, rl, rh, cM, cL, cH, mp, h1, h2, h3, h4, h5⟩ := h.ex
  exact ⟨⟨rm, rl, rh, cM, cL, cH, mp, hs _ _ h1, hs _ _ h2, hs _ _ h3, hs _ _ h4, h5⟩, h.man, fun e he => (h.log e he).sub hs, h.his, h.sizeM, h.sizeH⟩

/-- The manifest, the history under a key. -/
def manAt (esM : Array MapEntry) (id : Int) (m : Man) : Prop := iget esM.toList id = some m.val
def hisAt (esH : Array MapEntry) (t : Int) (m : Hist) : Prop := iget esH.toList t = some m.val

theorem f13_ht {op0_0 op0_1 op0_2 op0_3 : Int} {op0_4 : Bool} {op0_5 : Int} {op0_6 : Option Addr} {op0_6n op0_6c : Nat} {op0_7 : Option Addr} {op0_7n op0_7c : Nat} {op0_8 : Option Addr} {op0_8n op0_8c : Nat} {H : Heap} :
    HT Tryz.prog 13 [.agg #[.int .u8 op0_0, .int .u32 op0_1, .int .u64 op0_2, .int .i64 op0_3, .bool op0_4, .int .i64 op0_5, .slice op0_6 op0_6n op0_6c, .slice op0_7 op0_7n op0_7c, .slice op0_8 op0_8n op0_8c]] H fun v H' =>
      H' = H ∧ ∃ bk, v = .agg #[.int .u32 op0_1, .bool op0_4, .int .u64 op0_2, .int .i64 op0_3, .int .u64 bk] := by
  apply f13_of
  intro b1 b2
  exact ⟨rfl, _, rfl⟩

/-- What a look into the three maps gives. -/
theorem look_man {P : Unit} {H : Heap} {ba : Nat} {esM esL esH : Array MapEntry} (hA : Arch H ba esM esL esH) {rm cM : Nat} (h : MapOk .u64 esM cM) (id : Int) :
    (∃ m : Man, iget esM.toList id = some m.val ∧ m.id = id ∧ LookIs Tryz.prog 113 rm esM cM (.int .u64 id) true (.tuple #[m.val, .bool true])) ∨
    (iget esM.toList id = none ∧ LookIs Tryz.prog 113 rm esM cM (.int .u64 id) true (.tuple #[Man.zero.val, .bool false])) := by
  have hlook := lookIs_int (P := Tryz.prog) (t := 113) (r := rm) (c := cM) (n := id) (ok := true) (zero := Man.zero.val) Tryz.underlying113 Tryz.underlying26 (inf := Tryz.t97) (by kernel_rfl) (by kernel_rfl) h.1
  cases hg : iget esM.toList id with
  | none => simp only [lookV, hg] at hlook; exact .inr ⟨rfl, hlook⟩
  | some v =>
    obtain ⟨e, he, hk, hv⟩ := iget_mem hg
    obtain ⟨m, hm, hid⟩ := hA.man e he
    have hvm : v = m.val := by rw [← hv, hm]
    subst hvm
    simp only [lookV, hg] at hlook
    exact .inl ⟨m, rfl, hid.trans hk, hlook⟩

def Hist.zero : Hist := ⟨0, 0, 0⟩
def Hist.good (m : Hist) (t : Int) : Prop := m.tl = t ∧ inU m.br ∧ 0 ≤ m.par ∧ m.par < m.tl ∧ m.tl < 131072 ∧ (m.par = 0 → m.br = 0)

theorem look_his {H : Heap} {ba : Nat} {esM esL esH : Array MapEntry} (hA : Arch H ba esM esL esH) {rm cM : Nat} (h : MapOk .u32 esH cM) (t : Int) :
    (∃ m : Hist, iget esH.toList t = some m.val ∧ m.good t ∧ LookIs Tryz.prog 116 rm esH cM (.int .u32 t) true (.tuple #[m.val, .bool true]) ∧ LookIs Tryz.prog 116 rm esH cM (.int .u32 t) false m.val) ∨
    (iget esH.toList t = none ∧ LookIs Tryz.prog 116 rm esH cM (.int .u32 t) true (.tuple #[Hist.zero.val, .bool false]) ∧ LookIs Tryz.prog 116 rm esH cM (.int .u32 t) false Hist.zero.val) := by
  have hlook := lookIs_int (P := Tryz.prog) (t := 116) (r := rm) (c := cM) (n := t) (ok := true) (zero := Hist.zero.val) Tryz.underlying116 Tryz.underlying29 (inf := Tryz.t65) (by kernel_rfl) (by kernel_rfl) h.1
  have hlook2 := lookIs_int (P := Tryz.prog) (t := 116) (r := rm) (c := cM) (n := t) (ok := false) (zero := Hist.zero.val) Tryz.underlying116 Tryz.underlying29 (inf := Tryz.t65) (by kernel_rfl) (by kernel_rfl) h.1
  cases hg : iget esH.toList t with
  | none => simp only [lookV, hg] at hlook hlook2; exact .inr ⟨rfl, hlook, hlook2⟩
  | some v =>
    obtain ⟨e, he, hk, hv⟩ := iget_mem hg
    obtain ⟨m, hm, hid, hrest⟩ := hA.his e he
    have hvm : v = m.val := by rw [← hv, hm]
    subst hvm
    simp only [lookV, hg] at hlook hlook2
    exact .inl ⟨m, rfl, ⟨hid.trans hk, hrest⟩, hlook, hlook2⟩

theorem look_log {H : Heap} {ba : Nat} {esM esL esH : Array MapEntry} (hA : Arch H ba esM esL esH) {rm cM : Nat} (h : MapOk .u32 esL cM) (t : Int) :
    ∃ p n c xs, LookIs Tryz.prog 115 rm esL cM (.int .u32 t) false (.slice p n c) ∧ ReadL H 4 Com.cs p n xs ∧ (∀ x ∈ xs, x.ok H) ∧ n ≤ 65536 := by
  have hlook := lookIs_int (P := Tryz.prog) (t := 115) (r := rm) (c := cM) (n := t) (ok := false) (zero := .slice none 0 0) Tryz.underlying115 Tryz.underlying29 (inf := Tryz.t72) (by kernel_rfl) (by kernel_rfl) h.1
  cases hg : iget esL.toList t with
  | none => simp only [lookV, hg] at hlook; exact ⟨none, 0, 0, [], hlook, ReadL.nil, by simp, by omega⟩
  | some v =>
    obtain ⟨e, he, hk, hv⟩ := iget_mem hg
    obtain ⟨p, n, c, xs, h1, h2⟩ := hA.log e he
    simp only [lookV, hg, ← hv, h1] at hlook
    exact ⟨p, n, c, xs, hlook, h2⟩


section
variable {H : Heap} {ba : Nat} {esM esL esH : Array MapEntry}

theorem f33_ht (hA : Arch H ba esM esL esH) (hG : Globs H) (id : Int) :
    HT Tryz.prog 33 [.pointer (some ⟨ba, 0, none⟩), .int .u64 id] H fun v H' => H' = H ∧
      ((∃ m : Man, iget esM.toList id = some m.val ∧ m.id = id ∧ v = .tuple #[m.val, .nilIface]) ∨ (iget esM.toList id = none ∧ ∃ t x, v = .tuple #[Man.zero.val, .iface t x])) := by
  obtain ⟨rm, rl, rh, cM, cL, cH, mp, h1, h2, h3, h4, h5, h6, h7⟩ := hA.ex
  apply f33_of
  intro b4
  refine ⟨_, _, rfl, _, Cells.of h1 rfl, _, _, _, rfl, h2, ?_⟩
  rcases look_man (P := ()) hA (rm := rm) h5 id with ⟨m, hg, hid, hl⟩ | ⟨hg, hl⟩
  · exact ⟨m.id, m.par, m.tl, m.start, m.stop, m.pp, m.pn, m.pc, true, hl, fun b6 => ⟨(fun h => by cases h), fun _ => ⟨rfl, .inl ⟨m, hg, hid, rfl⟩⟩⟩⟩
  · obtain ⟨t, x, hx⟩ := hG 4 (by simp)
    exact ⟨0, 0, 0, 0, 0, none, 0, 0, false, hl, fun b6 => ⟨fun _ => ⟨t, x, hx, rfl, .inr ⟨hg, t, x, rfl⟩⟩, (fun h => by cases h)⟩⟩

theorem f21_ht (hA : Arch H ba esM esL esH) (hG : Globs H) (t : Int) :
    HT Tryz.prog 21 [.pointer (some ⟨ba, 0, none⟩), .int .u32 t] H fun v H' => H' = H ∧
      ((∃ m : Hist, iget esH.toList t = some m.val ∧ m.good t ∧ v = .tuple #[m.val, .nilIface]) ∨ (iget esH.toList t = none ∧ ∃ t x, v = .tuple #[Hist.zero.val, .iface t x])) := by
  obtain ⟨rm, rl, rh, cM, cL, cH, mp, h1, h2, h3, h4, h5, h6, h7⟩ := hA.ex
  apply f21_of
  intro b4
  refine ⟨_, _, rfl, _, Cells.of h1 rfl, _, _, _, rfl, h4, ?_⟩
  rcases look_his hA (rm := rh) h7 t with ⟨m, hg, hgood, hl, _⟩ | ⟨hg, hl, _⟩
  · exact ⟨m.tl, m.par, m.br, true, hl, fun b6 => ⟨(fun h => by cases h), fun _ => ⟨rfl, .inl ⟨m, hg, hgood, rfl⟩⟩⟩⟩
  · obtain ⟨tt, x, hx⟩ := hG 0 (by simp)
    exact ⟨0, 0, 0, false, hl, fun b6 => ⟨fun _ => ⟨tt, x, hx, rfl, .inr ⟨hg, tt, x, rfl⟩⟩, (fun h => by cases h)⟩⟩

theorem wrapS {i : Nat} (h : i < 4611686018427387904) : IntKind.wrap .i64 ((i : Int) + 1) = ((i + 1 : Nat) : Int) := by
  rw [wrapI] <;> omega

theorem wrapP {i : Nat} (h : i < 4611686018427387904) (h0 : 0 < i) : IntKind.wrap .i64 ((i : Int) - 1) = ((i - 1 : Nat) : Int) := by
  rw [wrapI] <;> omega

theorem Com.lsn_in {c : Com} (h : c.ok H) : inU c.lsn := h.1

theorem f69_ht (hA : Arch H ba esM esL esH) (t : Int) :
    HT Tryz.prog 69 [.pointer (some ⟨ba, 0, none⟩), .int .u32 t] H fun v H' => H' = H ∧ ∃ x, inU x ∧ v = .int .u64 x := by
  obtain ⟨rm, rl, rh, cM, cL, cH, mp, h1, h2, h3, h4, h5, h6, h7⟩ := hA.ex
  apply f69_of
  obtain ⟨p, n, c, xs, hl, hr, hok, hn⟩ := look_log hA (rm := rl) h6 t
  refine ⟨_, _, rfl, _, Cells.of h1 rfl, _, _, _, rfl, h3, p, n, c, hl, fun hd => ?_, fun hd => ?_⟩
  · have hpos : 0 < n := by simpa using hd
    obtain ⟨b, o, hp, hc⟩ := hr.cells (n - 1) (by have := hr.len; omega)
    rw [wrapP (by omega) hpos]
    refine ⟨b, o, hp, by omega, by omega, _, hc.part 0 rfl (by simp [Com.cs]), rfl, _, (hok _ (List.getElem_mem _)).1, rfl⟩
  · rcases look_his hA (rm := rh) h7 t with ⟨m, hg, hgood, _, hl⟩ | ⟨hg, _, hl⟩
    · exact ⟨_, _, rfl, _, Cells.of h1 rfl, _, _, _, rfl, h4, m.tl, m.par, m.br, hl, rfl, m.br, hgood.2.1, rfl⟩
    · exact ⟨_, _, rfl, _, Cells.of h1 rfl, _, _, _, rfl, h4, 0, 0, 0, hl, rfl, 0, by simp [inU], rfl⟩

/-- Where the path leaves. -/
def leavesV (xs : List Hist) (i : Nat) : Value := match xs[i + 1]? with
  | some m => .tuple #[.int .u64 m.br, .bool true]
  | none => .tuple #[.int .u64 0, .bool false]

theorem f70_ht {p : Option Addr} {n c : Nat} {xs : List Hist} (hr : ReadL H 3 Hist.cs p n xs) (hn : n < 4611686018427387904) {i : Nat} (hi : i < n) :
    HT Tryz.prog 70 [.slice p n c, .int .i64 (i : Int)] H fun v H' => H' = H ∧ v = leavesV xs i := by
  have hlen := hr.len
  apply f70_of
  unfold f70_pre
  rw [wrapS (by omega)]
  refine ⟨fun hd => ?_, fun hd => ?_⟩
  · have hd := of_decide_eq_true hd
    obtain ⟨b, o, hp, hc⟩ := hr.cells (i + 1) (by omega)
    refine ⟨b, o, hp, by omega, by omega, _, hc.part 2 rfl (by simp [Hist.cs]), rfl, ?_⟩
    rw [leavesV, List.getElem?_eq_getElem (by omega)]
  · have hd := of_decide_eq_false hd
    refine ⟨rfl, ?_⟩
    rw [leavesV, List.getElem?_eq_none (by omega)]

end

end Go.Proofs.Qxb6500694aGreatDoor
