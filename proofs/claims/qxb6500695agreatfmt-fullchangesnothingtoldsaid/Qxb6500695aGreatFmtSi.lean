/-
  THE STORE, PART I: Images, Clean.
-/
import Derived.Test.Qxb6500695aGreatFmtSh
namespace Go.Eng
open Go
set_option linter.unusedVariables false
set_option linter.unusedSimpArgs false

/-- make([]T, 0, c). -/
theorem semOk_make0 {P : Program} {t T : TypeId} {inf : TypeInfo} {z : Value} {c : Nat} {h : Heap} {K : Value → Heap → Prop}
    (ht : P.underlying t = some (.slice T)) (hi : P.info? T = some inf) (hz : inf.zero = some z) (hc : c < 2 ^ 32) (hb : inf.bytes ≤ 4096)
    (H : ∀ b h' arr, arr.size = c * inf.size → Al h (.cells arr T (0, 0)) b h' → K (.slice (some ⟨b, 0, none⟩) 0 c) h') :
    SemOk P (Instr.makeSlice t (.int .i64 0) (.int .i64 (c : Int))) h K := by
  intro w hw
  have hwc : IntKind.i64.wrap (c : Int) = c := by
    simp only [IntKind.wrap, IntKind.bits, IntKind.signed]
    simp
    omega
  have hw0 : IntKind.i64.wrap 0 = 0 := by decide
  have hbig : ¬ ((281474976710656 : Int) < (inf.bytes : Int) * (c : Int)) := by
    have h1 : inf.bytes * c ≤ 4096 * c := Nat.mul_le_mul_right _ hb
    have : (inf.bytes : Int) * (c : Int) = ((inf.bytes * c : Nat) : Int) := by simp
    rw [this]
    omega
  have hc0 : ¬ ((c : Int) < 0) := by omega
  have key : ∃ arr : Array Value, arr.size = c * inf.size ∧ (Instr.makeSlice t (.int .i64 0) (.int .i64 (c : Int))).run P w = .ok (.slice (some ⟨w.heap.size, 0, none⟩) 0 c) { w with heap := w.heap.push (.cells arr T (0, 0)) } := by
    unfold Instr.makeSlice
    by_cases h0 : c * inf.size = 0
    · refine ⟨#[], by simp [h0], ?_⟩
      have hr0 : Array.range 0 = #[] := rfl
      simp [underlying, ht, sizeOf, typeInfo, hi, asInt, asIntOf, hwc, hw0, hbig, newRow, askRoom, zeroValue, hz, h0, hc0, hr0]
    · refine ⟨(Array.range (c * inf.size)).map (z.cells[· % z.cells.size]!), by simp, ?_⟩
      simp [underlying, ht, sizeOf, typeInfo, hi, asInt, asIntOf, hwc, hw0, hbig, newRow, askRoom, zeroValue, hz, h0, hc0]
  obtain ⟨arr, hs, hrun⟩ := key
  rw [hrun]
  exact ⟨_, ⟨rfl, rfl, rfl⟩, hw.push _, Fr.push _, H _ _ arr hs ⟨hw.fresh, rfl⟩⟩

end Go.Eng

namespace Go.Proofs.Qxb6500695aGreatFmt
open Go Go.Eng Go.Proofs
set_option maxRecDepth 100000
set_option linter.unusedVariables false
set_option linter.unusedSimpArgs false
set_option linter.unusedSectionVars false

/-- An image of an object. -/
structure Im where
  nm : ByteArray
  id : Int
  size : Nat
  res : Nat
  uns : Nat
  dp : Option Addr
  dn : Nat
  dc : Nat

def Im.cs (i : Im) : List Value := [.string i.nm, .int .u64 i.id, .int .i64 (i.size : Int), .int .i64 (i.res : Int), .int .i64 (i.uns : Int), .slice i.dp i.dn i.dc]
theorem Im.sz (i : Im) : (Im.cs i).length = 6 := rfl

/-- It is the image of what the name means. -/
def ImOk (s : StV) (nm : ByteArray) (i : Im) : Prop := i.nm = nm ∧ ∃ b, s.m nm = some b ∧ i.id = (s.O b).id ∧ i.size = (s.O b).size ∧ i.res = (s.O b).res ∧ (i.uns = 0 ↔ (s.O b).pl.clean)

section
variable {S : Nat × Int → Prop} {H H' : Heap} {g g' : Gh} {k : Int} {sb ss cap bd pwb : Nat} {s : StV} {E : Nat → Value} {P : Pw}

/-- What is not tagged has turned. -/
theorem Ev.untag {b : Nat} (hg : GOk H g) (hb : g b = none) (hk : ∀ x, x ≠ b → H' x = H x) : Ev (fun _ => False) H g H' g := by
  have hne : ∀ x tg, g x = some tg → x ≠ b := fun x tg hx hc => by rw [hc, hb] at hx; cases hx
  exact ⟨fun x tg hx => by rw [hk x (hne x tg hx)]; exact hg x tg hx, fun _ _ h => h, fun x tg hx _ => hk x (hne x tg hx)⟩

theorem GOk.fresh (hg : GOk H g) {b : Nat} (hb : H b = none) : g b = none := by
  cases hc : g b with
  | none => rfl
  | some tg => exact absurd hb (hg b tg hc)

def imgPost (H0 : Heap) (g0 : Gh) (s : StV) (v : Value) (H' : Heap) : Prop :=
  ∃ p n c ims g', v = .tuple #[.slice p n c, .nilIface] ∧ Ev (fun tg => tg = (42, 0)) H0 g0 H' g' ∧ OwnT H' g' (42, 0) 103 6 Im.cs p n c ims ∧ ims.length = s.xs.length ∧ ∀ i (h : i < ims.length) (hx : i < s.xs.length), ImOk s s.xs[i] ims[i]

theorem off42 : Off (fun tg => tg = ((42 : Nat), (0 : Int))) := fun tg h hc => by rw [h] at hc; simp at hc

theorem f49_L1_ht {H0 : Heap} {g0 : Gh} (hN : StN ss cap bd s) (hmem : ∀ x, x ∈ s.xs ↔ s.m x ≠ none) (hmT : ∀ x b, s.m x = some b → b ∈ s.T) (hxb : s.xs.length < 2 ^ 30) {op : Option Addr} {on oc : Nat} :
    ∀ (d i : Nat) (H : Heap) (g : Gh) (p : Option Addr) (n c : Nat) (ims : List Im), s.xs.length - i = d → i ≤ s.xs.length → Ev (fun tg => tg = (42, 0)) H0 g0 H g → StR H g k sb ss cap bd pwb s → OwnT H g (23, k) 9 1 Str.cs op on oc s.xs → OwnT H g (42, 0) 103 6 Im.cs p n c ims → ims.length = i →
      (∀ j (h : j < ims.length) (hx : j < s.xs.length), ImOk s s.xs[j] ims[j]) →
      f49_L1 (some ⟨sb, 0, none⟩) p n c op on oc (on : Int) (i : Int) H (imgPost H0 g0 s) := by
  intro d
  induction d with
  | zero =>
    intro i H g p n c ims hd hi hE hR hord hims hlen hall
    have hon := hord.own.len
    apply f49_L1_of
    exact ⟨fun hx => by have := of_decide_eq_true hx; omega, fun _ => ⟨p, n, c, ims, g, rfl, hE, hims, by omega, hall⟩⟩
  | succ d ih =>
    intro i H g p n c ims hd hi hE hR hord hims hlen hall
    have hon := hord.own.len
    have hil : i < s.xs.length := by omega
    have hm : cap * ss ≤ 12 * 16 := Nat.mul_le_mul hN.shp.2.2 hN.shp.2.1
    have hbdl := hN.bd
    apply f49_L1_of
    refine ⟨fun _ => ?_, fun hx => by have := of_decide_eq_false hx; omega⟩
    obtain ⟨b', o', hp, hc⟩ := hord.own.cells (i := i) hil
    obtain ⟨db, q, kk, dd⟩ := hR.ex
    obtain ⟨lr, op', on', oc', sr, jp, jn, jc, h1, h2, h3, h4, h5, h6, h7⟩ := dd.ex
    obtain ⟨b, hb⟩ : ∃ b, s.m s.xs[i] = some b := by
      cases hx : s.m s.xs[i] with
      | none => exact absurd hx ((hmem _).1 (List.getElem_mem hil))
      | some b => exact ⟨b, rfl⟩
    obtain ⟨es, ck, hr, hl⟩ := h3.look s.xs[i]
    rw [hb] at hl
    have hbT := hmT _ _ hb
    have hO := hR.obs b hbT
    obtain ⟨sp, sn, sc, oo, _⟩ := hO.ex
    have hfit := hO.fit.1
    refine ⟨b', o', hp, by omega, by omega, s.xs[i], by simpa [Str.cs] using hc, sb, 0, rfl, _, Cells.of kk rfl, db, 0, rfl, some lr, Cells.of h1 rfl, lr, es, ck, rfl, hr, _, hl, b, 0, rfl, _, Cells.of oo rfl, ?_⟩
    refine semOk_make (T := 5) (inf := Tryz.t5) (z := .int .u8 0) (l := (s.O b).size) (c := (s.O b).size) Tryz.underlying35 (by kernel_rfl) (by kernel_rfl) rfl rfl (Nat.le_refl _) (by omega) (by decide) fun nb H1 ha1 => ⟨_, _, _, rfl, ?_⟩
    have e1 : Ev (fun tg => tg = (42, 0)) H g H1 g := Ev.sub hE.ok ha1.sub
    have hgn := GOk.fresh hE.ok ha1.fresh
    have oo1 := ha1.keep oo
    have hO1 := hO.ev e1 (fun hc => by cases hc) fun tg ht hc => by rw [hc] at ht; have := ht.rng.2; simp at this
    refine ⟨b, 0, rfl, _, Cells.of oo1 rfl, ?_⟩
    refine (f78_ht e1.ok hO1.pl (by omega) hgn ha1.same (o := 0) (n := (s.O b).size) (c := (s.O b).size) (off := 0) (by simp) (Nat.le_refl _) (by omega) (by omega)).mono fun v H2 ⟨hv2, hk2, arr', hb2, _⟩ => ⟨hv2, ?_⟩
    have e2 := Ev.untag e1.ok hgn hk2
    have hO2 := hO1.ev e2 (fun hc => hc) fun tg _ hc => hc
    refine (f77_ht hO2).mono fun v H3 ⟨he3, uns, hv3, hun⟩ => ⟨_, _, _, _, hv3, fun ab H4 ha4 => ?_⟩
    subst he3
    have hims2 := (hims.ev (g' := g) (Ev.sub (S := fun _ => False) hE.ok ha1.sub) (fun hc => hc)).ev e2 (fun hc => hc)
    have himn := hims2.own.len
    have hi103 : Tryz.prog.info? 103 = some Tryz.t103 := by kernel_rfl
    refine appT (S := fun tg => tg = (42, 0)) (inf := Tryz.t103) (zero := .agg #[.string ⟨#[]⟩, .int .u64 0, .int .i64 0, .int .i64 0, .int .i64 0, .slice none 0 0]) (x := (⟨s.xs[i], (s.O b).id, (s.O b).size, (s.O b).res, uns, some ⟨nb, 0, none⟩, (s.O b).size, (s.O b).size⟩ : Im)) (enc := Im.cs) Tryz.underlying99 hi103 (by kernel_rfl) rfl (by decide) rfl ha4 rfl (by intro v hv; simp [Im.cs] at hv; rcases hv with rfl | rfl | rfl | rfl | rfl | rfl <;> rfl) e2.ok hims2 rfl (by omega) fun p' c' H5 g5 hpn e5 o5 _ => ⟨p', _, c', rfl, ?_⟩
    rw [wrapS (by omega)]
    have R2 := (hR.off e1 off42).off e2 none_off
    refine ih (i + 1) H5 g5 p' (n + 1) c' _ (by omega) (by omega) (((hE.trans e1).trans (e2.mono fun tg h => h.elim)).trans e5) (R2.off e5 off42) (((hord.ev e1 (fun hc => by simp at hc)).ev e2 (fun hc => hc)).ev e5 (fun hc => by simp at hc)) o5 (by simp; omega) fun j hj hx => ?_
    rcases Nat.lt_or_ge j ims.length with hlt | hge
    · rw [List.getElem_append_left hlt]
      exact hall j hlt hx
    · have hji : j = i := by simp at hj; omega
      subst hji
      rw [List.getElem_append_right hge]
      simp only [hlen, Nat.sub_self, List.getElem_cons_zero]
      exact ⟨rfl, b, hb, rfl, rfl, rfl, hun⟩

theorem f49_ht (hg : GOk H g) (hG : Gl H g E) (h : StR H g k sb ss cap bd pwb s) (hp : PwR H g k pwb P) (hN : StN ss cap bd s) (hmem : ∀ x, x ∈ s.xs ↔ s.m x ≠ none) (hmT : ∀ x b, s.m x = some b → b ∈ s.T) (hxb : s.xs.length < 2 ^ 30) (hup : P.down = false) :
    HT Tryz.prog 49 [.pointer (some ⟨sb, 0, none⟩)] H (imgPost H g s) := by
  apply f49_of
  refine checkK hG h hp (fun hd => by rw [hup] at hd; cases hd) fun _ => ?_
  obtain ⟨db, q, kk, dd⟩ := h.ex
  obtain ⟨lr, op, on, oc, sr, jp, jn, jc, h1, h2, h3, h4, h5, h6, h7⟩ := dd.ex
  have hlen := h4.own.len
  have hi103 : Tryz.prog.info? 103 = some Tryz.t103 := by kernel_rfl
  refine ⟨sb, 0, rfl, _, Cells.of kk rfl, db, 0, rfl, op, on, oc, Cells.of h1 rfl, ?_⟩
  refine semOk_make0 (inf := Tryz.t103) (z := .agg #[.string ⟨#[]⟩, .int .u64 0, .int .i64 0, .int .i64 0, .int .i64 0, .slice none 0 0]) Tryz.underlying99 hi103 (by kernel_rfl) (by omega) (by decide) fun b H1 arr hsz ha => ⟨_, _, _, rfl, ?_⟩
  obtain ⟨e1, t1⟩ := Ev.al (S := fun _ => False) hg ha (42, 0)
  have kk1 := ha.keep kk
  have h11 := ha.keep h1
  refine ⟨sb, 0, rfl, _, Cells.of kk1 rfl, db, 0, rfl, op, on, oc, Cells.of h11 rfl, ?_⟩
  refine f49_L1_ht (g0 := g) hN hmem hmT hxb _ 0 H1 _ _ 0 _ [] rfl (Nat.zero_le _) (e1.mono fun tg h => h.elim) (h.off e1 none_off) (h4.ev e1 (fun hc => hc)) ⟨⟨rfl, Im.sz, .inr ⟨b, 0, arr, rfl, ha.same, Nat.zero_le _, ?_, by simp⟩⟩, fun a ha' => by cases ha'; exact t1⟩ rfl fun j hj => by simp at hj
  rw [hsz]
  show 0 + on * 6 ≤ on * 6
  omega

/-- A crash now would change nothing. -/
def StV.clean (s : StV) : Prop := s.jr = [] ∧ ∀ x b, s.m x = some b → (s.O b).sizes = [] ∧ (s.O b).pl.clean

theorem f51_ht (hg : GOk H g) (h : StR H g k sb ss cap bd pwb s) (hmT : ∀ x b, s.m x = some b → b ∈ s.T) :
    HT Tryz.prog 51 [.pointer (some ⟨sb, 0, none⟩)] H fun v H' => ∃ g', Ev (fun tg => tg = (42, 0)) H g H' g' ∧ ∃ b : Bool, v = .bool b ∧ (b = true ↔ s.clean) := by
  obtain ⟨db, q, kk, dd⟩ := h.ex
  obtain ⟨lr, op, on, oc, sr, jp, jn, jc, h1, h2, h3, h4, h5, h6, h7⟩ := dd.ex
  have hlen := h7.own.len
  apply f51_of
  refine ⟨sb, 0, rfl, _, Cells.of kk rfl, db, 0, rfl, jp, jn, jc, Cells.of h1 rfl, fun hd => ?_, fun hd => ?_⟩
  · have hd := of_decide_eq_true hd
    refine ⟨g, Ev.refl hg, false, rfl, (fun h => by cases h), fun hc => ?_⟩
    have := hc.1
    rw [this] at hlen
    simp at hlen
    omega
  · have hd := of_decide_eq_false hd
    have hjn : s.jr = [] := List.eq_nil_of_length_eq_zero (by omega)
    obtain ⟨es, ck, q1, q2, q3⟩ := h3
    refine ⟨sb, 0, rfl, _, Cells.of kk rfl, db, 0, rfl, some lr, Cells.of h1 rfl, ?_⟩
    refine semOk_range Tryz.underlying168 q1 fun bi H1 ha1 => ⟨_, rfl, ?_⟩
    obtain ⟨e1, t1⟩ := Ev.al (S := fun tg => tg = (42, 0)) hg ha1 (42, 0)
    have loop : ∀ (d : Nat) (vs : List MapEntry) (seen : Array Nat) (G : Heap) (gg : Gh), vs.length + d = es.size + 1 → Met es seen vs → Ev (fun tg => tg = (42, 0)) H g G gg → StR G gg k sb ss cap bd pwb s → gg lr = some (22, k) → G lr = some (.map es ck) → gg bi = some (42, 0) → G bi = some (.mapIter (some lr) ck seen ck) →
        (∀ e ∈ vs, (s.O (blkOf e.val)).sizes = [] ∧ (s.O (blkOf e.val)).pl.clean) →
        f51_L1 (some ⟨bi, 0, none⟩) G fun v H' => ∃ g', Ev (fun tg => tg = (42, 0)) H g H' g' ∧ ∃ b : Bool, v = .bool b ∧ (b = true ↔ s.clean) := by
      intro d
      induction d with
      | zero =>
        intro vs seen G gg hd hmet
        have := hmet.len
        omega
      | succ d ih =>
        intro vs seen G gg hd hmet hE hR htl hlr htb hbi hcl
        apply f51_L1_of
        refine semOk_nextS hbi hlr q2 (fun hall => .inl ⟨rfl, ?_⟩) fun e he hns G1 hw1 => .inr ⟨e.key, e.val, rfl, ?_⟩
        · apply f51_L2_of
          refine ⟨(fun h => by cases h), fun _ => ⟨gg, hE, true, rfl, (fun _ => ⟨hjn, fun x b hx => ?_⟩), fun _ => rfl⟩⟩
          have hperm := hmet.perm q2.2.2.2 hall
          have hk := (keyMem q2 q3 x).2 (by rw [hx]; simp)
          obtain ⟨e, he, hek⟩ := List.mem_map.1 hk
          obtain ⟨_, b', hb', hval⟩ := keyOf q2 q3 he
          rw [hek, hx] at hb'
          have hbb : b' = b := (Option.some.inj hb').symm
          have := hcl e (hperm.mem_iff.2 he)
          rw [hval] at this
          simp only [oP, Option.map_some, blkOf, hbb] at this
          exact this
        · have e1' : Ev (fun tg => tg = (42, 0)) G gg G1 gg := Ev.wr hE.ok hw1 fun tg htg => by rw [htb] at htg; cases htg; rfl
          obtain ⟨hkey, b, hb, hval⟩ := keyOf q2 q3 he
          have hlr1 := e1'.get htl (n42 (by decide)) hlr
          have R1 := hR.off e1' off42
          have hbo : blkOf e.val = b := by rw [hval]; rfl
          apply f51_L2_of
          refine ⟨fun _ => ?_, (fun h => by cases h)⟩
          refine semOk_entryS hw1.same hlr1 q2 he ⟨keyS e.key, oP (some b), by rw [← hkey, hval], ?_⟩
          refine (f107_ht (R1.obs b (hmT _ _ hb))).mono fun v G2 ⟨he2, bb, hv2, hbb⟩ => ⟨_, hv2, fun hf => ?_, fun hf => ?_⟩
          · subst he2
            have hbf : bb = false := by simpa using hf
            refine ⟨gg, hE.trans e1', false, rfl, (fun h => by cases h), fun hc => ?_⟩
            have := hbb.2 (hc.2 _ _ hb)
            rw [hbf] at this
            exact this
          · subst he2
            have hbt : bb = true := by simpa using hf
            refine ih (vs ++ [e]) (seen.push e.born) G2 gg (by simp; omega) (hmet.push he hns) (hE.trans e1') R1 htl hlr1 htb hw1.same fun e' he' => ?_
            rcases List.mem_append.1 he' with hx | hx
            · exact hcl e' hx
            · rw [List.mem_singleton.1 hx, hbo]
              exact hbb.1 hbt
    exact loop (es.size + 1) [] #[] H1 _ (by simp) (Met.start es) e1 (h.off e1 off42) (e1.tag _ _ h2) (ha1.keep q1) t1 ha1.same fun e he => by simp at he

end

end Go.Proofs.Qxb6500695aGreatFmt
