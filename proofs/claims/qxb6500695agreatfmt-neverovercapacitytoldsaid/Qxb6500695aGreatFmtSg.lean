/-
  THE STORE, PART G: SyncAll, what a crash leaves.
-/
import Derived.Test.Qxb6500695aGreatFmtSf
namespace Go.Proofs.Qxb6500695aGreatFmt
open Go Go.Eng Go.Proofs
set_option maxRecDepth 100000
set_option linter.unusedVariables false
set_option linter.unusedSimpArgs false
set_option linter.unusedSectionVars false

/-- Objects made durable, one after the other. -/
def HardAll (ss : Nat) (s : StV) (bs : List Nat) (s' : StV) : Prop :=
  ∀ Q : List Nat → StV → Prop, Q [] s → (∀ (bs : List Nat) (s' : StV) (b : Nat) (P' : Pl), Q bs s' → hardP ss (s'.O b) P' → Q (bs ++ [b]) (hardS ss s' b P')) → Q bs s'

theorem HardAll.nil {ss : Nat} {s : StV} : HardAll ss s [] s := fun Q h0 _ => h0

theorem HardAll.snoc {ss : Nat} {s : StV} {bs : List Nat} {s' : StV} {b : Nat} {P' : Pl} (h : HardAll ss s bs s') (h2 : hardP ss (s'.O b) P') : HardAll ss s (bs ++ [b]) (hardS ss s' b P') :=
  fun Q h0 h1 => h1 _ _ _ _ (h Q h0 h1) h2

theorem HardAll.ind {ss : Nat} {s : StV} {motive : (bs : List Nat) → (s' : StV) → HardAll ss s bs s' → Prop} (nil : motive [] s HardAll.nil)
    (snoc : ∀ {bs : List Nat} {s' : StV} {b : Nat} {P' : Pl} (h1 : HardAll ss s bs s') (h2 : hardP ss (s'.O b) P'), motive bs s' h1 → motive (bs ++ [b]) (hardS ss s' b P') (h1.snoc h2))
    {bs : List Nat} {s' : StV} (h : HardAll ss s bs s') : motive bs s' h := by
  obtain ⟨hh, hm⟩ := h (fun bs s' => ∃ hh : HardAll ss s bs s', motive bs s' hh) ⟨HardAll.nil, nil⟩ fun bs s' b P' ⟨hh, hm⟩ h2 => ⟨hh.snoc h2, snoc hh h2 hm⟩
  exact hm

/-- What a crash leaves of an object. -/
def setOb (ss : Nat) (o : Ob) (kk : Nat) (P' : Pl) : Ob := { o with size := o.pickSize kk, stable := o.pickSize kk, sizes := [], res := sect ss (o.pickSize kk), pl := P' }

def setP (ss ns : Nat) (o : Ob) (kk : Nat) (ch : Int → Nat) (ks : List Int) (P' : Pl) : Prop :=
  kk ≤ o.sizes.length ∧ P'.clean ∧ Dirty o.pl ns ks ∧ (∀ i, ch i ≤ (o.pl.cache i).length) ∧ (∀ i, i ∉ ks → ch i = 0) ∧ ∀ i, P'.dur i = cutV ss (o.pickSize kk) i (settled o.pl ch i)

def setAsk (o : Ob) (kk : Nat) (ch : Int → Nat) (ks : List Int) : List Ask := sizeAsk o kk ++ ks.map fun i => ((3, o.id, i), (o.pl.cache i).length, ch i)

def setS (ss : Nat) (s : StV) (b kk : Nat) (P' : Pl) : StV := { s with used := s.used + (sect ss ((s.O b).pickSize kk) : Int), O := oset s.O b (setOb ss (s.O b) kk P') }

/-- A crash decided for objects, one after the other. -/
def SetAll (ss ns : Nat) (s : StV) (bs : List Nat) (tr : List Ask) (s' : StV) : Prop :=
  ∀ Q : List Nat → List Ask → StV → Prop, Q [] [] s → (∀ (bs : List Nat) (tr : List Ask) (s' : StV) (b kk : Nat) (ch : Int → Nat) (ks : List Int) (P' : Pl), Q bs tr s' → setP ss ns (s'.O b) kk ch ks P' → Q (bs ++ [b]) (tr ++ setAsk (s'.O b) kk ch ks) (setS ss s' b kk P')) → Q bs tr s'

theorem SetAll.nil {ss ns : Nat} {s : StV} : SetAll ss ns s [] [] s := fun Q h0 _ => h0

theorem SetAll.snoc {ss ns : Nat} {s : StV} {bs : List Nat} {tr : List Ask} {s' : StV} {b kk : Nat} {ch : Int → Nat} {ks : List Int} {P' : Pl} (h : SetAll ss ns s bs tr s') (h2 : setP ss ns (s'.O b) kk ch ks P') : SetAll ss ns s (bs ++ [b]) (tr ++ setAsk (s'.O b) kk ch ks) (setS ss s' b kk P') :=
  fun Q h0 h1 => h1 _ _ _ _ _ _ _ _ (h Q h0 h1) h2

theorem SetAll.ind {ss ns : Nat} {s : StV} {motive : (bs : List Nat) → (tr : List Ask) → (s' : StV) → SetAll ss ns s bs tr s' → Prop} (nil : motive [] [] s SetAll.nil)
    (snoc : ∀ {bs : List Nat} {tr : List Ask} {s' : StV} {b kk : Nat} {ch : Int → Nat} {ks : List Int} {P' : Pl} (h1 : SetAll ss ns s bs tr s') (h2 : setP ss ns (s'.O b) kk ch ks P'), motive bs tr s' h1 → motive (bs ++ [b]) (tr ++ setAsk (s'.O b) kk ch ks) (setS ss s' b kk P') (h1.snoc h2))
    {bs : List Nat} {tr : List Ask} {s' : StV} (h : SetAll ss ns s bs tr s') : motive bs tr s' h := by
  obtain ⟨hh, hm⟩ := h (fun bs tr s' => ∃ hh : SetAll ss ns s bs tr s', motive bs tr s' hh) ⟨SetAll.nil, nil⟩ fun bs tr s' b kk ch ks P' ⟨hh, hm⟩ h2 => ⟨hh.snoc h2, snoc hh h2 hm⟩
  exact hm

def blkOf : Value → Nat
  | .pointer (some a) => a.block
  | _ => 0

section
variable {S : Nat × Int → Prop} {H H' : Heap} {g g' : Gh} {k : Int} {sb ss cap bd pwb : Nat} {s : StV} {E : Nat → Value} {P : Pw}

theorem HardAll.same {bs : List Nat} {s' : StV} (h : HardAll ss s bs s') : s'.T = s.T ∧ s'.m = s.m ∧ s'.xs = s.xs ∧ s'.st = s.st ∧ s'.jr = s.jr ∧ s'.nxt = s.nxt ∧ ∀ x, (s'.O x).id = (s.O x).id := by
  induction h using HardAll.ind with
  | nil => exact ⟨rfl, rfl, rfl, rfl, rfl, rfl, fun _ => rfl⟩
  | snoc h hp ih =>
    obtain ⟨a1, a2, a3, a4, a5, a6, a7⟩ := ih
    refine ⟨a1, a2, a3, a4, a5, a6, fun x => ?_⟩
    rw [← a7 x]
    simp only [hardS, oset]
    split
    · rename_i hx; rw [hx]; rfl
    · rfl

theorem SetAll.same {ns : Nat} {bs : List Nat} {tr : List Ask} {s' : StV} (h : SetAll ss ns s bs tr s') : s'.T = s.T ∧ s'.m = s.m ∧ s'.xs = s.xs ∧ s'.st = s.st ∧ s'.jr = s.jr ∧ s'.nxt = s.nxt ∧ ∀ x, (s'.O x).id = (s.O x).id := by
  induction h using SetAll.ind with
  | nil => exact ⟨rfl, rfl, rfl, rfl, rfl, rfl, fun _ => rfl⟩
  | snoc h hp ih =>
    obtain ⟨a1, a2, a3, a4, a5, a6, a7⟩ := ih
    refine ⟨a1, a2, a3, a4, a5, a6, fun x => ?_⟩
    rw [← a7 x]
    simp only [setS, oset]
    split
    · rename_i hx; rw [hx]; rfl
    · rfl

theorem ids_same {s' : StV} (hids : (s.T.map fun b => (s.O b).id).Nodup) (hT : s'.T = s.T) (hid : ∀ x, (s'.O x).id = (s.O x).id) : (s'.T.map fun b => (s'.O b).id).Nodup := by
  have : (s'.T.map fun b => (s'.O b).id) = s.T.map fun b => (s.O b).id := by
    rw [hT]
    exact List.map_congr_left fun x _ => hid x
  rw [this]; exact hids

def syncAllR (ss : Nat) (E : Nat → Value) (P : Pw) (s : StV) (v : Value) (s' : StV) : Prop :=
  (P.spend.2 = false ∧ v = E 0 ∧ s' = s) ∨ (P.spend.2 = true ∧ v = .nilIface ∧ ∃ bs, HardAll ss (comS s) bs s' ∧ bs.Nodup ∧ ∀ b, b ∈ bs ↔ ∃ x, s.m x = some b)

theorem f38_ht (hg : GOk H g) (hG : Gl H g E) (h : StR H g k sb ss cap bd pwb s) (hp : PwR H g k pwb P) (hN : StN ss cap bd s) (hmT : ∀ x b, s.m x = some b → b ∈ s.T) (hinj : ∀ x y b, s.m x = some b → s.m y = some b → x = y) (hj : s.jr.length < 2 ^ 31) (hv : ∀ b ∈ vics s.jr, b ∈ s.T) (hmem : ∀ x, x ∈ s.xs ↔ s.m x ≠ none) (hxb : s.xs.length < 2 ^ 30) :
    HT Tryz.prog 38 [.pointer (some ⟨sb, 0, none⟩)] H (callPost H g k sb ss cap bd pwb P.spend.1 (syncAllR ss E P s)) := by
  have hu := hN.used
  have hcl := hN.shp.2.2
  have hbdl := hN.bd
  apply f38_of
  refine spendK hg hG h hp (fun hsp H1 e1 r1 p1 => ⟨s, g, e1.mono fun tg h => SpN.pw h, r1, p1, .inl ⟨hsp, rfl, rfl⟩⟩) fun hsp H1 e1 r1 p1 G1 => ?_
  have E1 : Ev (SpN k) H g H1 g := e1.mono fun tg h => SpN.pw h
  have hvsum : sumOf (fun b => (s.O b).res) (vics s.jr) ≤ 12 * 2 ^ 31 := by
    have aux : ∀ l : List Nat, (∀ b ∈ l, b ∈ s.T) → sumOf (fun b => (s.O b).res) l ≤ 12 * l.length := by
      intro l
      induction l with
      | nil => intro _; simp [sumOf]
      | cons x r ih =>
        intro hx
        have h1 := ih fun b hb => hx b (List.mem_cons_of_mem _ hb)
        have h2 : (s.O x).res ≤ cap := (h.obs x (hx x List.mem_cons_self)).rb
        simp only [sumOf, List.length_cons, Nat.mul_add, Nat.mul_one]
        omega
    have h3 := aux _ hv
    have h4 : (vics s.jr).length ≤ s.jr.length := List.length_filterMap_le _ _
    omega
  refine (f91_ht e1.ok r1 hcl hj (by omega) hv).mono fun v H2 ⟨g2, hv2, e2, r2⟩ => ⟨hv2, ?_⟩
  have E2 := E1.trans (e2.mono fun tg h => h.le)
  have p2 := p1.in e2
  obtain ⟨db, q, k2, d2⟩ := r2.ex
  obtain ⟨lr, op, on, oc, sr, jp, jn, jc, h1, h2, h3, h4, h5, h6, h7⟩ := d2.ex
  obtain ⟨es, ck, q1, q2, q3⟩ := h3
  refine ⟨sb, 0, rfl, _, Cells.of k2 rfl, db, 0, rfl, some lr, Cells.of h1 rfl, ?_⟩
  refine semOk_range Tryz.underlying168 q1 fun bi H3 ha3 => ⟨_, rfl, ?_⟩
  obtain ⟨e3, t3⟩ := Ev.al (S := fun _ => False) e2.ok ha3 (42, 0)
  have hes : es.size < 2 ^ 30 := by
    have := len_le q2.2.1 fun x hx => (hmem x).2 ((keyMem q2 q3 x).1 hx)
    simp at this
    omega
  have loop : ∀ (d : Nat) (vs : List MapEntry) (seen : Array Nat) (G : Heap) (gg : Gh) (s' : StV), vs.length + d = es.size + 1 → Met es seen vs → HardAll ss (comS s) (vs.map fun e => blkOf e.val) s' → Ev (SpN k) H g G gg → StR G gg k sb ss cap bd pwb s' → PwR G gg k pwb P.spend.1 →
      gg lr = some (22, k) → G lr = some (.map es ck) → gg bi = some (42, 0) → G bi = some (.mapIter (some lr) ck seen ck) → (-(2 ^ 50) - 24 * (vs.length : Int) < s'.used ∧ s'.used < 2 ^ 50 + 24 * (vs.length : Int)) →
      f38_L1 (some ⟨sb, 0, none⟩) (some ⟨bi, 0, none⟩) G (callPost H g k sb ss cap bd pwb P.spend.1 (syncAllR ss E P s)) := by
    intro d
    induction d with
    | zero =>
      intro vs seen G gg s' hd hmet
      have := hmet.len
      omega
    | succ d ih =>
      intro vs seen G gg s' hd hmet hha hE hR hP htl hlr htb hbi hub
      have hvl := hmet.len
      obtain ⟨a1, a2, a3, a4, a5, a6, a7⟩ := hha.same
      apply f38_L1_of
      refine semOk_nextS hbi hlr q2 (fun hall => .inl ⟨rfl, ?_⟩) fun e he hns G1 hw1 => .inr ⟨e.key, e.val, rfl, ?_⟩
      · apply f38_L2_of
        refine ⟨(fun h => by cases h), fun _ => ?_⟩
        obtain ⟨db', q', kk, dd⟩ := hR.ex
        refine ⟨sb, 0, rfl, _, Cells.of kk rfl, sb, 0, rfl, _, _, kk, by simp, fun G2 hw2 => ?_⟩
        obtain ⟨e2', r2'⟩ := hR.own (used' := s'.used) (nxt' := s'.nxt) (q' := { q' with g := IntKind.wrap .u64 (q'.g + 1) }) hE.ok dd hw2 rfl
        have kk2 : G2 sb = some (stB ss cap s'.used s'.nxt db' pwb { q' with g := IntKind.wrap .u64 (q'.g + 1) }) := hw2.same
        have dd2 := dd.ev e2' fun tg ht hc => by rw [hc] at ht; have := ht.2.1; simp at this
        refine ⟨sb, 0, rfl, _, Cells.of kk2 rfl, sb, 0, rfl, _, _, kk2, by simp, fun G3 hw3 => ?_⟩
        obtain ⟨e3', r3'⟩ := r2'.own (used' := s'.used) (nxt' := s'.nxt) (q' := { q' with g := IntKind.wrap .u64 (q'.g + 1), d := IntKind.wrap .u64 (q'.d + 1) }) e2'.ok dd2 hw3 rfl
        have hperm := hmet.perm q2.2.2.2 hall
        have hpb := hperm.map fun e => blkOf e.val
        have hval : ∀ e ∈ es.toList, s.m (keyS e.key) = some (blkOf e.val) := fun e he => by
          obtain ⟨_, b, hb, hv⟩ := keyOf q2 q3 he
          have hb' : s.m (keyS e.key) = some b := hb
          rw [hb', hv]; rfl
        refine ⟨s', gg, (hE.trans (e2'.mono fun tg h => SpN.st h)).trans (e3'.mono fun tg h => SpN.st h), r3', (hP.in (e2'.mono fun tg h => SpI.st h)).in (e3'.mono fun tg h => SpI.st h), .inr ⟨hsp, rfl, _, hha, ?_, fun b => ?_⟩⟩
        · rw [hpb.nodup_iff]
          unfold List.Nodup
          rw [List.pairwise_map]
          have hkn := List.pairwise_map.1 q2.2.1
          refine List.pairwise_iff_getElem.2 fun i j hi hj hij hc => ?_
          have hab := List.pairwise_iff_getElem.1 hkn i j hi hj hij
          have h1 := hval _ (List.getElem_mem hi)
          have h2 := hval _ (List.getElem_mem hj)
          rw [← hc] at h2
          exact hab (hinj _ _ _ h1 h2)
        · rw [hpb.mem_iff, List.mem_map]
          constructor
          · rintro ⟨e, he, rfl⟩
            exact ⟨_, hval e he⟩
          · rintro ⟨x, hx⟩
            have hk := (keyMem q2 q3 x).2 (by show s.m x ≠ none; rw [hx]; simp)
            obtain ⟨e, he, hek⟩ := List.mem_map.1 hk
            have hv := hval e he
            rw [hek, hx] at hv
            exact ⟨e, he, (Option.some.inj hv).symm⟩
      · have e1' : Ev (fun tg => tg = (42, 0)) G gg G1 gg := Ev.wr hE.ok hw1 fun tg htg => by rw [htb] at htg; cases htg; rfl
        obtain ⟨hkey, b, hb, hval⟩ := keyOf q2 q3 he
        have hbT : b ∈ s'.T := by rw [a1]; exact hmT _ _ hb
        have hlr1 := e1'.get htl (n42 (by decide)) hlr
        have R1 := hR.off e1' (fun tg h hc => by rw [h] at hc; simp at hc)
        apply f38_L2_of
        refine ⟨fun _ => ?_, (fun h => by cases h)⟩
        refine semOk_entryS hw1.same hlr1 q2 he ⟨keyS e.key, oP (some b), by rw [← hkey, hval], ?_⟩
        have hids := ids_same (s' := s') hN.ids a1 a7
        have hpos : 0 ≤ (s'.O b).id := by rw [a7]; exact hN.pos b (hmT _ _ hb)
        have hrb := (R1.obs b hbT).rb
        have hsl := sect_le (R1.obs b hbT).pl.ssb.1 (R1.obs b hbT).fit.1
        refine (f92_ht e1'.ok R1 (by omega) hids (by omega) hbT hpos).mono fun v G2 ⟨P', gg2, hvv, e2', r2', hh⟩ => ⟨hvv, ?_⟩
        have hbo : blkOf e.val = b := by rw [hval]; rfl
        have n22 : ¬ (SpO (zO k (s'.O b).id) (22, k) ∨ ((22 : Nat), k) = (20, k)) := fun hc => by
          rcases hc with hc | hc
          · have := hc.rng.2; simp at this
          · simp at hc
        have n42' : ¬ (SpO (zO k (s'.O b).id) (42, 0) ∨ ((42 : Nat), (0 : Int)) = (20, k)) := fun hc => by
          rcases hc with hc | hc
          · have := hc.rng.2; simp at this
          · simp at hc
        refine ih (vs ++ [e]) (seen.push e.born) G2 gg2 _ (by simp; omega) (hmet.push he hns) ?_ ((hE.trans (e1'.mono fun tg h => by rw [h]; exact .inr (.inr ⟨by simp, by simp⟩))).trans (e2'.mono fun tg h => (hardI hpos h).le)) r2' ?_ (e2'.tag _ _ htl) (e2'.get htl n22 hlr1) (e2'.tag _ _ htb) (e2'.get htb n42' hw1.same) ?_
        · rw [List.map_append]
          simp only [List.map_cons, List.map_nil, hbo]
          exact .snoc hha hh
        · exact ((hP.off e1' (fun tg h => by rw [h]; simp)).in (e2'.mono fun tg h => hardI hpos h))
        · simp only [hardS, List.length_append, List.length_cons, List.length_nil]
          omega
  have d3 := h4
  refine loop (es.size + 1) [] #[] H3 _ (comS s) (by simp) (Met.start es) .nil (E2.trans (e3.mono fun tg h => h.elim)) (r2.off e3 none_off) (p2.off e3 fun tg h => h.elim) (e3.tag _ _ h2) (ha3.keep q1) t3 ha3.same ?_
  simp only [comS, List.length_nil]
  omega

end

end Go.Proofs.Qxb6500695aGreatFmt
