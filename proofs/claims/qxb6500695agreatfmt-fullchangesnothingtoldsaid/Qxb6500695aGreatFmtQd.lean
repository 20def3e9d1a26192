/-
  READING A DIRECTORY; MAPS AND BYTES COMPARED; ReadAll.
-/
import Derived.Test.Qxb6500695aGreatFmtQc
import Derived.Test.Qxb6500695aGreatFmtVl
import Derived.Laws.BytesArg
namespace Go.Proofs.Qxb6500695aGreatFmt
open Go Go.Eng Go.Proofs
set_option maxRecDepth 100000
set_option linter.unusedVariables false
set_option linter.unusedSimpArgs false
set_option linter.unusedSectionVars false

theorem Ev.tagU {S : Nat × Int → Prop} {H : Heap} {g : Gh} {b : Nat} {tg : Nat × Int} (hg : GOk H g) (hb : g b = none) (hp : H b ≠ none) : Ev S H g H (gset g b tg) := by
  refine ⟨fun x t hx => ?_, fun x t hx => ?_, fun _ _ _ _ => rfl⟩
  · by_cases h : x = b
    · rw [h]; exact hp
    · exact hg x t (by simpa [gset, h] using hx)
  · have : x ≠ b := fun hc => by rw [hc, hb] at hx; cases hx
    simpa [gset, this] using hx

theorem ids_inj {s : StV} (h : (s.T.map fun b => (s.O b).id).Nodup) {a b : Nat} (ha : a ∈ s.T) (hb : b ∈ s.T) (he : (s.O a).id = (s.O b).id) : a = b := by
  obtain ⟨i, hi, rfl⟩ := List.getElem_of_mem ha
  obtain ⟨j, hj, rfl⟩ := List.getElem_of_mem hb
  have := (List.getElem_inj (h₀ := by simpa using hi) (h₁ := by simpa using hj) h).1 (by simpa using he)
  subst this
  rfl

/-- A map that holds a directory; nobody turns it. -/
def DirM (H : Heap) (g : Gh) (r : Nat) (f : ByteArray → Option Int) : Prop :=
  g r = some (0, 0) ∧ ∃ es ck, H r = some (.map es ck) ∧ MapOkS es ck ∧ ∀ x, sget es.toList x = (f x).map fun i => .int .u64 i

theorem same_size {es es' : Array MapEntry} {c c' : Nat} (h : MapOkS es c) (h' : MapOkS es' c') (hs : ∀ x, sget es.toList x = sget es'.toList x) : es.size = es'.size := by
  have key : ∀ {a b : Array MapEntry}, (∀ x, sget a.toList x = sget b.toList x) → ∀ x, x ∈ a.toList.map (fun e => keyS e.key) → x ∈ b.toList.map fun e => keyS e.key := by
    intro a b hab x hx
    obtain ⟨e, he, rfl⟩ := List.mem_map.1 hx
    cases hn : sget b.toList (keyS e.key) with
    | none =>
      rw [← hab, sget_eq_none] at hn
      exact absurd rfl (hn e he)
    | some v =>
      obtain ⟨e', he', hk, _⟩ := sget_mem hn
      exact List.mem_map.2 ⟨e', he', hk⟩
  have h1 := h.2.1.length_le_of_subset (key hs)
  have h2 := h'.2.1.length_le_of_subset (key fun x => (hs x).symm)
  simp at h1 h2
  omega

section
variable {S : Nat × Int → Prop} {H H' : Heap} {g g' : Gh} {r1 r2 : Nat} {f : ByteArray → Option Int}

theorem DirM.ev (h : DirM H g r1 f) (ev : Ev S H g H' g') (h0 : ¬ S (0, 0)) : DirM H' g' r1 f := by
  obtain ⟨h1, es, ck, h2, h3, h4⟩ := h
  exact ⟨ev.tag _ _ h1, es, ck, ev.get h1 h0 h2, h3, h4⟩

theorem DirM.look (h : DirM H g r1 f) (x : ByteArray) (ok : Bool) : ∃ es ck, H r1 = some (.map es ck) ∧ LookIs Tryz.prog 79 r1 es ck (.string x) ok (match f x, ok with | some i, true => .tuple #[.int .u64 i, .bool true] | none, true => .tuple #[.int .u64 0, .bool false] | some i, false => .int .u64 i | none, false => .int .u64 0) := by
  obtain ⟨h1, es, ck, h2, h3, h4⟩ := h
  have i50 : Tryz.prog.info? 50 = some Tryz.t50 := by kernel_rfl
  have hl := lookIs_str (r := r1) (c := ck) (es := es) (n := x) (ok := ok) Tryz.underlying79 Tryz.underlying9 i50 (zero := .int .u64 0) rfl h3.1
  refine ⟨es, ck, h2, ?_⟩
  unfold lookS at hl
  rw [h4] at hl
  cases hf : f x with
  | none => rw [hf] at hl; cases ok <;> exact hl
  | some i => rw [hf] at hl; cases ok <;> exact hl

/-- Two directories that are alike are found so. -/
theorem f33_ht (hg : GOk H g) (h1 : DirM H g r1 f) (h2 : DirM H g r2 f) :
    HT Tryz.prog 33 [.map (some r1), .map (some r2)] H fun v H' => v = .bool true ∧ ∃ g', Ev (fun tg => tg = (42, 0)) H g H' g' := by
  have h2O := h2
  obtain ⟨t1, es1, c1, a1, a2, a3⟩ := h1
  obtain ⟨t2, es2, c2, b1, b2, b3⟩ := h2
  have hsz := same_size a2 b2 fun x => by rw [a3, b3]
  apply f33_of
  refine semOk_lenM Tryz.underlying79 a1 ⟨_, rfl, ?_⟩
  refine semOk_lenM Tryz.underlying79 b1 ⟨_, rfl, fun hne => ?_, fun _ => ?_⟩
  · rw [hsz] at hne
    simp at hne
  · refine semOk_range Tryz.underlying79 a1 fun b H1 ha => ⟨_, rfl, ?_⟩
    obtain ⟨e1, tb⟩ := Ev.al (S := fun tg => tg = (42, 0)) hg ha (42, 0)
    have n42 : ¬ ((fun tg : Nat × Int => tg = (42, 0)) (0, 0)) := fun hc => by cases hc
    have loop : ∀ (d : Nat) (vs : List MapEntry) (seen : Array Nat) (G : Heap) (gg : Gh), es1.size + 1 - vs.length = d → Met es1 seen vs → Ev (fun tg => tg = (42, 0)) H g G gg → gg b = some (42, 0) → G b = some (.mapIter (some r1) c1 seen c1) →
        f33_L1 (some r2) (some ⟨b, 0, none⟩) G fun v H' => v = .bool true ∧ ∃ g', Ev (fun tg => tg = (42, 0)) H g H' g' := by
      intro d
      induction d with
      | zero =>
        intro vs seen G gg hd hm
        have := hm.len
        omega
      | succ d ih =>
        intro vs seen G gg hd hm hE tb hb
        have hr1 := hE.get t1 n42 a1
        apply f33_L1_of
        refine semOk_nextS hb hr1 a2 (fun _ => .inl ⟨rfl, ?_⟩) fun e he hns G1 hw1 => .inr ⟨e.key, e.val, rfl, ?_⟩
        · apply f33_L2_of
          exact ⟨(fun h => by cases h), fun _ => ⟨rfl, gg, hE⟩⟩
        · have e2 : Ev (fun tg => tg = (42, 0)) G gg G1 gg := Ev.wr hE.ok hw1 fun tg htg => by rw [tb] at htg; cases htg; rfl
          have hE2 := hE.trans e2
          have hr11 := hE2.get t1 n42 a1
          obtain ⟨nm, hnm⟩ := a2.1 e he
          have hval := sget_of_mem a2.2.1 he
          rw [a3] at hval
          have hkn : keyS e.key = nm := by rw [hnm]; rfl
          rw [hkn] at hval
          cases hf : f nm with
          | none => rw [hf] at hval; cases hval
          | some i =>
            rw [hf] at hval
            have hv : e.val = .int .u64 i := (Option.some.inj hval).symm
            apply f33_L2_of
            refine ⟨fun _ => ?_, (fun h => by cases h)⟩
            refine semOk_entryS hw1.same hr11 a2 he ⟨nm, i, by rw [hnm, hv], ?_⟩
            obtain ⟨es, ck, hr2, hl⟩ := (h2O.ev hE2 n42).look nm true
            rw [hf] at hl
            refine ⟨r2, es, ck, rfl, hr2, i, true, hl, (fun h => by cases h), fun _ => ?_⟩
            have hself : (i != i) = false := by simp
            rw [hself]
            apply f33_L3_of
            refine ⟨(fun h => by cases h), fun _ => ?_⟩
            exact ih _ _ G1 gg (by simp; have := hm.len; omega) (hm.push he hns) hE2 tb hw1.same
    exact loop _ [] #[] H1 _ rfl (Met.start es1) e1 tb ha.same

theorem conv_bytes {p : Option Addr} {n c : Nat} {xs : List Int} {K : Value → Heap → Prop} (h : Src H p n c xs) (hp : p = none ∨ ∃ b o, p = some ⟨b, o, none⟩) (hK : K (.string (strOfNums xs)) H) : SemOk Tryz.prog (convert 35 9 (.slice p n c)) H K := by
  intro w hw
  have hlen := h.len
  have key : (convert 35 9 (.slice p n c)).run Tryz.prog w = .ok (.string (strOfNums xs)) w := by
    rcases h.row with h1 | ⟨b, o, h1, h2⟩
    · subst h1
      have hn0 : n = 0 := by simpa using hlen
      subst hn0
      rcases hp with hp | ⟨b, o, hp⟩
      · subst hp
        exact run_convert_bytes_nil w 35 5 Tryz.underlying35 Tryz.underlying5 0 c 9 Tryz.underlying9
      · subst hp
        exact run_convert_bytes_arg w 35 5 Tryz.underlying35 Tryz.underlying5 b o 0 c [] rfl (fun i hi => absurd hi (by omega)) 9 Tryz.underlying9
    · subst h1
      refine run_convert_bytes_arg w 35 5 Tryz.underlying35 Tryz.underlying5 b o n c xs hlen.symm (fun i hi => ?_) 9 Tryz.underlying9
      obtain ⟨cc, T, fr, hb, hv⟩ := h2
      have h3 := hv i (by rw [List.length_map]; omega)
      unfold World.cell?
      simp only [hw _ _ hb]
      have h4 : i < xs.length := by omega
      simp [h3, h4]
  rw [key]
  exact ⟨H, Str.refl w, hw, Fr.refl _ _, hK⟩

/-- Bytes that are alike are found so. -/
theorem f34_ht {p q : Option Addr} {n c m d : Nat} {xs : List Int} (h1 : Src H p n c xs) (hp : p = none ∨ ∃ b o, p = some ⟨b, o, none⟩) (h2 : Src H q m d xs) (hq : q = none ∨ ∃ b o, q = some ⟨b, o, none⟩) :
    HT Tryz.prog 34 [.slice p n c, .slice q m d] H fun v H' => H' = H ∧ v = .bool true := by
  apply f34_of
  refine conv_bytes h1 hp ⟨_, rfl, conv_bytes h2 hq ⟨_, rfl, ?_⟩⟩
  exact ⟨_, binIs_str_eql, rfl, by simp⟩

end

section
variable {S : Nat × Int → Prop} {H H' : Heap} {g g' : Gh} {k : Int} {sb ss cap bd pwb : Nat} {s : StV} {E : Nat → Value} {P : Pw}

theorem f35_ht (h : StR H g k sb ss cap bd pwb s) : HT Tryz.prog 35 [.pointer (some ⟨sb, 0, none⟩)] H fun v H' => H' = H ∧ v = .int .i64 (s.jr.length : Int) := by
  obtain ⟨db, q, h1, hd⟩ := h.ex
  obtain ⟨lr, op, on, oc, sr, jp, jn, jc, d1, d2, d3, d4, d5, d6, d7⟩ := hd.ex
  have hlen := d7.own.len
  apply f35_of
  exact ⟨sb, 0, rfl, _, Cells.of h1 rfl, db, 0, rfl, jp, jn, jc, Cells.of d1 rfl, rfl, by rw [hlen]⟩

/-- All the bytes of an object. -/
def contV (ss : Nat) (o : Ob) : List Int := rdF ss o.pl o.size 0 o.size

/-- What ReadAll answers. -/
def readAllR (E : Nat → Value) (P : Pw) (s : StV) (ss : Nat) (nm : ByteArray) (H' : Heap) (g' : Gh) (v : Value) : Prop :=
  (P.down = true ∧ v = .tuple #[.slice none 0 0, E 0]) ∨ (P.down = false ∧ fnd s nm = none ∧ v = .tuple #[.slice none 0 0, fe E nm]) ∨
    (P.down = false ∧ ∃ b rb n, fnd s nm = some b ∧ v = .tuple #[.slice (some ⟨rb, 0, none⟩) n n, .nilIface] ∧ g' rb = some (0, 0) ∧ Src H' (some ⟨rb, 0, none⟩) n n (contV ss (s.O b)))

theorem f30_ht (hg : GOk H g) (hG : Gl H g E) (h : StR H g k sb ss cap bd pwb s) (hp : PwR H g k pwb P) (hN : StN ss cap bd s) (hmT : ∀ x b, s.m x = some b → b ∈ s.T) {nm : ByteArray} :
    HT Tryz.prog 30 [.pointer (some ⟨sb, 0, none⟩), .string nm] H fun v H' => ∃ g', Ev (SpI k) H g H' g' ∧ StR H' g' k sb ss cap bd pwb s ∧ readAllR E P s ss nm H' g' v := by
  have hm : cap * ss ≤ 12 * 16 := Nat.mul_le_mul hN.shp.2.2 hN.shp.2.1
  have hbdl := hN.bd
  have hi5 : Tryz.prog.info? 5 = some Tryz.t5 := by kernel_rfl
  apply f30_of
  refine checkK hG h hp (fun hd => ⟨g, Ev.refl hg, h, .inl ⟨hd, rfl⟩⟩) fun hd => ?_
  refine findK hG h (fun hf => ⟨g, Ev.refl hg, h, .inr (.inl ⟨hd, hf, rfl⟩)⟩) fun ob hf => ?_
  have hbT := fnd_T hmT hf
  have hO := h.obs ob hbT
  obtain ⟨sp, sn, sc, oo, _⟩ := hO.ex
  have hfs := hO.fit.1
  refine ⟨ob, 0, rfl, _, Cells.of oo rfl, ?_⟩
  refine semOk_make (l := (s.O ob).size) (c := (s.O ob).size) Tryz.underlying35 hi5 (z := .int .u8 0) rfl rfl rfl (Nat.le_refl _) (by omega) (by decide) fun rb H1 ha => ⟨_, _, _, rfl, ?_⟩
  have hrbg : g rb = none := GOk.fresh hg ha.fresh
  have e1 : Ev (fun _ => False) H g H1 g := Ev.sub hg ha.sub
  have r1 := h.off e1 none_off
  have hO1 := r1.obs ob hbT
  obtain ⟨sp1, sn1, sc1, oo1, _⟩ := hO1.ex
  refine ⟨ob, 0, rfl, _, Cells.of oo1 rfl, ?_⟩
  refine (f78_ht e1.ok hO1.pl (by omega) hrbg ha.same (o := 0) (n := (s.O ob).size) (c := (s.O ob).size) (off := 0) (by simp) (Nat.le_refl _) (by omega) (by omega)).mono fun v H2 ⟨hv2, hk2, arr', hb2, harr⟩ => ⟨hv2, ?_⟩
  have e2 := Ev.untag e1.ok hrbg hk2
  have r2 := r1.off e2 none_off
  obtain ⟨db, q, k1, d1⟩ := r2.ex
  refine ⟨sb, 0, rfl, _, Cells.of k1 rfl, sb, 0, rfl, _, _, k1, by simp, fun H3 hw3 => ?_⟩
  obtain ⟨e3, r3⟩ := r2.own (used' := s.used) (nxt' := s.nxt) (q' := { q with a := IntKind.wrap .u64 (q.a + 1) }) e2.ok d1 hw3 rfl
  have hsb : rb ≠ sb := fun hc => by have := h.tag; rw [← hc, hrbg] at this; cases this
  have hb3 : H3 rb = some (.cells arr' 5 (0, 0)) := by rw [hw3.other hsb]; exact hb2
  have e4 : Ev (fun _ => False) H3 g H3 (gset g rb (0, 0)) := Ev.tagU e3.ok hrbg (by rw [hb3]; simp)
  have hlen := rdF_len hO.pl (s.O ob).size 0 (s.O ob).size (Nat.le_refl _)
  refine ⟨_, (((e1.mono fun tg h => h.elim).trans (e2.mono fun tg h => h.elim)).trans (e3.mono fun tg h => SpI.st h)).trans (e4.mono fun tg h => h.elim), r3.off e4 none_off, .inr (.inr ⟨hd, ob, rb, _, hf, rfl, by simp [gset], hlen.symm, Nat.le_refl _, .inr ⟨rb, 0, rfl, arr', 5, (0, 0), hb3, fun i hi => ?_⟩⟩)⟩
  have harr' : arr'.toList = (rdF ss (s.O ob).pl (s.O ob).size 0 (s.O ob).size).map fun x => Value.int .u8 x := by
    rw [harr]
    unfold over
    rw [List.take_zero, List.nil_append, List.length_map, hlen, List.drop_of_length_le (by simp), List.append_nil]
  rw [Nat.zero_add, ← Array.getElem?_toList, harr']
  rfl

/-- A map that holds no name yet. -/
theorem fnd_of {x : ByteArray} {b : Nat} (hv : vn x = true) (hb : s.m x = some b) : fnd s x = some b := by
  unfold fnd
  rw [if_pos hv, hb]

theorem hasPre_empty (x : ByteArray) : hasPre x ⟨#[]⟩ = true := by
  unfold hasPre
  have h1 : (⟨#[]⟩ : ByteArray).size = 0 := rfl
  rw [h1]
  have h2 : x.extract 0 0 = (⟨#[]⟩ : ByteArray) := by
    apply ByteArray.ext
    simp
  rw [h2]
  simp

/-- The directory, read. -/
theorem f32_ht {cap N : Nat} (hg : GOk H g) (hG : Gl H g E) (h : StR H g k sb ss cap bd pwb s) (hp : PwR H g k pwb P) (hI : StI ss cap N s) (hn : NmI s) (hup : P.down = false) :
    HT Tryz.prog 32 [.pointer (some ⟨sb, 0, none⟩)] H fun v H' => ∃ r g', v = .map (some r) ∧ Ev (fun tg => tg = (42, 0)) H g H' g' ∧ DirM H' g' r (dirN s) := by
  have hlenI := hI.len
  have i4 : Tryz.prog.info? 4 = some Tryz.t4 := by kernel_rfl
  apply f32_of
  refine (f26_ht hG h hp hI.srt (by omega) ⟨#[]⟩).mono fun v H1 hl => ?_
  rcases hl with ⟨hd, _⟩ | ⟨_, w, hv, hs1, p, n, c, lo, hi, hw, hlohi, hhi, hspot, hpre, hstop, hnew, hown⟩
  · rw [hup] at hd; cases hd
  subst hv hw
  have hlo : lo = 0 := by
    rcases Nat.eq_zero_or_pos lo with h0 | h0
    · exact h0
    · have := hspot.2.1 0 (by omega) h0
      exact absurd this (by show ¬ _ < ([] : List UInt8); exact List.not_lt_nil _)
  have hhi' : hi = s.xs.length := by
    rcases Nat.lt_or_ge hi s.xs.length with h0 | h0
    · have := hstop h0
      rw [hasPre_empty] at this
      cases this
    · omega
  subst hlo hhi'
  rw [List.take_length, List.drop_zero] at hown
  have hlen := hown.len
  refine ⟨p, n, c, .nilIface, rfl, _, binIs_if_neq (.inl rfl) Tryz.underlying48, (fun h => by cases h), fun _ db H2 ha2 sn H3 ha3 => ?_⟩
  -- the names are read only, the seen map is scratch, the map is not tagged yet
  obtain ⟨g1, e1, ho1⟩ : ∃ g1, Ev (fun _ => False) H g H1 g1 ∧ OwnT H1 g1 (0, 0) 9 1 Str.cs p n c s.xs := by
    rcases hown.own with ⟨q1, _⟩ | ⟨b, o, arr, q1, q2, _⟩
    · exact ⟨g, Ev.sub hg hs1, hown, fun a ha => by rw [q1] at ha; cases ha⟩
    · exact ⟨_, Ev.roNew hg hs1 (hnew _ q1) q2, hown, fun a ha => by rw [q1] at ha; cases ha; simp [gset]⟩
  have hdb : g1 db = none := GOk.fresh e1.ok ha2.fresh
  have e2 : Ev (fun _ => False) H1 g1 H2 g1 := Ev.sub e1.ok ha2.sub
  obtain ⟨e3, t3⟩ := Ev.al (S := fun _ => False) e2.ok ha3 (42, 0)
  have hne : sn ≠ db := fun hc => by have := ha3.fresh; rw [hc, ha2.same] at this; cases this
  have hdb3 : gset g1 sn (42, 0) db = none := by simp [gset, Ne.symm hne, hdb]
  have e13 : Ev (fun tg => tg = (42, 0)) H g H3 (gset g1 sn (42, 0)) := (((e1.trans e2).trans e3).mono fun tg h => h.elim)
  have n42 : ¬ ((fun tg : Nat × Int => tg = (42, 0)) (0, 0)) := fun hc => by cases hc
  have loop : ∀ (d i : Nat) (G : Heap) (es : Array MapEntry) (ck : Nat) (es2 : Array MapEntry) (ck2 : Nat), s.xs.length - i = d → i ≤ s.xs.length → Ev (fun tg => tg = (42, 0)) H g G (gset g1 sn (42, 0)) → G db = some (.map es ck) → MapOkS es ck → (∀ x, (x ∈ s.xs.take i → sget es.toList x = (dirN s x).map fun j => .int .u64 j) ∧ (x ∉ s.xs.take i → sget es.toList x = none)) →
      G sn = some (.map es2 ck2) → MapOk .u64 es2 ck2 → (∀ j, iget es2.toList j ≠ none → ∃ x ∈ s.xs.take i, dirN s x = some j) → OwnT G (gset g1 sn (42, 0)) (0, 0) 9 1 Str.cs p n c s.xs →
      f32_L1 (some ⟨sb, 0, none⟩) (some db) (some sn) p n c (n : Int) (i : Int) G fun v H' => ∃ r g', v = .map (some r) ∧ Ev (fun tg => tg = (42, 0)) H g H' g' ∧ DirM H' g' r (dirN s) := by
    intro d
    induction d with
    | zero =>
      intro i G es ck es2 ck2 hd hi hE hG' hok hget _ _ _ _
      have hil : i = s.xs.length := by omega
      subst hil
      rw [List.take_length] at hget
      apply f32_L1_of
      refine ⟨fun hx => by have := of_decide_eq_true hx; omega, fun _ => ⟨db, gset (gset g1 sn (42, 0)) db (0, 0), rfl, hE.trans (Ev.tagU hE.ok hdb3 (by rw [hG']; simp)), by simp [gset], es, ck, hG', hok, fun x => ?_⟩⟩
      by_cases hx : x ∈ s.xs
      · exact (hget x).1 hx
      · rw [(hget x).2 hx]
        have : s.m x = none := by
          cases hm : s.m x with
          | none => rfl
          | some b => exact absurd ((hI.mem x).2 (by rw [hm]; simp)) hx
        unfold dirN
        rw [this]
        rfl
    | succ d ih =>
      intro i G es ck es2 ck2 hd hi hE hG' hok hget hsn hok2 hget2 hO
      have hil : i < s.xs.length := by omega
      obtain ⟨b', o', hp', hc'⟩ := hO.own.cells (i := i) hil
      have hmx := (hI.mem s.xs[i]).1 (List.getElem_mem hil)
      obtain ⟨ob, hob⟩ : ∃ ob, s.m s.xs[i] = some ob := by
        cases hm : s.m s.xs[i] with
        | none => exact absurd hm hmx
        | some ob => exact ⟨ob, rfl⟩
      have hf := fnd_of (hn.m hI hmx) hob
      have hnd := hI.srt.nodup
      have hnotin : s.xs[i] ∉ s.xs.take i := fun hc => by
        obtain ⟨j, hj, hje⟩ := List.getElem_of_mem hc
        rw [List.length_take] at hj
        rw [List.getElem_take] at hje
        have := (List.getElem_inj (h₀ := by omega) (h₁ := hil) hnd).1 hje
        omega
      apply f32_L1_of
      refine ⟨fun _ => ?_, fun hx => by have := of_decide_eq_false hx; omega⟩
      refine ⟨b', o', hp', by omega, by omega, s.xs[i], by simpa [Str.cs] using hc', ?_⟩
      have off42 : Off (fun tg : Nat × Int => tg = (42, 0)) := off42
      refine (f21_ht (hG.ev hE n42) (h.off hE off42) (hp.ev hE (fun hc => by cases hc)) hI.mT (nm := s.xs[i])).mono fun v G1 ⟨he1, hst⟩ => ?_
      subst he1
      rcases hst with ⟨hdd, _⟩ | ⟨_, ⟨hno, _⟩ | ⟨ob', nn, hf', hv', _⟩⟩
      · rw [hup] at hdd; cases hdd
      · rw [hf] at hno; cases hno
      · rw [hf] at hf'
        cases hf'
        refine ⟨_, _, _, _, _, hv', fun _ => ⟨_, binIs_if_neq (.inl rfl) Tryz.underlying48, (fun h => by cases h), fun _ => ?_⟩⟩
        have hl := lookIs_int (P := Tryz.prog) (t := 167) (r := sn) (c := ck2) (es := es2) (k := .u64) (n := (s.O ob).id) (ok := false) Tryz.underlying167 Tryz.underlying50 i4 (zero := .bool false) rfl hok2.1
        have hseen : iget es2.toList (s.O ob).id = none := by
          cases hc : iget es2.toList (s.O ob).id with
          | none => rfl
          | some y =>
            obtain ⟨x, hx, hdx⟩ := hget2 _ (by rw [hc]; simp)
            unfold dirN at hdx
            cases hmx' : s.m x with
            | none => rw [hmx'] at hdx; cases hdx
            | some b2 =>
              rw [hmx'] at hdx
              have hid : (s.O b2).id = (s.O ob).id := Option.some.inj hdx
              have hb2 : b2 = ob := ids_inj hI.idn (hI.mT _ _ hmx') (hI.mT _ _ hob) hid
              subst hb2
              have := hI.minj _ _ _ hmx' hob
              rw [this] at hx
              exact absurd hx hnotin
        unfold lookV at hl
        rw [hseen] at hl
        refine ⟨sn, es2, ck2, rfl, hsn, false, hl, ?_⟩
        apply f32_L2_of
        refine ⟨(fun h => by cases h), fun _ => ?_⟩
        refine semOk_mapUpdate (k := .u64) Tryz.underlying167 Tryz.underlying50 hsn hok2.1 fun G2 hw2 => ?_
        obtain ⟨es2', ck2', p1, p2, p3, _, _, _⟩ := mput_ok (c := ck2) (n := (s.O ob).id) (v := .bool true) hok2
        rw [p1] at hw2
        have e2' : Ev (fun tg => tg = (42, 0)) G1 (gset g1 sn (42, 0)) G2 (gset g1 sn (42, 0)) := Ev.wr hE.ok hw2 fun tg htg => by rw [t3] at htg; cases htg; rfl
        have hdb2 : G2 db = some (.map es ck) := by rw [hw2.other (Ne.symm hne)]; exact hG'
        refine semOk_mapUpdateS Tryz.underlying79 Tryz.underlying9 hdb2 hok.1 fun G3 hw3 => ?_
        obtain ⟨es', ck', q1, q2, q3, _, _, _⟩ := mputS_ok (c := ck) (n := s.xs[i]) (v := .int .u64 (s.O ob).id) hok
        rw [q1] at hw3
        have e3' : Ev (fun tg => tg = (42, 0)) G2 (gset g1 sn (42, 0)) G3 (gset g1 sn (42, 0)) := Ev.wr e2'.ok hw3 fun tg htg => by rw [hdb3] at htg; cases htg
        rw [wrapS (by omega)]
        refine ih (i + 1) G3 es' ck' es2' ck2' (by omega) (by omega) ((hE.trans e2').trans e3') hw3.same q2 (fun x => ?_) (by rw [hw3.other hne]; exact hw2.same) p2 (fun j hj => ?_) ((hO.ev e2' n42).ev e3' n42)
        · rw [q3, take_succ hil]
          by_cases hx : x = s.xs[i]
          · subst hx
            rw [if_pos rfl]
            refine ⟨fun _ => ?_, fun hc => absurd (List.mem_append_right _ (List.mem_singleton.2 rfl)) hc⟩
            unfold dirN
            rw [hob]
            rfl
          · rw [if_neg hx]
            refine ⟨fun hc => (hget x).1 ?_, fun hc => (hget x).2 fun hc2 => hc (List.mem_append_left _ hc2)⟩
            rcases List.mem_append.1 hc with hc | hc
            · exact hc
            · exact absurd (List.mem_singleton.1 hc) hx
        · rw [p3] at hj
          rw [take_succ hil]
          by_cases hjo : j = (s.O ob).id
          · refine ⟨s.xs[i], List.mem_append_right _ (List.mem_singleton.2 rfl), ?_⟩
            unfold dirN
            rw [hob, hjo]
            rfl
          · rw [if_neg hjo] at hj
            obtain ⟨x, hx, hdx⟩ := hget2 j hj
            exact ⟨x, List.mem_append_left _ hx, hdx⟩
  refine loop _ 0 H3 #[] 0 #[] 0 rfl (Nat.zero_le _) e13 (ha3.keep ha2.same) (MapOkS.empty 0) (fun x => ⟨fun hc => by simp at hc, fun _ => rfl⟩) ha3.same (MapOk.empty .u64 0) (fun j hj => absurd rfl hj) ((ho1.ev e2 (fun h => h)).ev e3 (fun h => h))

end

end Go.Proofs.Qxb6500695aGreatFmt
