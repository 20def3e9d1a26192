/-
  A CRASH, AND WHAT WAS ASKED (no Go in sight).
-/
import Derived.Test.Qxb6500695aGreatFmtKm
namespace Go.Proofs.Qxb6500695aGreatFmt
open Go Go.Eng Go.Proofs
set_option maxRecDepth 100000
set_option linter.unusedVariables false
set_option linter.unusedSimpArgs false
set_option linter.unusedSectionVars false

theorem lastA_ks {a o : Int} {f : Int → Nat × Nat} {ks : List Int} {q : Plc} : lastA (ks.map fun i => ((a, o, i), f i)) q = if q.1 = a ∧ q.2.1 = o ∧ q.2.2 ∈ ks then some (f q.2.2) else none := by
  unfold lastA
  split
  · rename_i h
    obtain ⟨h1, h2, h3⟩ := h
    obtain ⟨a', o', i⟩ := q
    simp only at h1 h2 h3
    subst h1 h2
    cases hf : (ks.map fun i => ((a', o', i), f i)).reverse.find? fun x => x.1 == (a', o', i) with
    | none =>
      rw [List.find?_eq_none] at hf
      have := hf ((a', o', i), f i) (by simpa using ⟨i, h3, rfl, rfl⟩)
      simp at this
    | some x =>
      have h4 := List.find?_some hf
      have h5 := List.mem_of_find?_eq_some hf
      rw [List.mem_reverse, List.mem_map] at h5
      obtain ⟨j, _, rfl⟩ := h5
      have h6 : j = i := by simpa using h4
      subst h6
      rfl
  · rename_i h
    rw [Option.map_eq_none_iff, List.find?_eq_none]
    intro x hx
    rw [List.mem_reverse, List.mem_map] at hx
    obtain ⟨j, hj, rfl⟩ := hx
    intro hc
    have hc : (a, o, j) = q := by simpa using hc
    subst hc
    exact h ⟨rfl, rfl, hj⟩

theorem lastA_mem {tr : List Ask} {q : Plc} (h : lastA tr q ≠ none) : ∃ x ∈ tr, x.1 = q := by
  by_cases hx : ∃ x ∈ tr, x.1 = q
  · exact hx
  · exact absurd (lastA_none fun x hx' hc => hx ⟨x, hx', hc⟩) h

theorem lastA_of {tr : List Ask} {q : Plc} (h : ∃ x ∈ tr, x.1 = q) : lastA tr q ≠ none := by
  obtain ⟨x, hx, hq⟩ := h
  unfold lastA
  intro hc
  rw [Option.map_eq_none_iff, List.find?_eq_none] at hc
  have := hc x (by simpa using hx)
  simp [hq] at this

section
variable {ss cap ns N : Nat} {s s' : StV} {D D' : Pl} {tr trD trS : List Ask}

/-- What a crash decides of one object. -/
structure Fate (ss ns : Nat) (tr : List Ask) (o o' : Ob) (kk : Nat) (ch : Int → Nat) : Prop where
  ex : ∃ ks P', setP ss ns o kk ch ks P' ∧ o' = setOb ss o kk P'
  sz : lastA tr (2, o.id, 0) = if o.sizes = [] then none else some (o.sizes.length, kk)
  se : ∀ i : Int, lastA tr (3, o.id, i) = if o.pl.cache i = [] then none else some ((o.pl.cache i).length, ch i)

theorem setAsk_last {o : Ob} {kk : Nat} {ch : Int → Nat} {ks : List Int} {P' : Pl} (hp : setP ss ns o kk ch ks P') (q : Plc) :
    lastA (setAsk o kk ch ks) q = if q = (2, o.id, 0) then (if o.sizes = [] then none else some (o.sizes.length, kk)) else if q.1 = 3 ∧ q.2.1 = o.id ∧ o.pl.cache q.2.2 ≠ [] then some ((o.pl.cache q.2.2).length, ch q.2.2) else none := by
  obtain ⟨_, _, ⟨_, _, _, hks⟩, _⟩ := hp
  unfold setAsk
  rw [lastA_append, lastA_ks (a := 3) (o := o.id) (f := fun i => ((o.pl.cache i).length, ch i))]
  obtain ⟨a, b, c⟩ := q
  simp only [hks]
  by_cases h1 : a = 3 ∧ b = o.id ∧ o.pl.cache c ≠ []
  · rw [if_pos h1, if_neg (by intro hc; simp at hc; omega)]
    rfl
  · rw [if_neg h1]
    simp only [Option.none_or]
    unfold sizeAsk
    by_cases h2 : o.sizes = []
    · rw [if_pos h2]
      simp [lastA_nil, h2]
    · rw [if_neg h2]
      have := lastA_snoc [] (2, o.id, 0) o.sizes.length kk (a, b, c)
      rw [List.nil_append] at this
      rw [this, lastA_nil, if_neg h2]

theorem setAsk_mem {o : Ob} {kk : Nat} {ch : Int → Nat} {ks : List Int} {x : Ask} (hx : x ∈ setAsk o kk ch ks) : x.1.2.1 = o.id ∧ (x.1 = (2, o.id, 0) ∨ x.1.1 = 3) := by
  unfold setAsk at hx
  rcases List.mem_append.1 hx with hx | hx
  · unfold sizeAsk at hx
    split at hx
    · cases hx
    · rw [List.mem_singleton.1 hx]; exact ⟨rfl, .inl rfl⟩
  · obtain ⟨i, _, rfl⟩ := List.mem_map.1 hx
    exact ⟨rfl, .inr rfl⟩

theorem SetAll.fates {bs : List Nat} (h : SetAll ss ns s bs tr s') (hn : bs.Nodup) (hid : ∀ a ∈ bs, ∀ b ∈ bs, (s.O a).id = (s.O b).id → a = b) :
    (∀ b ∈ bs, ∃ kk ch, Fate ss ns tr (s.O b) (s'.O b) kk ch) ∧ (∀ b, b ∉ bs → s'.O b = s.O b) ∧ ∀ x ∈ tr, ∃ b ∈ bs, x.1.2.1 = (s.O b).id ∧ (x.1 = (2, (s.O b).id, 0) ∨ x.1.1 = 3) := by
  induction h using SetAll.ind with
  | nil => exact ⟨fun b hb => (by cases hb), fun _ _ => rfl, fun x hx => (by cases hx)⟩
  | snoc h1 h2 ih =>
    rename_i bs tr s1 b kk ch ks P'
    rw [List.nodup_append] at hn
    obtain ⟨hn1, _, hn2⟩ := hn
    have hbn : b ∉ bs := fun hc => hn2 b hc b (by simp) rfl
    obtain ⟨i1, i2, i3⟩ := ih hn1 fun a ha c hc => hid a (List.mem_append_left _ ha) c (List.mem_append_left _ hc)
    have hOb : s1.O b = s.O b := i2 b hbn
    rw [hOb] at h2 ⊢
    have hO' : ∀ x, x ≠ b → (setS ss s1 b kk P').O x = s1.O x := fun x hx => by
      show oset s1.O b _ x = _
      simp only [oset]
      rw [if_neg hx]
    have hOb' : (setS ss s1 b kk P').O b = setOb ss (s.O b) kk P' := by
      show oset s1.O b _ b = _
      rw [oset_same, hOb]
    have hne : ∀ c ∈ bs, (s.O c).id ≠ (s.O b).id := fun c hc hx => by
      have := hid c (List.mem_append_left _ hc) b (by simp) hx
      exact hbn (this ▸ hc)
    refine ⟨fun c hc => ?_, fun c hc => ?_, fun x hx => ?_⟩
    · rcases List.mem_append.1 hc with hc | hc
      · obtain ⟨kk1, ch1, hf⟩ := i1 c hc
        have hcb : c ≠ b := fun hx => hbn (hx ▸ hc)
        have hno : ∀ q : Plc, q.2.1 = (s.O c).id → lastA (setAsk (s.O b) kk ch ks) q = none := fun q hq => lastA_none fun x hx hxq => by
          have := (setAsk_mem hx).1
          rw [hxq, hq] at this
          exact hne c hc this
        refine ⟨kk1, ch1, ?_, ?_, fun i => ?_⟩
        · rw [hO' c hcb]; exact hf.ex
        · rw [lastA_append, hno _ rfl, Option.none_or]; exact hf.sz
        · rw [lastA_append, hno _ rfl, Option.none_or]; exact hf.se i
      · rw [List.mem_singleton.1 hc]
        have hno : ∀ q : Plc, q.2.1 = (s.O b).id → lastA tr q = none := fun q hq => lastA_none fun x hx hxq => by
          obtain ⟨c, hcb, h3, _⟩ := i3 x hx
          rw [hxq, hq] at h3
          exact hne c hcb h3.symm
        refine ⟨kk, ch, ⟨ks, P', h2, hOb'⟩, ?_, fun i => ?_⟩
        · rw [lastA_append, hno _ rfl, Option.or_none, setAsk_last h2, if_pos rfl]
        · rw [lastA_append, hno _ rfl, Option.or_none, setAsk_last h2, if_neg (by intro hc; simp at hc)]
          by_cases hi : (s.O b).pl.cache i = []
          · rw [if_neg (by rintro ⟨_, _, h⟩; exact h hi), if_pos hi]
          · rw [if_pos ⟨rfl, rfl, hi⟩, if_neg hi]
    · have h4 : c ≠ b := fun hx => hc (by rw [hx]; simp)
      rw [hO' c h4]
      exact i2 c fun hx => hc (List.mem_append_left _ hx)
    · rcases List.mem_append.1 hx with hx | hx
      · obtain ⟨c, hc, h3⟩ := i3 x hx
        exact ⟨c, List.mem_append_left _ hc, h3⟩
      · exact ⟨b, by simp, setAsk_mem hx⟩

/-- A crash of a store, said of its objects. -/
theorem crashR.fates (hI : StI ss cap N s) (h : crashR ss cap s trS s') :
    (∀ x b, s'.m x = some b → ∃ kk ch, Fate ss cap trS (s.O b) (s'.O b) kk ch) ∧ (∀ b, (∀ x, s'.m x ≠ some b) → s'.O b = s.O b) ∧ s'.T = s.T ∧ s'.nxt = s.nxt ∧ (∀ b, (s'.O b).id = (s.O b).id) ∧ (∀ x b, s'.m x = some b → b ∈ s.T) ∧
      ∀ y ∈ trS, y.1 = (1, 0, 0) ∨ ∃ x b, s'.m x = some b ∧ y.1.2.1 = (s.O b).id ∧ (y.1 = (2, (s.O b).id, 0) ∨ y.1.1 = 3) := by
  obtain ⟨kp, ys, tr2, hkp, hsrt, hmem, hset, htr⟩ := h
  obtain ⟨a1, a2, a3, a4, a5, a6, a7⟩ := hset.same
  have hm : ∀ x, s'.m x = redoN (s.jr.take kp) s.st x := fun x => congrFun a2 x
  have hT : ∀ x b, redoN (s.jr.take kp) s.st x = some b → b ∈ s.T := fun x b hx => hI.heldT b (hI.back kp x b hx)
  have hbs : ∀ b, b ∈ ys.filterMap (redoN (s.jr.take kp) s.st) ↔ ∃ x, redoN (s.jr.take kp) s.st x = some b := by
    intro b
    rw [List.mem_filterMap]
    constructor
    · rintro ⟨x, _, hx⟩; exact ⟨x, hx⟩
    · rintro ⟨x, hx⟩; exact ⟨x, (hmem x).2 (by rw [hx]; simp), hx⟩
  have hnd : (ys.filterMap (redoN (s.jr.take kp) s.st)).Nodup := by
    rw [List.Nodup, List.pairwise_filterMap]
    refine List.pairwise_iff_getElem.2 fun i1 i2 hi1 hi2 h12 x hx y hy hxy => ?_
    have hab := List.pairwise_iff_getElem.1 hsrt.nodup i1 i2 hi1 hi2 h12
    subst hxy
    exact hab (hI.inj kp _ _ x hx hy)
  obtain ⟨f1, f2, f3⟩ := hset.fates hnd fun a ha b hb hab => by
    obtain ⟨x, hx⟩ := (hbs a).1 ha
    obtain ⟨y, hy⟩ := (hbs b).1 hb
    exact ids_inj hI.idn (hT x a hx) (hT y b hy) hab
  have hdir : ∀ q : Plc, q ≠ (1, 0, 0) → lastA trS q = lastA tr2 q := fun q hq => by
    rw [htr, lastA_append]
    have : lastA (dirAsk s.jr kp) q = none := by
      unfold dirAsk
      split
      · rfl
      · refine lastA_none fun x hx hxq => ?_
        rw [List.mem_singleton.1 hx] at hxq
        exact hq hxq.symm
    rw [this, Option.or_none]
  refine ⟨fun x b hx => ?_, fun b hb => ?_, a1, a6, a7, fun x b hx => hT x b (by rw [← hm]; exact hx), fun y hy => ?_⟩
  · rw [hm] at hx
    obtain ⟨kk, ch, hf⟩ := f1 b ((hbs b).2 ⟨x, hx⟩)
    exact ⟨kk, ch, hf.ex, by rw [hdir _ (by intro hc; simp at hc)]; exact hf.sz, fun i => by rw [hdir _ (by intro hc; simp at hc)]; exact hf.se i⟩
  · exact f2 b fun hc => by
      obtain ⟨x, hx⟩ := (hbs b).1 hc
      exact hb x (by rw [hm]; exact hx)
  · rw [htr] at hy
    rcases List.mem_append.1 hy with hy | hy
    · unfold dirAsk at hy
      split at hy
      · cases hy
      · rw [List.mem_singleton.1 hy]; exact .inl rfl
    · obtain ⟨b, hb, h3⟩ := f3 y hy
      obtain ⟨x, hx⟩ := (hbs b).1 hb
      exact .inr ⟨x, b, by rw [hm]; exact hx, h3⟩

/-- The fate of an object, against its books. -/
theorem Fate.cr1 {o o' : Ob} {kk : Nat} {ch : Int → Nat} {zs : List Nat} {C : Int → List Sv} (h0 : 0 < ss) (h : Fate ss ns tr o o' kk ch) (hop : OP ss o zs C) (hz : o.pl.sized ss) (hps : PS o.pl) : Cr1 ss tr o' zs C kk ch ∧ OP ss o' [o'.size] (resC ss o' C) := by
  obtain ⟨ks, P', hp, ho'⟩ := h.ex
  have hcr := hop.crash h0 hz hps hp
  rw [← ho'] at hcr
  have hid : o'.id = o.id := by rw [ho']; rfl
  have hsize : o'.size = o.pickSize kk := by rw [ho']; rfl
  have hcl : o'.pl.clean := by rw [ho']; exact hp.2.1
  have hssz : SSz ss o'.pl := by
    intro i
    have hk := hs_seen_clean (ss := ss) hcl i
    by_cases hc : crC ss (o.pickSize kk) ch C (i : Int) = []
    · have := hcr.unk i hc
      rw [hk] at this
      have h5 : o'.pl.seen ss i = zer ss := by simpa using this
      rw [h5]; exact zer_len
    · have := hcr.known i hc
      rw [hk] at this
      unfold crC at this hc
      split at this
      · rename_i hx; rw [if_pos hx] at hc; exact absurd rfl hc
      · have h5 : cutL ss (o.pickSize kk) (i : Int).toNat (sO ss (((C (i : Int))[ch (i : Int)]?).getD none)) = o'.pl.seen ss i := by simpa using this
        rw [← h5]
        simp [cutL]
  have hsn : ∀ i : Nat, C (i : Int) ≠ [] → secNow ss o' i = cutL ss o'.size i (sO ss (((C (i : Int))[ch (i : Int)]?).getD none)) := fun i hi => by
    rw [secNow_seen h0 hssz hcr.z]
    have hne : crC ss (o.pickSize kk) ch C (i : Int) ≠ [] := by unfold crC; rw [if_neg hi]; simp
    have := hcr.known i hne
    rw [hs_seen_clean hcl] at this
    unfold crC at this
    rw [if_neg hi] at this
    have h5 : cutL ss (o.pickSize kk) (i : Int).toNat (sO ss (((C (i : Int))[ch (i : Int)]?).getD none)) = o'.pl.seen ss i := by simpa using this
    rw [← h5, hsize, Int.toNat_natCast]
  have hun : ∀ i : Nat, C (i : Int) = [] → secNow ss o' i = zer ss := fun i hi => by
    rw [secNow_seen h0 hssz hcr.z]
    have he : crC ss (o.pickSize kk) ch C (i : Int) = [] := by unfold crC; rw [if_pos hi]
    have := hcr.unk i he
    rw [hs_seen_clean hcl] at this
    simpa using this
  have hzl : zs.length = o.sizes.length + 1 := by rw [hop.zs]; rfl
  have hkk := hp.1
  refine ⟨⟨hcl, by omega, ?_, ?_, fun i hi => ⟨?_, ?_, hsn i hi⟩, hun⟩, rfl.trans ?_, fun i hi => ?_, fun i hi => ?_, hcr.z⟩
  · rw [hop.zs, hsize]
    unfold Ob.pickSize
    by_cases hk0 : kk = 0
    · rw [if_pos hk0, hk0]; rfl
    · obtain ⟨m, rfl⟩ : ∃ m, kk = m + 1 := ⟨kk - 1, by omega⟩
      rw [if_neg hk0, List.getElem?_cons_succ, Nat.add_sub_cancel, List.getElem?_eq_getElem (by omega)]
      rfl
  · rw [hid, h.sz, hzl]
    by_cases hs : o.sizes = []
    · rw [if_pos hs, if_pos (by rw [hs]; simp)]
    · have : 0 < o.sizes.length := List.length_pos_iff.2 hs
      rw [if_neg hs, if_neg (by omega), Nat.add_sub_cancel]
  · rw [hop.known i hi]
    have := hp.2.2.2.1 (i : Int)
    unfold hs
    simp
    omega
  · rw [hid, h.se, hop.known i hi]
    unfold hs
    rw [List.length_cons]
    by_cases hc : o.pl.cache (i : Int) = []
    · rw [if_pos hc, if_pos (by rw [hc]; simp)]
    · have : 0 < (o.pl.cache (i : Int)).length := List.length_pos_iff.2 hc
      rw [if_neg hc, if_neg (by omega), Nat.add_sub_cancel]
  · rw [ho']; rfl
  · unfold resC at hi ⊢
    split at hi
    · exact absurd rfl hi
    · rename_i hx
      rw [if_neg hx, hs_seen_clean hcl, Int.toNat_natCast, secNow_seen h0 hssz hcr.z]
  · have hx : C (i : Int) = [] := by
      unfold resC at hi
      split at hi
      · assumption
      · cases hi
    rw [hs_seen_clean hcl, ← secNow_seen h0 hssz hcr.z, hun i hx]

/-- A crash of a device, against its books. -/
theorem dcrashR.fate (h : dcrashR ns D trD D') (hps : PS D) (hS : ∀ y ∈ trS, y.1.1 ≠ 0) :
    ∃ ch : Int → Nat, (∀ i : Nat, ch (i : Int) < (hs ss D i).length ∧ (hs ss D i)[ch (i : Int)]? = some (some (D'.seen ss i))) ∧ (∀ i : Nat, lastA (trD ++ trS) (0, 0, (i : Int)) = if (hs ss D i).length ≤ 1 then none else some ((hs ss D i).length - 1, ch (i : Int))) ∧ (∀ i : Nat, sO ss (D'.dur i) = D'.seen ss i) ∧ (∀ i : Nat, hs ss D' i = [some (D'.seen ss i)]) ∧ ∀ y ∈ trD, ∃ i : Nat, i < ns ∧ y.1 = (0, 0, (i : Int)) := by
  obtain ⟨ch, ks, hcl, ⟨_, _, hkb, hks⟩, hch, _, hd, htr⟩ := h
  refine ⟨ch, fun i => ?_, fun i => ?_, fun i => by rw [seen_sO, lat_clean hcl], fun i => hs_seen_clean hcl i, fun y hy => ?_⟩
  · have h1 := hch (i : Int)
    have hlen : ch (i : Int) < (hs ss D i).length := by unfold hs; simp; omega
    refine ⟨hlen, ?_⟩
    have := hs_settled (ss := ss) hps hch i
    rw [List.getElem?_eq_getElem hlen] at this ⊢
    rw [seen_sO, lat_clean hcl, hd]
    exact congrArg some this
  · rw [lastA_append, lastA_none (tr := trS) fun y hy hyq => hS y hy (by rw [hyq]), Option.none_or, htr, lastA_ks (a := 0) (o := 0) (f := fun i => ((D.cache i).length, ch i))]
    simp only [true_and, hks]
    unfold hs
    rw [List.length_cons]
    by_cases hc : D.cache (i : Int) = []
    · rw [if_neg (fun h => h hc), if_pos (by rw [hc]; simp)]
    · have : 0 < (D.cache (i : Int)).length := List.length_pos_iff.2 hc
      rw [if_pos hc, if_neg (by omega), Nat.add_sub_cancel]
  · rw [htr] at hy
    obtain ⟨i, hi, rfl⟩ := List.mem_map.1 hy
    have := hkb i hi
    exact ⟨i.toNat, by omega, by simp; omega⟩

end

end Go.Proofs.Qxb6500695aGreatFmt
