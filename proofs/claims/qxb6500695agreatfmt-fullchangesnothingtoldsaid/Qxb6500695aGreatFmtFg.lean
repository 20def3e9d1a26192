/-
  FORKS: the directory, whole.
-/
import Derived.Test.Qxb6500695aGreatFmtFf
namespace Go.Proofs.Qxb6500695aGreatFmt
open Go Go.Eng Go.Proofs
set_option maxRecDepth 100000
set_option linter.unusedVariables false
set_option linter.unusedSimpArgs false
set_option linter.unusedSectionVars false

section
variable {H G0 : Heap} {q g q0 : Gh} {k : Int} {ss cap bd sb pwb cb tr dn a m it db : Nat} {s : StV} {op : Option Addr} {oc : Nat} {jp : Option Addr} {jc : Nat}

/-- A map half copied. -/
structure Half (src : NM) (τ : Nat → Option Nat) (vs : List MapEntry) (f : NM) : Prop where
  met : ∀ x, x ∈ vs.map (fun e => keyS e.key) → ∃ b b', src x = some b ∧ τ b = some b' ∧ f x = some b'
  not : ∀ x, x ∉ vs.map (fun e => keyS e.key) → f x = none

theorem Half.nil {src : NM} {τ : Nat → Option Nat} : Half src τ [] (fun _ => none) := ⟨fun x hx => by simp at hx, fun _ _ => rfl⟩

theorem Half.step {src : NM} {τ τ' : Nat → Option Nat} {vs : List MapEntry} {f : NM} {e : MapEntry} {b b' : Nat} (h : Half src τ vs f) (he : ∀ a x, τ a = some x → τ' a = some x) (hb : src (keyS e.key) = some b) (hb' : τ' b = some b') : Half src τ' (vs ++ [e]) (mset f (keyS e.key) (some b')) := by
  refine ⟨fun x hx => ?_, fun x hx => ?_⟩
  · unfold mset
    by_cases hxe : x = keyS e.key
    · rw [if_pos hxe]
      exact ⟨b, b', hxe ▸ hb, hb', rfl⟩
    · rw [if_neg hxe]
      rw [List.map_append, List.mem_append] at hx
      rcases hx with hx | hx
      · obtain ⟨c, c', h1, h2, h3⟩ := h.met x hx
        exact ⟨c, c', h1, he _ _ h2, h3⟩
      · simp at hx; exact absurd hx hxe
  · rw [List.map_append, List.mem_append] at hx
    unfold mset
    rw [if_neg (fun hc => hx (.inr (by simp [hc])))]
    exact h.not x fun hc => hx (.inl hc)

theorem Half.done {src : NM} {τ : Nat → Option Nat} {vs : List MapEntry} {f : NM} (h : Half src τ vs f) (hall : ∀ x, x ∈ vs.map (fun e => keyS e.key) ↔ src x ≠ none) : (∀ x, f x = (src x).bind τ) ∧ ∀ x b, src x = some b → τ b ≠ none := by
  refine ⟨fun x => ?_, fun x b hb => ?_⟩
  · cases hx : src x with
    | none => exact h.not x fun hc => (hall x).1 hc hx
    | some b =>
      obtain ⟨c, c', h1, h2, h3⟩ := h.met x ((hall x).2 (by rw [hx]; simp))
      rw [hx] at h1
      cases h1
      rw [h3]
      exact h2.symm
  · obtain ⟨c, c', h1, h2, h3⟩ := h.met x ((hall x).2 (by rw [hb]; simp))
    rw [hb] at h1
    cases h1
    rw [h2]; simp

theorem Cp.fresh {G : Heap} {qq : Gh} {τ : Nat → Option Nat} {fa fm : NM} {jl : List Jr} (h : Cp H q k ss cap bd s cb tr G0 q0 dn a m op oc jp jc G qq τ fa fm jl) {x : Nat} (hx : G x = none) : G0 x = none ∧ x ≠ cb ∧ x ≠ tr := by
  obtain ⟨es, ck, t1, _⟩ := h.tw.trv
  have hxt : x ≠ tr := fun hc => by rw [hc, t1] at hx; cases hx
  refine ⟨?_, (fun hc => by rw [hc, h.tw.cbv] at hx; cases hx), hxt⟩
  cases hc : G0 x with
  | none => rfl
  | some o => rw [h.rl.but x o hc hxt] at hx; cases hx

theorem Cp.grow {G G1 : Heap} {qq q1 : Gh} {τ : Nat → Option Nat} {fa fm : NM} {jl : List Jr} (h : Cp H q k ss cap bd s cb tr G0 q0 dn a m op oc jp jc G qq τ fa fm jl) (f : Fx G qq G1 q1) : Cp H q k ss cap bd s cb tr G0 q0 dn a m op oc jp jc G1 q1 τ fa fm jl :=
  ⟨h.tw.step f, h.rl.fx f, h.dp.ev f.ev fun _ _ h => h, h.dn0, h.a0, h.m0, h.j0, h.ne⟩

theorem keys_all {src : NM} {es : Array MapEntry} {ck : Nat} {vs : List MapEntry} {seen : Array Nat} (hok : MapOkS es ck) (hget : ∀ x, sget es.toList x = (src x).map fun b => .pointer (oP (some b))) (hm : Met es seen vs) (hall : ∀ e ∈ es.toList, e.born ∈ seen) (x : ByteArray) : x ∈ vs.map (fun e => keyS e.key) ↔ src x ≠ none := by
  have hp := (hm.perm hok.2.2.2 hall).map fun e => keyS e.key
  rw [hp.mem_iff]
  constructor
  · intro hx hc
    obtain ⟨e, he, rfl⟩ := List.mem_map.1 hx
    have := hget (keyS e.key)
    rw [hc, Option.map_none, sget_eq_none] at this
    exact this e he rfl
  · intro hx
    cases hs : src x with
    | none => exact absurd hs hx
    | some b =>
      have := hget x
      rw [hs] at this
      obtain ⟨e, he, hk, _⟩ := sget_mem this
      exact List.mem_map.2 ⟨e, he, hk⟩

theorem key_of {src : NM} {es : Array MapEntry} {ck : Nat} (hok : MapOkS es ck) (hget : ∀ x, sget es.toList x = (src x).map fun b => .pointer (oP (some b))) {e : MapEntry} (he : e ∈ es.toList) : ∃ b, src (keyS e.key) = some b ∧ e.key = .string (keyS e.key) ∧ e.val = .pointer (oP (some b)) := by
  obtain ⟨nm, hnm⟩ := hok.1 e he
  have h1 := sget_of_mem hok.2.1 he
  rw [hget] at h1
  cases hs : src (keyS e.key) with
  | none => rw [hs] at h1; cases h1
  | some b =>
    rw [hs] at h1
    exact ⟨b, rfl, by rw [hnm]; rfl, (Option.some.inj h1).symm⟩

/-- The stable map, copied. -/
theorem f138_L4_ht {sr ck : Nat} {es : Array MapEntry} (hK : FkG H q g k sb ss cap bd pwb s G0 q0) (hsr : H sr = some (.map es ck)) (hok : MapOkS es ck) (hgt : ∀ x, sget es.toList x = (s.st x).map fun b => .pointer (oP (some b))) (hi0 : G0 it = none) (hic : it ≠ cb) (hit : it ≠ tr) :
    ∀ (d : Nat) (vs : List MapEntry) (seen : Array Nat) (G : Heap) (qq : Gh) (τ : Nat → Option Nat) (fa fm : NM), es.size + 1 - vs.length = d → Met es seen vs → Cp H q k ss cap bd s cb tr G0 q0 dn a m op oc jp jc G qq τ fa fm s.jr → qq it = none → G it = some (.mapIter (some sr) ck seen ck) →
      (∀ x, fa x = (s.m x).bind τ) → (∀ x b, s.m x = some b → τ b ≠ none) → Half s.st τ vs fm → f138_L4 cb (some ⟨dn, 0, none⟩) (some ⟨it, 0, none⟩) G (post138 H q k ss cap bd s cb tr G0 q0) := by
  intro d
  induction d with
  | zero =>
    intro vs seen G qq τ fa fm hd hm
    have := hm.len
    omega
  | succ d ih =>
    intro vs seen G qq τ fa fm hd hm hC hiq hib hfa hfd hh
    have hr := hC.tw.fx.sub _ _ hsr
    apply f138_L4_of
    refine semOk_nextS hib hr hok (fun hall => .inl ⟨rfl, ?_⟩) fun e he hns G1 hw1 => .inr ⟨e.key, e.val, rfl, ?_⟩
    · apply f138_L5_of
      refine ⟨(fun h => by cases h), fun _ => ⟨dn, 0, rfl, jp, s.jr.length, jc, Cells.of hC.dp.blk rfl, ?_⟩⟩
      obtain ⟨h1, h2⟩ := hh.done (keys_all hok hgt hm hall)
      exact f138_L6_ht hK _ 0 G qq τ fa fm rfl (Nat.zero_le _) (by simpa using hC) ⟨hfa, hfd, h1, h2⟩ (by simp)
    · have C1 := hC.scr hK hi0 hiq hic hit hw1
      obtain ⟨b, hb, hkey, hval⟩ := key_of hok hgt he
      have hr1 := C1.tw.fx.sub _ _ hsr
      apply f138_L5_of
      refine ⟨fun _ => ?_, (fun h => by cases h)⟩
      refine semOk_entryS hw1.same hr1 hok he ⟨keyS e.key, oP (some b), by rw [← hkey, hval], dn, 0, rfl, _, Cells.of C1.dp.blk rfl, ?_⟩
      refine (f136_ht hK.hg hK.hr hK.hq hK.hS (by have := hK.hbd; omega) C1.tw (hK.hsT _ _ hb)).mono fun v G2 ⟨b2, q2, τ2, hv2, tw2, ht2, hx2, but2, e2, un2⟩ => ⟨_, hv2, ?_⟩
      have C2 := C1.tw' tw2 but2 e2
      obtain ⟨es2, ck2, hm2, hok2, hgt2⟩ := C2.dp.mm
      refine ⟨Cells.of C2.dp.blk rfl, semOk_mapUpdateS Tryz.underlying168 Tryz.underlying9 hm2 hok2.1 fun G3 hw3 => ?_⟩
      have C3 := C2.putM hK hm2 hok2 hgt2 hw3
      have hiq2 := un2 it _ hw1.same hiq
      have hit3 : G3 it = some (.mapIter (some sr) ck (seen.push e.born) ck) := by
        refine hw3.keep (but2 _ _ hw1.same hit) fun hc => ?_
        have := C2.dp.tm
        rw [← hc, hiq2] at this
        cases this
      refine ih (vs ++ [e]) _ G3 q2 τ2 fa _ (by simp; have := hm.len; omega) (hm.push he hns) C3 hiq2 hit3 (fun x => ?_) (fun x b hb => ext_ne hx2 (hfd x b hb)) (hh.step hx2 hb ht2)
      rw [hfa, bind_ext (f := τ) hx2 (hfd x)]

/-- The live map, copied. -/
theorem f138_L2_ht {lr ck sr ck0 : Nat} {es es0 : Array MapEntry} {sop : Option Addr} {son soc : Nat} {sjp : Option Addr} {sjn sjc : Nat} (hK : FkG H q g k sb ss cap bd pwb s G0 q0) (hdb : H db = some (.cells #[.map (some lr), .slice sop son soc, .map (some sr), .slice sjp sjn sjc] 171 (0, 0))) (hlr : H lr = some (.map es ck)) (hok : MapOkS es ck) (hgt : ∀ x, sget es.toList x = (s.m x).map fun b => .pointer (oP (some b)))
    (hsr : H sr = some (.map es0 ck0)) (hok0 : MapOkS es0 ck0) (hgt0 : ∀ x, sget es0.toList x = (s.st x).map fun b => .pointer (oP (some b))) (hi0 : G0 it = none) (hic : it ≠ cb) (hit : it ≠ tr) :
    ∀ (d : Nat) (vs : List MapEntry) (seen : Array Nat) (G : Heap) (qq : Gh) (τ : Nat → Option Nat) (fa : NM), es.size + 1 - vs.length = d → Met es seen vs → Cp H q k ss cap bd s cb tr G0 q0 dn a m op oc jp jc G qq τ fa (fun _ => none) s.jr → qq it = none → G it = some (.mapIter (some lr) ck seen ck) →
      Half s.m τ vs fa → f138_L2 (some ⟨db, 0, none⟩) cb (some ⟨dn, 0, none⟩) (some ⟨it, 0, none⟩) G (post138 H q k ss cap bd s cb tr G0 q0) := by
  intro d
  induction d with
  | zero =>
    intro vs seen G qq τ fa hd hm
    have := hm.len
    omega
  | succ d ih =>
    intro vs seen G qq τ fa hd hm hC hiq hib hh
    have hr := hC.tw.fx.sub _ _ hlr
    apply f138_L2_of
    refine semOk_nextS hib hr hok (fun hall => .inl ⟨rfl, ?_⟩) fun e he hns G1 hw1 => .inr ⟨e.key, e.val, rfl, ?_⟩
    · apply f138_L3_of
      refine ⟨(fun h => by cases h), fun _ => ⟨db, 0, rfl, _, Cells.of (hC.tw.fx.sub _ _ hdb) rfl, ?_⟩⟩
      refine semOk_range Tryz.underlying168 (hC.tw.fx.sub _ _ hsr) fun it2 G2 ha2 => ⟨_, rfl, ?_⟩
      obtain ⟨h1, h2⟩ := hh.done (keys_all hok hgt hm hall)
      obtain ⟨f1, f2, f3⟩ := hC.fresh ha2.fresh
      have hq2 : qq it2 = none := by
        cases hc : qq it2 with
        | none => rfl
        | some t => exact absurd ha2.fresh (hC.tw.fx.ev.ok it2 t hc)
      exact f138_L4_ht hK hsr hok0 hgt0 f1 f2 f3 _ [] #[] G2 qq τ fa _ rfl (Met.start es0) (hC.grow (Fx.ofSub hC.tw.fx.ev.ok ha2.sub)) hq2 ha2.same h1 h2 Half.nil
    · have C1 := hC.scr hK hi0 hiq hic hit hw1
      obtain ⟨b, hb, hkey, hval⟩ := key_of hok hgt he
      have hr1 := C1.tw.fx.sub _ _ hlr
      apply f138_L3_of
      refine ⟨fun _ => ?_, (fun h => by cases h)⟩
      refine semOk_entryS hw1.same hr1 hok he ⟨keyS e.key, oP (some b), by rw [← hkey, hval], dn, 0, rfl, _, Cells.of C1.dp.blk rfl, ?_⟩
      refine (f136_ht hK.hg hK.hr hK.hq hK.hS (by have := hK.hbd; omega) C1.tw (hK.hmT _ _ hb)).mono fun v G2 ⟨b2, q2, τ2, hv2, tw2, ht2, hx2, but2, e2, un2⟩ => ⟨_, hv2, ?_⟩
      have C2 := C1.tw' tw2 but2 e2
      obtain ⟨es2, ck2, hm2, hok2, hgt2⟩ := C2.dp.ma
      refine ⟨Cells.of C2.dp.blk rfl, semOk_mapUpdateS Tryz.underlying168 Tryz.underlying9 hm2 hok2.1 fun G3 hw3 => ?_⟩
      have C3 := C2.putA hK hm2 hok2 hgt2 hw3
      have hiq2 := un2 it _ hw1.same hiq
      have hit3 : G3 it = some (.mapIter (some lr) ck (seen.push e.born) ck) := by
        refine hw3.keep (but2 _ _ hw1.same hit) fun hc => ?_
        have := C2.dp.ta
        rw [← hc, hiq2] at this
        cases this
      exact ih (vs ++ [e]) _ G3 q2 τ2 _ (by simp; have := hm.len; omega) (hm.push he hns) C3 hiq2 hit3 (hh.step hx2 hb ht2)

end

end Go.Proofs.Qxb6500695aGreatFmt
