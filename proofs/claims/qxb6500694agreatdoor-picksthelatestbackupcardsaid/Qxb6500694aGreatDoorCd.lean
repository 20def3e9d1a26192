/-
  CONTRACTS, PART D: ResolveChain.
-/
import Derived.Test.Qxb6500694aGreatDoorCc
import Derived.Test.Qxb6500694aGreatDoorVb
namespace Go.Proofs.Qxb6500694aGreatDoor
open Go Go.Eng Go.Proofs
set_option maxRecDepth 100000
set_option linter.unusedVariables false
set_option linter.unusedSimpArgs false

theorem neqErr {x : Operand} {v : Value} (hv : IsI v) : BinIs Tryz.prog .neq 37 x (.const .nilIface) v .nilIface (.bool !(isNil v)) :=
  binIs_if_neq hv Tryz.underlying37

theorem eqlErr {x : Operand} {v : Value} (hv : IsI v) : BinIs Tryz.prog .eql 37 x (.const .nilIface) v .nilIface (.bool (isNil v)) :=
  binIs_if_eql hv Tryz.underlying37

/-- A chain as it is followed down: each one's parent is the next, complete before it began. -/
def DownOk (ys : List Man) : Prop := ∀ i (h : i + 1 < ys.length), ys[i].par = ys[i + 1].id ∧ ys[i + 1].stop ≤ ys[i].start

/-- A chain, full backup first. -/
def UpOk (ys : List Man) : Prop := ∀ i (h : i + 1 < ys.length), ys[i + 1].par = ys[i].id ∧ ys[i].stop ≤ ys[i + 1].start

theorem DownOk.rev {ys : List Man} (h : DownOk ys) : UpOk ys.reverse := by
  intro i hi
  simp only [List.length_reverse] at hi
  have h1 := h (ys.length - 1 - (i + 1)) (by omega)
  simp only [List.getElem_reverse]
  have e1 : ys.length - 1 - (i + 1) + 1 = ys.length - 1 - i := by omega
  simp only [e1] at h1
  exact h1

theorem DownOk.snoc {ys : List Man} {m : Man} (h : DownOk ys) (hl : ∀ x, ys.getLast? = some x → x.par = m.id ∧ m.stop ≤ x.start) : DownOk (ys ++ [m]) := by
  intro i hi
  simp only [List.length_append, List.length_singleton] at hi
  by_cases hc : i + 1 < ys.length
  · rw [List.getElem_append_left (by omega), List.getElem_append_left hc]
    exact h i hc
  · have he : i + 1 = ys.length := by omega
    have h1 := hl ys[i] (by rw [List.getLast?_eq_getElem?, show ys.length - 1 = i by omega, List.getElem?_eq_getElem])
    rw [List.getElem_append_left (by omega), List.getElem_append_right (by omega)]
    simpa [he] using h1

/-- A sound chain, the final backup first: each link found, complete before its child began; the full backup last. -/
def ChL (esM : Array MapEntry) : Int → List Man → Prop
  | _, [] => False
  | id, m :: r => iget esM.toList id = some m.val ∧ m.id = id ∧ m.start ≤ m.stop ∧ (match r with
      | [] => m.par = 0 ∧ m.pn = 4
      | m2 :: _ => m.par ≠ 0 ∧ m2.stop ≤ m.start ∧ ChL esM m.par r)

theorem Man.val_inj {a b : Man} (h : a.val = b.val) : a = b := by
  cases a; cases b
  simp only [Man.val, Value.agg.injEq, Array.mk.injEq, List.cons.injEq, Value.int.injEq, Value.slice.injEq, true_and, and_true] at h
  obtain ⟨h1, h2, h3, h4, h5, h6, h7, h8⟩ := h
  subst h1; subst h2; subst h3; subst h4; subst h5; subst h6; subst h7; subst h8
  rfl

theorem man_uniq {esM : Array MapEntry} {id : Int} {a b : Man} (h : iget esM.toList id = some a.val) (k : iget esM.toList id = some b.val) : a = b :=
  Man.val_inj (Option.some.inj (h.symm.trans k))

theorem ChL.uniq {esM : Array MapEntry} : ∀ (l : List Man) (id : Int) (l2 : List Man), ChL esM id l → ChL esM id l2 → l = l2
  | [], _, _, h, _ => h.elim
  | _ :: _, _, [], _, h => h.elim
  | [m], id, [m'], h, h' => by rw [man_uniq h.1 h'.1]
  | [m], id, m' :: m2 :: r, h, h' => by
    have he := man_uniq h.1 h'.1
    subst he
    exact absurd h.2.2.2.1 h'.2.2.2.1
  | m' :: m2 :: r, id, [m], h, h' => by
    have he := man_uniq h.1 h'.1
    subst he
    exact absurd h'.2.2.2.1 h.2.2.2.1
  | m :: m2 :: r, id, m' :: m2' :: r', h, h' => by
    have he := man_uniq h.1 h'.1
    subst he
    rw [ChL.uniq (m2 :: r) _ _ h.2.2.2.2.2 h'.2.2.2.2.2]

theorem ChL.drop {esM : Array MapEntry} : ∀ (l : List Man) (id : Int), ChL esM id l → ∀ j (hj : j < l.length), ChL esM l[j].id (l.drop j)
  | [], _, h, _, _ => h.elim
  | m :: r, id, h, 0, _ => by
    have h1 := h.2.1
    simp only [List.getElem_cons_zero, List.drop_zero]
    rw [h1]; exact h
  | [m], id, h, j + 1, hj => absurd hj (by simp)
  | m :: m2 :: r, id, h, j + 1, hj => by
    have := ChL.drop (m2 :: r) _ h.2.2.2.2.2 j (by simpa using hj)
    simpa using this

/-- A member that is not the full backup: the chain goes on. -/
theorem ChL.step {esM : Array MapEntry} {id : Int} {m : Man} {l : List Man} (hg : iget esM.toList id = some m.val) (hid : m.id = id) (hst : m.start ≤ m.stop) (hpar : m.par ≠ 0) :
    ChL esM id l ↔ ∃ l2, l = m :: l2 ∧ ChL esM m.par l2 ∧ ∀ y, l2.head? = some y → y.stop ≤ m.start := by
  constructor
  · intro h
    match l, h with
    | [m'], h =>
      have he := man_uniq hg h.1
      subst he
      exact absurd h.2.2.2.1 hpar
    | m' :: m2 :: r, h =>
      have he := man_uniq hg h.1
      subst he
      exact ⟨m2 :: r, rfl, h.2.2.2.2.2, fun y hy => by cases hy; exact h.2.2.2.2.1⟩
  · rintro ⟨l2, rfl, h2, h3⟩
    match l2, h2, h3 with
    | m2 :: r, h2, h3 => exact ⟨hg, hid, hst, hpar, h3 m2 rfl, h2⟩

theorem ChL.last {esM : Array MapEntry} {id : Int} {m : Man} {l : List Man} (hg : iget esM.toList id = some m.val) (hpar : m.par = 0) (h : ChL esM id l) : l = [m] ∧ m.pn = 4 := by
  match l, h with
  | [m'], h =>
    have he := man_uniq hg h.1
    subst he
    exact ⟨rfl, h.2.2.2.2⟩
  | m' :: m2 :: r, h =>
    have he := man_uniq hg h.1
    subst he
    exact absurd hpar h.2.2.2.1

theorem ChL.head {esM : Array MapEntry} {id : Int} {l : List Man} (h : ChL esM id l) : ∃ m r, l = m :: r ∧ iget esM.toList id = some m.val ∧ m.start ≤ m.stop := by
  match l, h with
  | m :: r, h => exact ⟨m, r, rfl, h.1, h.2.2.1⟩

/-- Where the walk down the chain stands. -/
def At (esM : Array MapEntry) (final : Int) (ys : List Man) (id : Int) : Prop :=
  ∀ l, ChL esM final l ↔ ∃ l', l = ys ++ l' ∧ ChL esM id l' ∧ ∀ x y, ys.getLast? = some x → l'.head? = some y → y.stop ≤ x.start

theorem At.none {esM : Array MapEntry} {final id : Int} {ys : List Man} (h : At esM final ys id) (hg : iget esM.toList id = none) : ∀ l, ¬ ChL esM final l := fun l hl => by
  obtain ⟨l', _, h2, _⟩ := (h l).1 hl
  obtain ⟨m, r, _, h3, _⟩ := h2.head
  rw [hg] at h3; cases h3

theorem At.seen {esM : Array MapEntry} {final id : Int} {ys : List Man} (h : At esM final ys id) (hin : id ∈ ys.map (·.id)) : ∀ l, ¬ ChL esM final l := fun l hl => by
  obtain ⟨l', h1, h2, _⟩ := (h l).1 hl
  obtain ⟨m, hm, hmid⟩ := List.mem_map.1 hin
  obtain ⟨j, hj, rfl⟩ := List.getElem_of_mem hm
  subst h1
  have h3 := ChL.drop _ _ hl j (by simp; omega)
  rw [List.getElem_append_left hj, hmid] at h3
  have h4 := congrArg List.length (ChL.uniq _ _ _ h3 h2)
  simp at h4
  omega

theorem At.back {esM : Array MapEntry} {final id : Int} {ys : List Man} {m : Man} (h : At esM final ys id) (hg : iget esM.toList id = some m.val) (hst : m.stop < m.start) : ∀ l, ¬ ChL esM final l := fun l hl => by
  obtain ⟨l', _, h2, _⟩ := (h l).1 hl
  obtain ⟨m', r, _, h3, h4⟩ := h2.head
  have := man_uniq hg h3
  subst this
  omega

theorem At.late {esM : Array MapEntry} {final id : Int} {ys : List Man} {m x : Man} (h : At esM final ys id) (hg : iget esM.toList id = some m.val) (hx : ys.getLast? = some x) (hst : x.start < m.stop) : ∀ l, ¬ ChL esM final l := fun l hl => by
  obtain ⟨l', _, h2, h5⟩ := (h l).1 hl
  obtain ⟨m', r, h6, h3, h4⟩ := h2.head
  have := man_uniq hg h3
  subst this
  have := h5 x m hx (by rw [h6]; rfl)
  omega

theorem At.pages {esM : Array MapEntry} {final id : Int} {ys : List Man} {m : Man} (h : At esM final ys id) (hg : iget esM.toList id = some m.val) (hp : m.par = 0) (hn : m.pn ≠ 4) : ∀ l, ¬ ChL esM final l := fun l hl => by
  obtain ⟨l', _, h2, h5⟩ := (h l).1 hl
  exact hn (h2.last hg hp).2

theorem At.next {esM : Array MapEntry} {final id : Int} {ys : List Man} {m : Man} (h : At esM final ys id) (hg : iget esM.toList id = some m.val) (hid : m.id = id) (hst : m.start ≤ m.stop) (hp : m.par ≠ 0) (hl : ∀ x, ys.getLast? = some x → m.stop ≤ x.start) :
    At esM final (ys ++ [m]) m.par := fun l => by
  rw [h l]
  constructor
  · rintro ⟨l', rfl, h2, h3⟩
    obtain ⟨l2, rfl, h4, h5⟩ := (ChL.step hg hid hst hp).1 h2
    refine ⟨l2, by simp, h4, fun x y hx hy => ?_⟩
    simp at hx
    subst hx
    exact h5 y hy
  · rintro ⟨l2, rfl, h2, h3⟩
    refine ⟨m :: l2, by simp, (ChL.step hg hid hst hp).2 ⟨l2, rfl, h2, fun y hy => h3 m y (by simp) hy⟩, fun x y hx hy => ?_⟩
    simp at hy
    subst hy
    exact hl x hx

theorem At.done {esM : Array MapEntry} {final id : Int} {ys : List Man} {m : Man} (h : At esM final ys id) (hg : iget esM.toList id = some m.val) (hid : m.id = id) (hst : m.start ≤ m.stop) (hp : m.par = 0) (hn : m.pn = 4) (hl : ∀ x, ys.getLast? = some x → m.stop ≤ x.start) :
    ChL esM final (ys ++ [m]) :=
  (h _).2 ⟨[m], rfl, ⟨hg, hid, hst, hp, hn⟩, fun x y hx hy => by cases hy; exact hl x hx⟩

/-- What ResolveChain hands back. -/
def chainPost (H : Heap) (esM : Array MapEntry) (final : Int) (v : Value) (H' : Heap) : Prop :=
  ∃ p n c e, v = .tuple #[.slice p n c, e] ∧ IsI e ∧ Sub H H' ∧ (e = .nilIface → ∃ xs : List Man, New H p ∧ p ≠ none ∧ Mans H' p n c xs ∧ n ≤ 131072 ∧ 0 < n ∧ UpOk xs ∧
    (∀ m ∈ xs, iget esM.toList m.id = some m.val ∧ m.start ≤ m.stop) ∧ (∀ m, xs.head? = some m → m.par = 0 ∧ m.pn = 4) ∧ (∀ m, xs.getLast? = some m → m.id = final) ∧ ChL esM final xs.reverse) ∧ (e ≠ .nilIface → ∀ l, ¬ ChL esM final l)

section
variable {H : Heap} {ba : Nat} {esM esL esH : Array MapEntry}

theorem badChain {h : Heap} {final : Int} (hG : Globs H) (hs : Sub H h) (hno : ∀ l, ¬ ChL esM final l) : ∃ t x, Cells h 10 0 [.iface t x] ∧ chainPost H esM final (.tuple #[.slice none 0 0, .iface t x]) h := by
  obtain ⟨t, x, hx⟩ := (hG.sub hs) 10 (by simp)
  exact ⟨t, x, hx, none, 0, 0, _, rfl, IsI.some _ _, hs, (fun h => by cases h), fun _ => hno⟩

theorem ids_le {ys : List Man} (hnd : (ys.map (·.id)).Nodup) (hall : ∀ m ∈ ys, iget esM.toList m.id = some m.val ∧ m.start ≤ m.stop) : ys.length ≤ esM.size := by
  have h1 : (ys.map (·.id)) ⊆ esM.toList.map fun e => keyN e.key := by
    intro x hx
    obtain ⟨m, hm, rfl⟩ := List.mem_map.1 hx
    obtain ⟨e, he, hk, _⟩ := iget_mem (hall m hm).1
    exact List.mem_map.2 ⟨e, he, hk⟩
  have := hnd.length_le_of_subset h1
  simpa using this

theorem f109_L1_ht (hA : Arch H ba esM esL esH) (hG : Globs H) {bs : Nat} (hbs : H bs = none) {final : Int} :
    ∀ (k : Nat) (ys : List Man) (p : Option Addr) (n c : Nat) (h : Heap) (es : Array MapEntry) (ck : Nat) (id : Int), n + k = esM.size + 1 → Sub H h → New H p → Mans h p n c ys →
      h bs = some (.map es ck) → MapOk .u64 es ck → (∀ x, iget es.toList x = if x ∈ ys.map (·.id) then some (.bool true) else none) → (ys.map (·.id)).Nodup →
      (∀ m ∈ ys, iget esM.toList m.id = some m.val ∧ m.start ≤ m.stop) → DownOk ys → (∀ m, ys.getLast? = some m → m.par = id) → (ys = [] → id = final) → (∀ m, ys.head? = some m → m.id = final) → At esM final ys id →
      f109_L1 (some ⟨ba, 0, none⟩) p n c (some bs) id h (chainPost H esM final) := by
  intro k
  induction k with
  | zero =>
    intro ys p n c h es ck id hk hs hnew ho hb hok hseen hnd hall hdown hlast hfin hhead hat
    have := ids_le hnd hall
    have := ho.len
    omega
  | succ k ih =>
    intro ys p n c h es ck id hk hs hnew ho hb hok hseen hnd hall hdown hlast hfin hhead hat
    have hle := ids_le hnd hall
    have hlen := ho.len
    have hsz := hA.sizeM
    have bad : ∀ {m : Man} {h : Heap}, Sub H h → (∀ l, ¬ ChL esM final l) → f109_L2 (some ⟨ba, 0, none⟩) p n c (some bs) id m.id m.par m.tl m.start m.stop m.pp m.pn m.pc true h (chainPost H esM final) := by
      intro m h hs hno
      apply f109_L2_of
      refine ⟨fun _ => badChain hG hs hno, fun h => by cases h⟩
    apply f109_L1_of
    refine (f33_ht (hA.sub hs) (hG.sub hs) id).mono fun v H' ⟨he, hv⟩ => ?_
    subst he
    rcases hv with ⟨m, hg, hid, rfl⟩ | ⟨hg, t, x, rfl⟩
    · refine ⟨m.id, m.par, m.tl, m.start, m.stop, m.pp, m.pn, m.pc, _, rfl, fun _ => ⟨_, neqErr IsI.nil, (fun h => by cases h), fun _ => ⟨fun h => ?_, fun _ => ?_⟩⟩⟩
      · rw [hid] at h; simp at h
      · have hlook := lookIs_int (P := Tryz.prog) (t := 270) (r := bs) (c := ck) (n := id) (ok := false) (zero := .bool false) Tryz.underlying270 Tryz.underlying26 (inf := Tryz.t4) (by kernel_rfl) (by kernel_rfl) hok.1
        refine ⟨bs, es, ck, rfl, hb, ?_⟩
        by_cases hin : id ∈ ys.map (·.id)
        · have h1 := hseen id
          rw [if_pos hin] at h1
          simp only [lookV, h1] at hlook
          exact ⟨true, hlook, fun _ => bad hs (hat.seen hin), fun h => by cases h⟩
        · have h1 := hseen id
          rw [if_neg hin] at h1
          simp only [lookV, h1] at hlook
          refine ⟨false, hlook, (fun h => by cases h), fun _ => ?_⟩
          -- the member is new
          apply f109_L2_of
          refine ⟨fun hst => badChain hG hs (hat.back hg (of_decide_eq_true hst)), fun hst => ?_⟩
          have hst := of_decide_eq_false hst
          have bad3 : (∀ l, ¬ ChL esM final l) → f109_L3 (some ⟨ba, 0, none⟩) p n c (some bs) id m.id m.par m.tl m.start m.stop m.pp m.pn m.pc true H' (chainPost H esM final) := by
            intro hno
            apply f109_L3_of
            exact ⟨fun _ => badChain hG hs hno, fun h => by cases h⟩
          have good3 : (∀ x, ys.getLast? = some x → m.stop ≤ x.start) → f109_L3 (some ⟨ba, 0, none⟩) p n c (some bs) id m.id m.par m.tl m.start m.stop m.pp m.pn m.pc false H' (chainPost H esM final) := by
            intro hlt
            apply f109_L3_of
            refine ⟨(fun h => by cases h), fun _ => ?_⟩
            refine semOk_mapUpdate Tryz.underlying270 Tryz.underlying26 hb hok.1 fun h1 hw1 => ?_
            obtain ⟨es', ck', he', hok', hget', _, _, _⟩ := mput_ok (n := id) (v := .bool true) hok
            rw [he'] at hw1
            intro b61 h2 ha2
            have hs1 : Sub H h1 := hs.wr hw1 hbs
            have ho1 : Mans h1 p n c ys := by
              refine ho.keep fun a ha => hw1.other ?_
              intro hbe
              rcases ho.own with ⟨hp, _⟩ | ⟨b', o', arr, hp, hbb, _⟩
              · rw [hp] at ha; cases ha
              · rw [hp] at ha; simp at ha; subst ha
                simp only at hbe
                rw [hbe, hb] at hbb; cases hbb
            refine app_man m ha2 ho1 (by omega) hs1 hnew fun p' c' h3 a1 a2 a3 a4 => ⟨p', n + 1, c', rfl, ?_⟩
            have hb3 : h3 bs = some (.map es' ck') := by
              refine a4 bs _ hw1.same fun a ha hbe => ?_
              rcases ho.own with ⟨hp, _⟩ | ⟨b', o', arr, hp, hbb, _⟩
              · rw [hp] at ha; cases ha
              · rw [hp] at ha; simp at ha; subst ha
                simp only at hbe
                rw [hbe, hb] at hbb; cases hbb
            have hnd' : ((ys ++ [m]).map (·.id)).Nodup := by
              rw [List.map_append, List.nodup_append]
              refine ⟨hnd, by simp, fun a ha b hb' => ?_⟩
              simp at hb'
              subst hb'
              rw [hid]
              intro hab
              exact hin (hab ▸ ha)
            have hall' : ∀ x ∈ ys ++ [m], iget esM.toList x.id = some x.val ∧ x.start ≤ x.stop := by
              intro x hx
              rcases List.mem_append.1 hx with h4 | h4
              · exact hall x h4
              · rw [List.mem_singleton.1 h4]
                exact ⟨by rw [hid]; exact hg, by omega⟩
            have hdown' : DownOk (ys ++ [m]) := hdown.snoc fun x hx => ⟨by rw [hlast x hx, hid], hlt x hx⟩
            have hhead' : ∀ x, (ys ++ [m]).head? = some x → x.id = final := by
              intro x hx
              cases ys with
              | nil => simp at hx; subst hx; rw [hid]; exact hfin rfl
              | cons y ys => simp at hx; subst hx; exact hhead _ rfl
            refine ⟨fun hpar => ?_, fun hpar => ?_⟩
            · -- the full backup
              have hlen3 := a3.len
              have hle3 := ids_le hnd' hall'
              obtain ⟨b72, o72, hp72, hc72⟩ := a3.cells (i := n) (by simp; omega)
              rw [wrapP (by omega) (by omega)]
              have hxs : (ys ++ [m])[n]'(by simp; omega) = m := by
                simp [hlen]
              rw [hxs] at hc72
              refine ⟨b72, o72, hp72, by omega, by omega, m.pp, m.pn, m.pc, hc72.part 5 rfl (by simp [Man.cs]), fun hpn => badChain hG a1 (hat.pages hg (by simpa using hpar) (fun h4 => by rw [h4] at hpn; simp at hpn)), fun hpn => ?_⟩
              refine (f141_ht (H := H) (by omega) a2 a1 a3).mono fun v h4 ⟨hv, hs4, ho4⟩ => ⟨hv, p', n + 1, c', _, rfl, IsI.nil, hs4, (fun _ => ⟨(ys ++ [m]).reverse, a2, by rw [hp72]; simp, ho4, by omega, by omega, hdown'.rev, ?_, ?_, ?_, ?_⟩), fun h => absurd rfl h⟩
              · intro x hx; exact hall' x (List.mem_reverse.1 hx)
              · intro x hx
                rw [List.reverse_append] at hx
                simp at hx
                subst hx
                have hpn' : (m.pn : Int) = 4 := by simpa using hpn
                exact ⟨by simpa using hpar, by omega⟩
              · intro x hx
                rw [List.getLast?_reverse] at hx
                exact hhead' x hx
              · rw [List.reverse_reverse]
                have hpn' : (m.pn : Int) = 4 := by simpa using hpn
                exact hat.done hg hid (by omega) (by simpa using hpar) (by omega) hlt
            · refine ih (ys ++ [m]) p' (n + 1) c' h3 es' ck' m.par (by omega) a1 a2 a3 hb3 hok' ?_ hnd' hall' hdown' ?_ ?_ hhead' (hat.next hg hid (by omega) (by simpa using hpar) hlt)
              · intro x
                rw [hget']
                by_cases hx : x = id
                · rw [if_pos hx, if_pos (by rw [List.map_append]; exact List.mem_append_right _ (by simp [hid, hx]))]
                · rw [if_neg hx, hseen x]
                  by_cases hx2 : x ∈ ys.map (·.id)
                  · rw [if_pos hx2, if_pos (by rw [List.map_append]; exact List.mem_append_left _ hx2)]
                  · rw [if_neg hx2, if_neg]
                    rw [List.map_append, List.mem_append]
                    intro h5
                    rcases h5 with h5 | h5
                    · exact hx2 h5
                    · simp [hid] at h5; exact hx h5
              · intro x hx
                simp at hx
                rw [hx]
              · intro h5; simp at h5
          refine ⟨fun hpos => ?_, fun hpos => ?_⟩
          · have hpos : (0 : Int) < n := of_decide_eq_true hpos
            obtain ⟨b51, o51, hp51, hc51⟩ := ho.cells (i := n - 1) (by omega)
            rw [wrapP (by omega) (by omega)]
            refine ⟨b51, o51, hp51, by omega, by omega, _, hc51.part 3 rfl (by simp [Man.cs]), ?_⟩
            have hgl : ys.getLast? = some ys[n - 1] := by
              rw [List.getLast?_eq_getElem?, List.getElem?_eq_getElem (by omega)]
              congr 2
              omega
            by_cases hlt : m.stop > ys[n - 1].start
            · rw [decide_eq_true hlt]; exact bad3 (hat.late hg hgl hlt)
            · rw [decide_eq_false hlt]
              refine good3 fun x hx => ?_
              rw [hgl] at hx
              cases hx
              omega
          · have hpos := of_decide_eq_false hpos
            refine good3 fun x hx => ?_
            have : ys = [] := List.eq_nil_of_length_eq_zero (by omega)
            subst this
            cases hx
    · exact ⟨0, 0, 0, 0, 0, none, 0, 0, _, rfl, fun _ => ⟨_, neqErr (IsI.some _ _), fun _ => bad (m := Man.zero) hs (hat.none hg), fun h => by cases h⟩⟩

theorem f109_ht (hA : Arch H ba esM esL esH) (hG : Globs H) (final : Int) :
    HT Tryz.prog 109 [.iface 44 (.pointer (some ⟨ba, 0, none⟩)), .int .u64 final] H (chainPost H esM final) := by
  apply f109_of
  intro b12 h1 ha
  exact f109_L1_ht hA hG ha.fresh (esM.size + 1) [] none 0 0 h1 #[] 0 final (by omega) ha.sub (New.none _) (OwnL.nil Man.size) ha.same (MapOk.empty _ _) (by simp [iget, ifind]) (by simp) (by simp) (by intro i hi; simp at hi) (by simp) (by simp) (by simp) (fun l => ⟨fun h => ⟨l, rfl, h, fun x y hx => by cases hx⟩, fun ⟨l', h1, h2, _⟩ => by rw [h1]; exact h2⟩)

end

end Go.Proofs.Qxb6500694aGreatDoor
