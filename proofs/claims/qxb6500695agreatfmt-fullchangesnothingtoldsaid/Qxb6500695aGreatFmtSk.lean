/-
  THE STORE, PART K: what always holds of it (no Go in sight).
-/
import Derived.Test.Qxb6500695aGreatFmtSj
namespace Go.Proofs.Qxb6500695aGreatFmt
open Go Go.Eng Go.Proofs
set_option maxRecDepth 100000
set_option linter.unusedVariables false
set_option linter.unusedSimpArgs false
set_option linter.unusedSectionVars false

theorem put_dirty {P : Pl} {i : Nat} {v : List Int} : (P.put i v).cache (i : Int) ≠ [] := by
  unfold Pl.put
  simp

theorem put_keep {P : Pl} {i : Nat} {v : List Int} {j : Int} (h : P.cache j ≠ []) : (P.put i v).cache j ≠ [] := by
  unfold Pl.put
  simp only
  split
  · simp
  · exact h

theorem wrF_keep {ss : Nat} {j : Int} : ∀ (n : Nat) (P : Pl) (off : Nat) (src : List Int), P.cache j ≠ [] → (wrF ss n P off src).cache j ≠ []
  | 0, _, _, _, h => h
  | n + 1, P, off, src, h => by
    unfold wrF
    split
    · exact h
    · exact wrF_keep n _ _ _ (put_keep h)

theorem wrF_dirty {ss n off : Nat} {P : Pl} {src : List Int} (hn : 0 < n) (hs : src ≠ []) : ¬ (wrF ss n P off src).clean := by
  intro hc
  cases n with
  | zero => omega
  | succ n =>
    unfold wrF at hc
    rw [if_neg hs] at hc
    exact wrF_keep n _ _ _ put_dirty (hc _)

/-- The objects that hold room: what is in sight, and what the journal took out of sight. -/
def heldL (s : StV) : List Nat := s.xs.filterMap s.m ++ vics s.jr

def resS (s : StV) (b : Nat) : Nat := (s.O b).res

/-- What always holds of a store. -/
structure StI (ss cap N : Nat) (s : StV) : Prop where
  shp : 0 < ss ∧ ss ≤ 16 ∧ cap ≤ 12
  srt : Srt s.xs
  mem : ∀ x, x ∈ s.xs ↔ s.m x ≠ none
  idn : (s.T.map fun b => (s.O b).id).Nodup
  idp : ∀ b ∈ s.T, 1 ≤ (s.O b).id ∧ (s.O b).id ≤ s.nxt
  chain : redoN s.jr s.st = s.m
  held : (heldL s).Nodup
  heldT : ∀ b ∈ heldL s, b ∈ s.T
  inj : ∀ i x y b, redoN (s.jr.take i) s.st x = some b → redoN (s.jr.take i) s.st y = some b → x = y
  back : ∀ i x b, redoN (s.jr.take i) s.st x = some b → b ∈ heldL s
  used : s.used = (sumOf (resS s) (heldL s) : Int)
  cap : s.used ≤ (cap : Int)
  num : ∀ b ∈ heldL s, ObR ss (s.O b)
  len : s.xs.length ≤ N ∧ s.jr.length ≤ N ∧ s.nxt ≤ N ∧ N < 2 ^ 28

section
variable {ss cap N bd : Nat} {s : StV}

theorem StI.mAll (h : StI ss cap N s) (i : Nat) (hi : s.jr.length ≤ i) : redoN (s.jr.take i) s.st = s.m := by
  rw [List.take_of_length_le hi, h.chain]

theorem StI.mT (h : StI ss cap N s) : ∀ x b, s.m x = some b → b ∈ s.T := fun x b hx => h.heldT b (h.back s.jr.length x b (by rw [h.mAll _ (Nat.le_refl _)]; exact hx))

theorem StI.mh (h : StI ss cap N s) : ∀ x b, s.m x = some b → b ∈ heldL s := fun x b hx => h.back s.jr.length x b (by rw [h.mAll _ (Nat.le_refl _)]; exact hx)

theorem StI.minj (h : StI ss cap N s) : ∀ x y b, s.m x = some b → s.m y = some b → x = y := fun x y b hx hy => h.inj s.jr.length x y b (by rw [h.mAll _ (Nat.le_refl _)]; exact hx) (by rw [h.mAll _ (Nat.le_refl _)]; exact hy)

theorem StI.vT (h : StI ss cap N s) : ∀ b ∈ vics s.jr, b ∈ s.T := fun b hb => h.heldT b (List.mem_append_right _ hb)

theorem StI.toN (h : StI ss cap N s) (hbd : bd < 2 ^ 31) : StN ss cap bd s :=
  ⟨h.shp, ⟨by rw [h.used]; omega, h.cap⟩, h.idn, fun b hb => by have := (h.idp b hb).1; omega, hbd, by have := h.len; omega⟩

theorem StI.mono {N' : Nat} (h : StI ss cap N s) (hN : N ≤ N') (hb : N' < 2 ^ 28) : StI ss cap N' s :=
  ⟨h.shp, h.srt, h.mem, h.idn, h.idp, h.chain, h.held, h.heldT, h.inj, h.back, h.used, h.cap, h.num, by have := h.len; omega⟩

theorem StI.xnd (h : StI ss cap N s) : s.xs.Nodup := h.srt.nodup

/-- The names that a journal may bring back. -/
theorem redoN_notin {x : ByteArray} : ∀ (l : List Jr) (st : NM), (∀ j ∈ l, j.name ≠ x ∧ j.to ≠ x) → redoN l st x = st x
  | [], _, _ => rfl
  | j :: r, st, h => by
    rw [redoN, redoN_notin r _ fun j' hj' => h j' (List.mem_cons_of_mem _ hj')]
    obtain ⟨h1, h2⟩ := h j List.mem_cons_self
    unfold redo mset
    split
    · dsimp only; rw [if_neg (Ne.symm h1)]
    · split
      · dsimp only; rw [if_neg (Ne.symm h1)]
      · split
        · dsimp only; rw [if_neg (Ne.symm h2), if_neg (Ne.symm h1)]
        · rfl

def namesL (s : StV) : List ByteArray := s.xs ++ (s.jr.map Jr.name ++ s.jr.map Jr.to)

theorem StI.names (h : StI ss cap N s) (i : Nat) (x : ByteArray) (hx : redoN (s.jr.take i) s.st x ≠ none) : x ∈ namesL s := by
  unfold namesL
  rw [List.mem_append, List.mem_append]
  by_cases hc : ∃ j ∈ s.jr, j.name = x ∨ j.to = x
  · obtain ⟨j, hj, hjx⟩ := hc
    rcases hjx with hjx | hjx
    · exact .inr (.inl (List.mem_map.2 ⟨j, hj, hjx⟩))
    · exact .inr (.inr (List.mem_map.2 ⟨j, hj, hjx⟩))
  · left
    have hall : ∀ j ∈ s.jr, j.name ≠ x ∧ j.to ≠ x := fun j hj => ⟨fun hn => hc ⟨j, hj, .inl hn⟩, fun hn => hc ⟨j, hj, .inr hn⟩⟩
    rw [redoN_notin _ _ fun j hj => hall j (List.mem_of_mem_take hj)] at hx
    rw [h.mem, ← h.chain, redoN_notin _ _ hall]
    exact hx

theorem StI.namesB (h : StI ss cap N s) : (namesL s).length < 2 ^ 30 := by
  have := h.len
  simp [namesL]
  omega

theorem sumOf_upd {O : Nat → Ob} {b : Nat} {o' : Ob} : ∀ {l : List Nat}, l.Nodup → b ∈ l → sumOf (fun x => (oset O b o' x).res) l + (O b).res = sumOf (fun x => (O x).res) l + o'.res
  | x :: r, hn, hb => by
    rw [List.nodup_cons] at hn
    simp only [sumOf]
    rcases List.mem_cons.1 hb with hx | hx
    · subst hx
      have hr : sumOf (fun x => (oset O b o' x).res) r = sumOf (fun x => (O x).res) r := by
        have aux : ∀ l : List Nat, b ∉ l → sumOf (fun x => (oset O b o' x).res) l = sumOf (fun x => (O x).res) l := by
          intro l
          induction l with
          | nil => intro _; rfl
          | cons y l ih =>
            intro hy
            simp only [sumOf]
            rw [ih fun hc => hy (List.mem_cons_of_mem _ hc)]
            have : y ≠ b := fun hc => hy (hc ▸ List.mem_cons_self)
            simp [oset, this]
        exact aux r hn.1
      rw [hr]
      simp only [oset, if_true]
      omega
    · have hne : x ≠ b := fun hc => hn.1 (hc ▸ hx)
      have ih := sumOf_upd (O := O) (b := b) (o' := o') hn.2 hx
      have : (oset O b o' x).res = (O x).res := by simp [oset, hne]
      omega

/-- An object that holds room turned. -/
theorem StI.obj (h : StI ss cap N s) {b : Nat} {o' : Ob} {u : Int} (hb : b ∈ heldL s) (hid : o'.id = (s.O b).id) (hR : ObR ss o') (hu : u = s.used - ((s.O b).res : Int) + (o'.res : Int)) (hc : u ≤ (cap : Int)) : StI ss cap N { s with used := u, O := oset s.O b o' } := by
  have hids : ∀ x, (oset s.O b o' x).id = (s.O x).id := fun x => by
    simp only [oset]
    split
    · rename_i hx; rw [hx, hid]
    · rfl
  refine ⟨h.shp, h.srt, h.mem, oset_ids hid h.idn, fun x hx => ?_, h.chain, h.held, h.heldT, h.inj, h.back, ?_, hc, fun x hx => ?_, h.len⟩
  · show 1 ≤ (oset s.O b o' x).id ∧ (oset s.O b o' x).id ≤ _
    rw [hids]
    exact h.idp x hx
  · have hs := sumOf_upd (O := s.O) (b := b) (o' := o') h.held hb
    have h1 := h.used
    show u = (sumOf (fun x => (oset s.O b o' x).res) (heldL s) : Int)
    have h2 : (sumOf (resS s) (heldL s) : Nat) = sumOf (fun x => (s.O x).res) (heldL s) := rfl
    omega
  · show ObR ss (oset s.O b o' x)
    simp only [oset]
    split
    · exact hR
    · exact h.num x hx

theorem getLast_snoc {α : Type} {l : List α} {x d : α} : ((l ++ [x]).getLast?).getD d = x := by simp

theorem ObR.setSize {o : Ob} {n : Nat} (hres : sect ss n ≤ o.res) (h1 : sect ss o.stable ≤ o.res) (h2 : ∀ x ∈ o.sizes, sect ss x ≤ o.res) (hne : n ≠ o.size) : ObR ss (o.setSize n) := by
  unfold Ob.setSize
  rw [if_neg hne]
  refine ⟨⟨hres, h1, fun x hx => ?_⟩, by simp, fun hx => by simp at hx⟩
  rcases List.mem_append.1 hx with h | h
  · exact h2 x h
  · rw [List.mem_singleton.1 h]; exact hres

theorem sect_mono {a b : Nat} (hss : 0 < ss) (h : a ≤ b) : sect ss a ≤ sect ss b := by
  have hb : b ≤ sect ss b * ss := by
    unfold sect
    have hd := Nat.div_add_mod b ss
    have hm := Nat.mod_lt b hss
    split
    · rw [Nat.mul_comm]; omega
    · rw [Nat.add_mul, Nat.one_mul, Nat.mul_comm]; omega
  exact sect_le hss (Nat.le_trans h hb)

theorem StI.put (h : StI ss cap N s) {b off : Nat} {src : List Int} {s' : StV} (hb : b ∈ heldL s) (hp : putF ss cap s b off src = some s') : StI ss cap N s' := by
  unfold putF at hp
  split at hp
  · cases hp; exact h
  · rename_i hne
    split at hp
    · cases hp
    · split at hp
      · cases hp
      · rename_i s1 hs1
        cases hp
        have hO := h.num b hb
        have hlen : 0 < src.length := by
          cases src with
          | nil => exact absurd rfl hne
          | cons a r => simp
        -- the object behind the reservation
        have key : ∀ (r u : _), s1 = { s with used := u, O := oset s.O b { s.O b with res := r } } → (s.O b).res ≤ r → sect ss (off + src.length) ≤ r → (sect ss (off + src.length) ≤ (s.O b).res → r = (s.O b).res) → u = s.used - ((s.O b).res : Int) + (r : Int) → u ≤ (cap : Int) →
            StI ss cap N { s1 with O := oset s1.O b (wrOb ss (s1.O b) off src) } := by
          intro r u he hr1 hr2 hr3 hu hc
          subst he
          have ho : oset s.O b { s.O b with res := r } b = { s.O b with res := r } := oset_same
          have hfin : ({ ({ s with used := u, O := oset s.O b { s.O b with res := r } } : StV) with O := oset (oset s.O b { s.O b with res := r }) b (wrOb ss (oset s.O b { s.O b with res := r } b) off src) } : StV) = { s with used := u, O := oset s.O b (wrOb ss { s.O b with res := r } off src) } := by
            rw [ho, oset_oset]
          show StI ss cap N ({ ({ s with used := u, O := oset s.O b { s.O b with res := r } } : StV) with O := oset (oset s.O b { s.O b with res := r }) b (wrOb ss (oset s.O b { s.O b with res := r } b) off src) } : StV)
          rw [hfin]
          have hres : (wrOb ss { s.O b with res := r } off src).res = r := by
            unfold wrOb
            split
            · unfold Ob.setSize; split <;> rfl
            · rfl
          refine h.obj hb ?_ ?_ (by rw [hres]; exact hu) hc
          · unfold wrOb
            split
            · exact setSize_id
            · rfl
          · unfold wrOb
            split
            · rename_i hgt
              exact ObR.setSize (by simpa using hr2) (Nat.le_trans hO.res.2.1 hr1) (fun x hx => Nat.le_trans (hO.res.2.2 x hx) hr1) (by simp only at hgt ⊢; omega)
            · rename_i hgt
              refine ⟨⟨Nat.le_trans hO.res.1 hr1, Nat.le_trans hO.res.2.1 hr1, fun x hx => Nat.le_trans (hO.res.2.2 x hx) hr1⟩, hO.last, fun _ hcl => absurd hcl (wrF_dirty hlen hne)⟩
        unfold resv at hs1
        split at hs1
        · rename_i hle
          cases hs1
          refine key (s.O b).res s.used ?_ (Nat.le_refl _) hle (fun _ => rfl) (by omega) h.cap
          have : oset s.O b (s.O b) = s.O := by
            funext x
            simp only [oset]
            split
            · rename_i hx; rw [hx]
            · rfl
          show s = { s with used := s.used, O := oset s.O b (s.O b) }
          rw [this]
        · rename_i hle
          split at hs1
          · cases hs1
          · rename_i hroom
            cases hs1
            exact key (sect ss (off + src.length)) _ rfl (by omega) (Nat.le_refl _) (fun hx => absurd hx hle) (by omega) (by omega)

theorem StI.trunc (h : StI ss cap N s) {b size : Nat} {s' : StV} (hb : b ∈ heldL s) (hp : truncF ss cap s b size = some s') : StI ss cap N s' := by
  unfold truncF at hp
  split at hp
  · cases hp
  · split at hp
    · cases hp
    · rename_i s1 hs1
      cases hp
      have hO := h.num b hb
      have key : ∀ (r u : _), s1 = { s with used := u, O := oset s.O b { s.O b with res := r } } → (s.O b).res ≤ r → sect ss size ≤ r → (sect ss size ≤ (s.O b).res → r = (s.O b).res) → u = s.used - ((s.O b).res : Int) + (r : Int) → u ≤ (cap : Int) →
          StI ss cap N { s1 with O := oset s1.O b (truncOb ss (s1.O b) size) } := by
        intro r u he hr1 hr2 hr3 hu hc
        subst he
        have ho : oset s.O b { s.O b with res := r } b = { s.O b with res := r } := oset_same
        have hfin : ({ ({ s with used := u, O := oset s.O b { s.O b with res := r } } : StV) with O := oset (oset s.O b { s.O b with res := r }) b (truncOb ss (oset s.O b { s.O b with res := r } b) size) } : StV) = { s with used := u, O := oset s.O b (truncOb ss { s.O b with res := r } size) } := by
          rw [ho, oset_oset]
        show StI ss cap N ({ ({ s with used := u, O := oset s.O b { s.O b with res := r } } : StV) with O := oset (oset s.O b { s.O b with res := r }) b (truncOb ss (oset s.O b { s.O b with res := r } b) size) } : StV)
        rw [hfin]
        have hres : (truncOb ss { s.O b with res := r } size).res = r := by
          unfold truncOb Ob.setSize
          split <;> split <;> rfl
        refine h.obj hb ?_ ?_ (by rw [hres]; exact hu) hc
        · unfold truncOb
          rw [setSize_id]
          split <;> rfl
        · by_cases heq : size = (s.O b).size
          · have hrr : r = (s.O b).res := hr3 (by rw [heq]; exact hO.res.1)
            have : truncOb ss { s.O b with res := r } size = s.O b := by
              unfold truncOb
              rw [if_neg (by simp only; omega)]
              unfold Ob.setSize
              rw [if_pos (by simpa using heq), hrr]
            rw [this]
            exact hO
          · unfold truncOb
            split
            · exact ObR.setSize (by simpa using hr2) (Nat.le_trans hO.res.2.1 hr1) (fun x hx => Nat.le_trans (hO.res.2.2 x hx) hr1) (by simpa using heq)
            · exact ObR.setSize (by simpa using hr2) (Nat.le_trans hO.res.2.1 hr1) (fun x hx => Nat.le_trans (hO.res.2.2 x hx) hr1) (by simpa using heq)
      unfold resv at hs1
      split at hs1
      · rename_i hle
        cases hs1
        refine key (s.O b).res s.used ?_ (Nat.le_refl _) hle (fun _ => rfl) (by omega) h.cap
        have : oset s.O b (s.O b) = s.O := by
          funext x
          simp only [oset]
          split
          · rename_i hx; rw [hx]
          · rfl
        show s = { s with used := s.used, O := oset s.O b (s.O b) }
        rw [this]
      · rename_i hle
        split at hs1
        · cases hs1
        · rename_i hroom
          cases hs1
          exact key (sect ss size) _ rfl (by omega) (Nat.le_refl _) (fun hx => absurd hx hle) (by omega) (by omega)

theorem StI.hard (h : StI ss cap N s) {b : Nat} {P' : Pl} (hb : b ∈ heldL s) : StI ss cap N (hardS ss s b P') := by
  have hO := h.num b hb
  have hc := h.cap
  have h1 := hO.res.1
  refine h.obj hb rfl ⟨⟨Nat.le_refl _, Nat.le_refl _, by simp [hardOb]⟩, rfl, fun _ _ => rfl⟩ ?_ ?_
  · show s.used - _ = s.used - _ + (sect ss (s.O b).size : Int)
    omega
  · omega

theorem StI.hardAll (h : StI ss cap N s) {bs : List Nat} {s' : StV} (hh : HardAll ss s bs s') (hb : ∀ b ∈ bs, b ∈ heldL s) : StI ss cap N s' := by
  induction hh using HardAll.ind with
  | nil => exact h
  | snoc hx hp ih =>
    have i1 := ih fun b hb' => hb b (List.mem_append_left _ hb')
    obtain ⟨a1, a2, a3, a4, a5, a6, a7⟩ := hx.same
    refine i1.hard ?_
    unfold heldL
    rw [a2, a3, a5]
    exact hb _ (List.mem_append_right _ (List.mem_singleton.2 rfl))

theorem vics_append (a b : List Jr) : vics (a ++ b) = vics a ++ vics b := by
  unfold vics
  exact List.filterMap_append

theorem StI.commit (h : StI ss cap N s) : StI ss cap N (comS s) := by
  have hH : heldL (comS s) = s.xs.filterMap s.m := by simp [heldL, comS, vics]
  have hsum := h.used
  have hsp : sumOf (resS s) (heldL s) = sumOf (resS s) (s.xs.filterMap s.m) + sumOf (resS s) (vics s.jr) := sumOf_append _ _ _
  have hres : resS (comS s) = resS s := rfl
  have htk : ∀ i, redoN ((comS s).jr.take i) (comS s).st = s.m := fun i => by
    show redoN (([] : List Jr).take i) (redoN s.jr s.st) = s.m
    rw [List.take_nil]
    exact h.chain
  have hnd := List.nodup_append.1 h.held
  refine ⟨h.shp, h.srt, h.mem, h.idn, h.idp, h.chain, by rw [hH]; exact hnd.1, fun b hb => h.heldT b (by rw [hH] at hb; exact List.mem_append_left _ hb), fun i x y b hx hy => ?_, fun i x b hx => ?_, ?_, ?_, fun b hb => h.num b (by rw [hH] at hb; exact List.mem_append_left _ hb), ?_⟩
  · rw [htk] at hx hy
    exact h.minj x y b hx hy
  · rw [htk] at hx
    rw [hH]
    exact List.mem_filterMap.2 ⟨x, (h.mem x).2 (by rw [hx]; simp), hx⟩
  · rw [hH, hres]
    show s.used - (sumOf (fun b => (s.O b).res) (vics s.jr) : Int) = _
    have : sumOf (fun b => (s.O b).res) (vics s.jr) = sumOf (resS s) (vics s.jr) := rfl
    omega
  · show s.used - (sumOf (fun b => (s.O b).res) (vics s.jr) : Int) ≤ _
    have := h.cap
    omega
  · have := h.len
    exact ⟨this.1, Nat.zero_le _, this.2.2⟩

end

end Go.Proofs.Qxb6500695aGreatFmt
