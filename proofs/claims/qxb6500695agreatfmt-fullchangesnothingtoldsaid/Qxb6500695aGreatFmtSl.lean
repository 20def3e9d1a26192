/-
  THE STORE, PART L: what always holds, behind creations, deletions, renames and crashes.
-/
import Derived.Test.Qxb6500695aGreatFmtSk
namespace Go.Proofs.Qxb6500695aGreatFmt
open Go Go.Eng Go.Proofs
set_option maxRecDepth 100000
set_option linter.unusedVariables false
set_option linter.unusedSimpArgs false
set_option linter.unusedSectionVars false

theorem fm_congr {m m' : NM} : ∀ {l : List ByteArray}, (∀ x ∈ l, m' x = m x) → l.filterMap m' = l.filterMap m
  | [], _ => rfl
  | a :: r, h => by
    rw [List.filterMap_cons, List.filterMap_cons, h a List.mem_cons_self, fm_congr fun x hx => h x (List.mem_cons_of_mem _ hx)]

theorem mset_ne {m : NM} {x y : ByteArray} {v : Option Nat} (h : y ≠ x) : mset m x v y = m y := by unfold mset; rw [if_neg h]
theorem mset_eq {m : NM} {x : ByteArray} {v : Option Nat} : mset m x v x = v := by unfold mset; rw [if_pos rfl]

theorem insN_mem {xs : List ByteArray} {nm x : ByteArray} {i : Nat} : x ∈ insN xs nm i ↔ x = nm ∨ x ∈ xs := by
  unfold insN
  conv => rhs; rw [← List.take_append_drop i xs]
  simp only [List.mem_append, List.mem_cons]
  constructor
  · rintro (h | h | h)
    · exact .inr (.inl h)
    · exact .inl h
    · exact .inr (.inr h)
  · rintro (h | h | h)
    · exact .inr (.inl h)
    · exact .inl h
    · exact .inr (.inr h)

theorem insN_srt {xs : List ByteArray} {nm : ByteArray} {i : Nat} (h : Srt xs) (hs : Spot xs nm i) (hn : nm ∉ xs) : Srt (insN xs nm i) := by
  unfold Srt insN at *
  rw [← List.take_append_drop i xs, List.pairwise_append] at h
  rw [List.pairwise_append, List.pairwise_cons]
  have hlo : ∀ a ∈ xs.take i, bl a < bl nm := by
    intro a ha
    obtain ⟨j, hj, hja⟩ := List.getElem_of_mem ha
    rw [List.length_take] at hj
    have := hs.2.1 j (by omega) (by omega)
    rw [List.getElem_take] at hja
    rw [hja] at this
    exact this
  have hhi : ∀ a ∈ xs.drop i, bl nm < bl a := by
    intro a ha
    obtain ⟨j, hj, hja⟩ := List.getElem_of_mem ha
    rw [List.length_drop] at hj
    have := hs.2.2 (i + j) (by omega) (by omega)
    rw [List.getElem_drop] at hja
    rw [hja] at this
    by_cases hlt : bl nm < bl a
    · exact hlt
    · exact absurd (List.mem_of_mem_drop ha) (by rw [bl_tri this hlt]; exact hn)
  refine ⟨h.1, ⟨hhi, h.2.1⟩, fun a ha b hb => ?_⟩
  rcases List.mem_cons.1 hb with hb | hb
  · rw [hb]; exact hlo a ha
  · exact h.2.2 a ha b hb

theorem insN_fm {m : NM} {xs : List ByteArray} {nm : ByteArray} {i b : Nat} (hn : nm ∉ xs) : ((insN xs nm i).filterMap (mset m nm (some b))).Perm (b :: xs.filterMap m) := by
  unfold insN
  have h1 : ∀ l : List ByteArray, (∀ x ∈ l, x ∈ xs) → l.filterMap (mset m nm (some b)) = l.filterMap m := fun l hl => fm_congr fun x hx => mset_ne fun hc => hn (hc ▸ hl x hx)
  rw [List.filterMap_append, List.filterMap_cons, mset_eq, h1 _ fun x hx => List.mem_of_mem_take hx, h1 _ fun x hx => List.mem_of_mem_drop hx]
  refine List.perm_middle.trans ?_
  rw [← List.filterMap_append, List.take_append_drop]

theorem delN_split {xs : List ByteArray} {nm : ByteArray} {i : Nat} (hi : xs[i]? = some nm) : xs = xs.take i ++ nm :: xs.drop (i + 1) := by
  obtain ⟨hl, hx⟩ := List.getElem?_eq_some_iff.1 hi
  conv => lhs; rw [← List.take_append_drop i xs]
  rw [List.drop_eq_getElem_cons hl, hx]

theorem delN_mem {xs : List ByteArray} {nm x : ByteArray} {i : Nat} (hnd : xs.Nodup) (hi : xs[i]? = some nm) : x ∈ delN xs i ↔ x ∈ xs ∧ x ≠ nm := by
  have hsp := delN_split hi
  rw [hsp] at hnd
  have hp : (xs.take i ++ nm :: xs.drop (i + 1)).Perm (nm :: (xs.take i ++ xs.drop (i + 1))) := List.perm_middle
  have hnd2 := hp.nodup_iff.1 hnd
  rw [List.nodup_cons] at hnd2
  have hm : x ∈ xs ↔ x ∈ nm :: (xs.take i ++ xs.drop (i + 1)) := by
    rw [← hp.mem_iff, ← hsp]
  rw [hm, List.mem_cons]
  show x ∈ xs.take i ++ xs.drop (i + 1) ↔ _
  constructor
  · intro h
    exact ⟨.inr h, fun hc => hnd2.1 (hc ▸ h)⟩
  · rintro ⟨h | h, hne⟩
    · exact absurd h hne
    · exact h

theorem delN_fm {m : NM} {xs : List ByteArray} {nm : ByteArray} {i b : Nat} (hnd : xs.Nodup) (hi : xs[i]? = some nm) (hb : m nm = some b) : (b :: (delN xs i).filterMap (mset m nm none)).Perm (xs.filterMap m) := by
  have h1 : (delN xs i).filterMap (mset m nm none) = (delN xs i).filterMap m := fm_congr fun x hx => mset_ne ((delN_mem hnd hi).1 hx).2
  rw [h1]
  conv => rhs; rw [delN_split hi]
  rw [List.filterMap_append, List.filterMap_cons, hb]
  unfold delN
  rw [List.filterMap_append]
  exact List.perm_middle.symm

theorem set_fm {m : NM} {ys : List ByteArray} {to : ByteArray} {v b : Nat} (hnd : ys.Nodup) (ht : to ∈ ys) (hv : m to = some v) : (v :: ys.filterMap (mset m to (some b))).Perm (b :: ys.filterMap m) := by
  obtain ⟨A, C, hsp⟩ := List.append_of_mem ht
  rw [hsp] at hnd
  have hp : (A ++ to :: C).Perm (to :: (A ++ C)) := List.perm_middle
  have hnd2 := hp.nodup_iff.1 hnd
  rw [List.nodup_cons] at hnd2
  have h1 : ∀ l : List ByteArray, (∀ x ∈ l, x ∈ A ++ C) → l.filterMap (mset m to (some b)) = l.filterMap m := fun l hl => fm_congr fun x hx => mset_ne fun hc => hnd2.1 (hc ▸ hl x hx)
  rw [hsp, List.filterMap_append, List.filterMap_append, List.filterMap_cons, List.filterMap_cons, mset_eq, hv, h1 A fun x hx => List.mem_append_left _ hx, h1 C fun x hx => List.mem_append_right _ hx]
  have p1 : (A.filterMap m ++ b :: C.filterMap m).Perm (b :: (A.filterMap m ++ C.filterMap m)) := List.perm_middle
  have p2 : (A.filterMap m ++ v :: C.filterMap m).Perm (v :: (A.filterMap m ++ C.filterMap m)) := List.perm_middle
  exact ((p1.cons v).trans (List.Perm.swap _ _ _)).trans (p2.symm.cons b)

section
variable {ss cap N bd : Nat} {s : StV}

/-- A record more in the journal. -/
theorem StI.step {N' : Nat} (h : StI ss cap N s) {j : Jr} {m' : NM} {xs' : List ByteArray} {extra : List Nat} (hN : N + 1 ≤ N') (hNb : N' < 2 ^ 28) (hm : redo j s.m = m') (hperm : (xs'.filterMap m' ++ vics (s.jr ++ [j])).Perm (heldL s ++ extra)) (hs : Srt xs') (hmem : ∀ x, x ∈ xs' ↔ m' x ≠ none)
    (hinj : ∀ x y b, m' x = some b → m' y = some b → x = y) (hxl : xs'.length ≤ N') (hxn : (heldL s ++ extra).Nodup) (hxT : ∀ b ∈ extra, b ∈ s.T) (hxR : ∀ b ∈ extra, ObR ss (s.O b)) (hx0 : sumOf (resS s) extra = 0) :
    StI ss cap N' { s with m := m', xs := xs', jr := s.jr ++ [j] } := by
  have hlen := h.len
  have htk : ∀ i, redoN ((s.jr ++ [j]).take i) s.st = if i ≤ s.jr.length then redoN (s.jr.take i) s.st else m' := by
    intro i
    split
    · rename_i hi
      rw [List.take_append_of_le_length hi]
    · rename_i hi
      rw [List.take_of_length_le (by simp; omega), redoN_append, h.chain]
      exact hm
  have hmh : ∀ x b, m' x = some b → b ∈ heldL s ++ extra := fun x b hx => by
    rw [← hperm.mem_iff]
    exact List.mem_append_left _ (List.mem_filterMap.2 ⟨x, (hmem x).2 (by rw [hx]; simp), hx⟩)
  refine ⟨h.shp, hs, hmem, h.idn, h.idp, ?_, hperm.nodup_iff.2 hxn, fun b hb => ?_, fun i x y b hx hy => ?_, fun i x b hx => ?_, ?_, h.cap, fun b hb => ?_, ?_⟩
  · show redoN (s.jr ++ [j]) s.st = m'
    rw [redoN_append, h.chain]
    exact hm
  · have := hperm.mem_iff.1 hb
    rcases List.mem_append.1 this with h1 | h1
    · exact h.heldT b h1
    · exact hxT b h1
  · simp only [htk] at hx hy
    split at hx
    · rename_i hi
      rw [if_pos hi] at hy
      exact h.inj i x y b hx hy
    · rename_i hi
      rw [if_neg hi] at hy
      exact hinj x y b hx hy
  · simp only [htk] at hx
    refine hperm.mem_iff.2 ?_
    split at hx
    · exact List.mem_append_left _ (h.back i x b hx)
    · exact hmh x b hx
  · show s.used = (sumOf (resS s) _ : Int)
    have h1 : sumOf (resS s) (xs'.filterMap m' ++ vics (s.jr ++ [j])) = sumOf (resS s) (heldL s ++ extra) := sumOf_perm _ hperm
    have h2 : sumOf (resS s) (heldL s ++ extra) = sumOf (resS s) (heldL s) + sumOf (resS s) extra := sumOf_append _ _ _
    show s.used = (sumOf (resS s) (xs'.filterMap m' ++ vics (s.jr ++ [j])) : Int)
    rw [h1, h2, hx0, h.used]
    simp
  · have := hperm.mem_iff.1 hb
    rcases List.mem_append.1 this with h1 | h1
    · exact h.num b h1
    · exact hxR b h1
  · refine ⟨hxl, ?_, ?_, hNb⟩
    · show (s.jr ++ [j]).length ≤ N'
      simp
      omega
    · show s.nxt ≤ N'
      omega

theorem StI.del {N' : Nat} (h : StI ss cap N s) (hN : N + 1 ≤ N') (hNb : N' < 2 ^ 28) {nm : ByteArray} {i b : Nat} (hb : s.m nm = some b) (hi : s.xs[i]? = some nm) : StI ss cap N' (deleteS s nm i b) := by
  have hlen := h.len
  refine h.step (extra := []) hN hNb (j := ⟨1, nm, ⟨#[]⟩, b, some b⟩) rfl ?_ (delN_srt h.srt) (fun x => ?_) (fun x y c hx hy => ?_) ?_ (by simpa using h.held) (by simp) (by simp) rfl
  · rw [List.append_nil, vics_append]
    show (_ ++ (vics s.jr ++ [b])).Perm (heldL s)
    unfold heldL
    have p1 := delN_fm (m := s.m) h.xnd hi hb
    rw [← List.append_assoc]
    refine List.perm_append_comm.trans ?_
    show (b :: (_ ++ vics s.jr)).Perm _
    exact (p1.append_right (vics s.jr))
  · rw [delN_mem h.xnd hi, h.mem]
    unfold mset
    by_cases hx : x = nm
    · simp [hx]
    · simp [hx]
  · unfold mset at hx hy
    split at hx
    · cases hx
    · split at hy
      · cases hy
      · exact h.minj x y c hx hy
  · exact Nat.le_trans (delN_sub _ _).length_le (by omega)

theorem StI.ren {N' : Nat} (h : StI ss cap N s) (hN : N + 1 ≤ N') (hNb : N' < 2 ^ 28) {nm to : ByteArray} {b : Nat} {ys : List ByteArray} (hb : s.m nm = some b) (hne : nm ≠ to) (hr : renN s.m s.xs nm to ys) : StI ss cap N' (renameS s nm to b ys) := by
  have hlen := h.len
  obtain ⟨i, hi, h1, h2⟩ := hr
  have hdn : ∀ x, x ∈ delN s.xs i ↔ x ∈ s.xs ∧ x ≠ nm := fun x => delN_mem h.xnd hi
  have hdnd : (delN s.xs i).Nodup := List.Pairwise.sublist (delN_sub _ _) h.xnd
  have p1 := delN_fm (m := s.m) h.xnd hi hb
  have hto : mset s.m nm none to = s.m to := mset_ne (Ne.symm hne)
  have hinj : ∀ x y c, mset (mset s.m nm none) to (some b) x = some c → mset (mset s.m nm none) to (some b) y = some c → x = y := by
    intro x y c hx hy
    unfold mset at hx hy
    split at hx
    · rename_i hxt
      split at hy
      · rename_i hyt; rw [hxt, hyt]
      · split at hy
        · cases hy
        · rename_i hy1 hy2
          cases hx
          exact absurd (h.minj y nm b hy hb) hy2
    · split at hx
      · cases hx
      · rename_i hx1 hx2
        split at hy
        · cases hy
          exact absurd (h.minj x nm b hx hb) hx2
        · split at hy
          · cases hy
          · exact h.minj x y c hx hy
  have hmem0 : ∀ x, mset (mset s.m nm none) to (some b) x ≠ none ↔ x = to ∨ (x ≠ nm ∧ s.m x ≠ none) := by
    intro x
    unfold mset
    by_cases hx : x = to
    · simp [hx]
    · by_cases hx2 : x = nm
      · simp [hx2, hne]
      · simp [hx, hx2]
  cases hv : s.m to with
  | none =>
    obtain ⟨jx, hsp, hys⟩ := h1 hv
    have hnt : to ∉ delN s.xs i := fun hc => ((h.mem to).1 ((hdn to).1 hc).1) hv
    subst hys
    refine h.step (extra := []) hN hNb (j := ⟨2, nm, to, b, s.m to⟩) rfl ?_ (insN_srt (delN_srt h.srt) hsp hnt) (fun x => ?_) hinj ?_ (by simpa using h.held) (by simp) (by simp) rfl
    · rw [List.append_nil, vics_append, hv]
      show (_ ++ (vics s.jr ++ [])).Perm (heldL s)
      rw [List.append_nil]
      unfold heldL
      exact ((insN_fm (m := mset s.m nm none) hnt).trans p1).append_right _
    · rw [insN_mem, hdn, hmem0, h.mem]
      constructor
      · rintro (hx | ⟨hx, hx2⟩)
        · exact .inl hx
        · exact .inr ⟨hx2, hx⟩
      · rintro (hx | ⟨hx, hx2⟩)
        · exact .inl hx
        · exact .inr ⟨hx2, hx⟩
    · have := (delN_sub s.xs i).length_le
      have h3 : (insN (delN s.xs i) to jx).length ≤ (delN s.xs i).length + 1 := by
        unfold insN
        simp
        omega
      omega
  | some v =>
    have hys := h2 (by rw [hv]; simp)
    subst hys
    have htx : to ∈ delN s.xs i := (hdn to).2 ⟨(h.mem to).2 (by rw [hv]; simp), Ne.symm hne⟩
    refine h.step (extra := []) hN hNb (j := ⟨2, nm, to, b, s.m to⟩) rfl ?_ (delN_srt h.srt) (fun x => ?_) hinj ?_ (by simpa using h.held) (by simp) (by simp) rfl
    · rw [List.append_nil, vics_append, hv]
      show (_ ++ (vics s.jr ++ [v])).Perm (heldL s)
      unfold heldL
      have p2 := set_fm (m := mset s.m nm none) (b := b) hdnd htx (by rw [hto]; exact hv)
      rw [← List.append_assoc]
      refine List.perm_append_comm.trans ?_
      show (v :: (_ ++ vics s.jr)).Perm _
      exact ((p2.trans p1).append_right (vics s.jr))
    · rw [hdn, hmem0, h.mem]
      constructor
      · rintro ⟨hx, hx2⟩
        exact .inr ⟨hx2, hx⟩
      · rintro (hx | ⟨hx, hx2⟩)
        · rw [hx]; exact ⟨by rw [hv]; simp, Ne.symm hne⟩
        · exact ⟨hx2, hx⟩
    · exact Nat.le_trans (delN_sub _ _).length_le (by omega)

theorem StI.create {N' : Nat} (h : StI ss cap N s) (hN : N + 2 ≤ N') (hNb : N' < 2 ^ 28) {nm : ByteArray} {i b pb : Nat} (hm : s.m nm = none) (hsp : Spot s.xs nm i) (hbT : b ∉ s.T) : StI ss cap N' (createS s nm i b pb) := by
  have hlen := h.len
  have hnx : nm ∉ s.xs := fun hc => (h.mem nm).1 hc hm
  have hbh : b ∉ heldL s := fun hc => hbT (h.heldT b hc)
  -- the object is there, and holds nothing
  have h0 : StI ss cap (N + 1) { s with nxt := s.nxt + 1, T := s.T ++ [b], O := oset s.O b (newOb ((s.nxt + 1 : Nat) : Int) pb) } := by
    have hO : ∀ x, x ∈ s.T → oset s.O b (newOb ((s.nxt + 1 : Nat) : Int) pb) x = s.O x := fun x hx => by
      simp only [oset]
      rw [if_neg (fun hc : x = b => hbT (hc ▸ hx))]
    have hOb : oset s.O b (newOb ((s.nxt + 1 : Nat) : Int) pb) b = newOb ((s.nxt + 1 : Nat) : Int) pb := oset_same
    have hTn : ((s.T ++ [b]).map fun x => (oset s.O b (newOb ((s.nxt + 1 : Nat) : Int) pb) x).id).Nodup := by
      rw [List.map_append, List.nodup_append]
      have : (s.T.map fun x => (oset s.O b (newOb ((s.nxt + 1 : Nat) : Int) pb) x).id) = s.T.map fun x => (s.O x).id := List.map_congr_left fun x hx => by rw [hO x hx]
      rw [this]
      refine ⟨h.idn, by simp, fun a ha c hc => ?_⟩
      obtain ⟨x, hx, rfl⟩ := List.mem_map.1 ha
      simp only [List.map_cons, List.map_nil, List.mem_singleton, hOb] at hc
      rw [hc]
      have := (h.idp x hx).2
      show (s.O x).id ≠ ((s.nxt + 1 : Nat) : Int)
      omega
    refine ⟨h.shp, h.srt, h.mem, hTn, fun x hx => ?_, h.chain, h.held, fun x hx => List.mem_append_left _ (h.heldT x hx), h.inj, h.back, ?_, h.cap, fun x hx => ?_, by
      refine ⟨?_, ?_, ?_, by omega⟩
      · show s.xs.length ≤ N + 1
        omega
      · show s.jr.length ≤ N + 1
        omega
      · show s.nxt + 1 ≤ N + 1
        omega⟩
    · rcases List.mem_append.1 hx with hx | hx
      · show 1 ≤ (oset s.O b _ x).id ∧ (oset s.O b _ x).id ≤ ((s.nxt + 1 : Nat) : Int)
        rw [hO x hx]
        have := h.idp x hx
        omega
      · rw [List.mem_singleton.1 hx]
        show 1 ≤ (oset s.O b _ b).id ∧ (oset s.O b _ b).id ≤ ((s.nxt + 1 : Nat) : Int)
        rw [hOb]
        show 1 ≤ ((s.nxt + 1 : Nat) : Int) ∧ ((s.nxt + 1 : Nat) : Int) ≤ ((s.nxt + 1 : Nat) : Int)
        omega
    · rw [h.used]
      congr 1
      have aux : ∀ l : List Nat, (∀ x ∈ l, x ∈ s.T) → sumOf (resS s) l = sumOf (fun x => (oset s.O b (newOb ((s.nxt + 1 : Nat) : Int) pb) x).res) l := by
        intro l
        induction l with
        | nil => intro _; rfl
        | cons y l ih =>
          intro hy
          simp only [sumOf]
          rw [ih fun x hx => hy x (List.mem_cons_of_mem _ hx), hO y (hy y List.mem_cons_self)]
          rfl
      exact aux _ h.heldT
    · show ObR ss (oset s.O b _ x)
      rw [hO x (h.heldT x hx)]
      exact h.num x hx
  have hOb : oset s.O b (newOb ((s.nxt + 1 : Nat) : Int) pb) b = newOb ((s.nxt + 1 : Nat) : Int) pb := oset_same
  refine h0.step (N' := N') (extra := [b]) (by omega) hNb (j := ⟨0, nm, ⟨#[]⟩, b, none⟩) (m' := mset s.m nm (some b)) (xs' := insN s.xs nm i) rfl ?_ (insN_srt h.srt hsp hnx) (fun x => ?_) (fun x y c hx hy => ?_) ?_ ?_ (fun x hx => by rw [List.mem_singleton.1 hx]; exact List.mem_append_right _ (List.mem_singleton.2 rfl)) (fun x hx => ?_) ?_
  · show (_ ++ vics (s.jr ++ [_])).Perm _
    rw [vics_append]
    show (_ ++ (vics s.jr ++ [])).Perm (s.xs.filterMap s.m ++ vics s.jr ++ [b])
    rw [List.append_nil]
    refine ((insN_fm (m := s.m) hnx).append_right (vics s.jr)).trans ?_
    show (b :: (_ ++ vics s.jr)).Perm _
    exact List.perm_append_comm (l₁ := [b])
  · rw [insN_mem, h.mem]
    unfold mset
    by_cases hx : x = nm
    · simp [hx]
    · simp [hx]
  · unfold mset at hx hy
    split at hx
    · rename_i h1
      split at hy
      · rename_i h2; rw [h1, h2]
      · cases hx; exact absurd (h.mT y b hy) hbT
    · split at hy
      · cases hy; exact absurd (h.mT x b hx) hbT
      · exact h.minj x y c hx hy
  · unfold insN
    simp
    have := hsp.1
    omega
  · show (heldL s ++ [b]).Nodup
    rw [List.nodup_append]
    exact ⟨h.held, by simp, fun x hx y hy => by rw [List.mem_singleton.1 hy]; exact fun hc => hbh (hc ▸ hx)⟩
  · rw [List.mem_singleton.1 hx]
    show ObR ss (oset s.O b _ b)
    rw [hOb]
    have hs0 : sect ss 0 = 0 := by simp [sect]
    exact ⟨⟨by simp [newOb, hs0], by simp [newOb, hs0], by simp [newOb]⟩, rfl, fun _ _ => by simp [newOb, hs0]⟩
  · simp only [sumOf, resS, hOb]
    rfl

/-- Behind the objects' crashes. -/
theorem setAll_post {ns : Nat} {bs : List Nat} {tr : List Ask} {s' : StV} (h : SetAll ss ns s bs tr s') (hn : bs.Nodup) (hR : ∀ b ∈ bs, ObR ss (s.O b)) :
    (∀ b, b ∉ bs → s'.O b = s.O b) ∧ s'.used = s.used + (sumOf (resS s') bs : Int) ∧ ∀ b ∈ bs, ObR ss (s'.O b) ∧ (s'.O b).res ≤ (s.O b).res := by
  induction h using SetAll.ind with
  | nil => exact ⟨fun _ _ => rfl, by simp [sumOf], by simp⟩
  | @snoc bs tr s1 b kk ch ks P' hx hp ih =>
    rw [List.nodup_append] at hn
    have hbb : b ∉ bs := fun hc => hn.2.2 b hc b (List.mem_singleton.2 rfl) rfl
    obtain ⟨i1, i2, i3⟩ := ih hn.1 fun x hx => hR x (List.mem_append_left _ hx)
    have hsame := i1 b hbb
    have hO := hR b (List.mem_append_right _ (List.mem_singleton.2 rfl))
    have hpick : sect ss ((s1.O b).pickSize kk) ≤ (s1.O b).res := by
      rw [hsame]
      unfold Ob.pickSize
      split
      · exact hO.res.2.1
      · cases hx : (s.O b).sizes[kk - 1]? with
        | none => exact hO.res.2.1
        | some z => exact hO.res.2.2 z (List.mem_of_getElem? hx)
    have hne : ∀ x, x ≠ b → (setS ss s1 b kk P').O x = s1.O x := fun x hx => by simp [setS, oset, hx]
    have heq : (setS ss s1 b kk P').O b = setOb ss (s1.O b) kk P' := by simp [setS, oset]
    refine ⟨fun x hx => ?_, ?_, fun x hx => ?_⟩
    · have h1 : x ∉ bs := fun hc => hx (List.mem_append_left _ hc)
      have h2 : x ≠ b := fun hc => hx (List.mem_append_right _ (List.mem_singleton.2 hc))
      rw [hne x h2, i1 x h1]
    · rw [sumOf_append]
      have h1 : sumOf (resS (setS ss s1 b kk P')) bs = sumOf (resS s1) bs := by
        have aux : ∀ l : List Nat, b ∉ l → sumOf (resS (setS ss s1 b kk P')) l = sumOf (resS s1) l := by
          intro l
          induction l with
          | nil => intro _; rfl
          | cons y l ih =>
            intro hy
            simp only [sumOf]
            rw [ih fun hc => hy (List.mem_cons_of_mem _ hc)]
            have : y ≠ b := fun hc => hy (hc ▸ List.mem_cons_self)
            show ((setS ss s1 b kk P').O y).res + _ = _
            rw [hne y this]
            rfl
        exact aux bs hbb
      rw [h1]
      have h2 : sumOf (resS (setS ss s1 b kk P')) [b] = sect ss ((s1.O b).pickSize kk) := by
        simp only [sumOf, resS, heq]
        rfl
      rw [h2]
      show s1.used + (sect ss ((s1.O b).pickSize kk) : Int) = _
      rw [i2]
      simp
      omega
    · by_cases hxb : x = b
      · subst hxb
        rw [heq]
        refine ⟨⟨⟨Nat.le_refl _, Nat.le_refl _, by simp [setOb]⟩, rfl, fun _ _ => rfl⟩, ?_⟩
        show sect ss ((s1.O x).pickSize kk) ≤ _
        rw [hsame] at hpick ⊢
        exact hpick
      · rw [hne x hxb]
        rcases List.mem_append.1 hx with h1 | h1
        · exact i3 x h1
        · exact absurd (List.mem_singleton.1 h1) hxb

theorem fm_nodup {m : NM} : ∀ {l : List ByteArray}, l.Nodup → (∀ x y b, m x = some b → m y = some b → x = y) → (l.filterMap m).Nodup
  | [], _, _ => List.Pairwise.nil
  | a :: r, hn, hi => by
    rw [List.nodup_cons] at hn
    rw [List.filterMap_cons]
    have ih := fm_nodup (m := m) hn.2 hi
    split
    · exact ih
    · rename_i b hb
      rw [List.nodup_cons]
      refine ⟨fun hc => ?_, ih⟩
      obtain ⟨y, hy, hyb⟩ := List.mem_filterMap.1 hc
      exact hn.1 (by rw [hi a y b hb hyb]; exact hy)

theorem fm_len {m : NM} : ∀ {l : List ByteArray}, (∀ x ∈ l, m x ≠ none) → (l.filterMap m).length = l.length
  | [], _ => rfl
  | a :: r, h => by
    rw [List.filterMap_cons]
    cases hx : m a with
    | none => exact absurd hx (h a List.mem_cons_self)
    | some b => simp [fm_len (m := m) fun x hx => h x (List.mem_cons_of_mem _ hx)]

theorem StI.tlen (h : StI ss cap N s) : s.T.length ≤ s.nxt := by
  have hn : ((0 : Int) :: s.T.map fun b => (s.O b).id).Nodup := by
    rw [List.nodup_cons]
    refine ⟨fun hc => ?_, h.idn⟩
    obtain ⟨b, hb, hb0⟩ := List.mem_map.1 hc
    have := (h.idp b hb).1
    omega
  have := bounded_len (n := s.nxt + 1) hn fun k hk => by
    rcases List.mem_cons.1 hk with h1 | h1
    · omega
    · obtain ⟨b, hb, hb0⟩ := List.mem_map.1 h1
      have := h.idp b hb
      omega
  simp at this
  omega

theorem StI.crash (h : StI ss cap N s) {tr : List Ask} {s' : StV} (hc : crashR ss cap s tr s') : StI ss cap N s' := by
  obtain ⟨kp, ys, tr2, hkp, hsrt, hmem, hset, _⟩ := hc
  have hlen := h.len
  have hynd : ys.Nodup := hsrt.nodup
  have hbn := fm_nodup hynd (h.inj kp)
  have hbh : ∀ b ∈ ys.filterMap (redoN (s.jr.take kp) s.st), b ∈ heldL s := fun b hb => by
    obtain ⟨x, _, hx⟩ := List.mem_filterMap.1 hb
    exact h.back kp x b hx
  obtain ⟨a1, a2, a3, a4, a5, a6, a7⟩ := hset.same
  obtain ⟨i1, i2, i3⟩ := setAll_post hset hbn fun b hb => h.num b (hbh b hb)
  have hH : heldL s' = ys.filterMap (redoN (s.jr.take kp) s.st) := by
    unfold heldL
    rw [a2, a3, a5]
    show ys.filterMap (redoN (s.jr.take kp) s.st) ++ vics [] = _
    simp [vics]
  have htk : ∀ i, redoN (s'.jr.take i) s'.st = redoN (s.jr.take kp) s.st := fun i => by
    rw [a5, a4]
    show redoN (([] : List Jr).take i) _ = _
    rw [List.take_nil]
    rfl
  have hle : sumOf (resS s') (ys.filterMap (redoN (s.jr.take kp) s.st)) ≤ sumOf (resS s) (heldL s) := by
    have h1 : ∀ l : List Nat, (∀ b ∈ l, (s'.O b).res ≤ (s.O b).res) → sumOf (resS s') l ≤ sumOf (resS s) l := by
      intro l
      induction l with
      | nil => intro _; exact Nat.le_refl _
      | cons x l ih =>
        intro hx
        have h2 := ih fun b hb => hx b (List.mem_cons_of_mem _ hb)
        have h3 := hx x List.mem_cons_self
        simp only [sumOf, resS] at *
        omega
    exact Nat.le_trans (h1 _ fun b hb => (i3 b hb).2) (sumOf_le _ hbn hbh)
  have hused : s'.used = (sumOf (resS s') (heldL s') : Int) := by
    rw [i2, hH]
    show (0 : Int) + _ = _
    omega
  refine ⟨h.shp, by rw [a3]; exact hsrt, fun x => by rw [a3, a2]; exact hmem x, ids_same (s := crash1 s kp ys) h.idn a1 a7, fun b hb => ?_, ?_, by rw [hH]; exact hbn, fun b hb => ?_, fun i x y b hx hy => ?_, fun i x b hx => ?_, hused, ?_, fun b hb => ?_, ?_⟩
  · rw [a7, a6]
    rw [a1] at hb
    exact h.idp b hb
  · rw [a5, a4, a2]
    rfl
  · rw [hH] at hb
    rw [a1]
    exact h.heldT b (hbh b hb)
  · rw [htk] at hx hy
    exact h.inj kp x y b hx hy
  · rw [htk] at hx
    rw [hH]
    exact List.mem_filterMap.2 ⟨x, (hmem x).2 (by rw [hx]; simp), hx⟩
  · rw [hused, hH]
    have h1 := h.used
    have h2 := h.cap
    omega
  · rw [hH] at hb
    exact (i3 b hb).1
  · rw [a3, a5, a6]
    refine ⟨?_, Nat.zero_le _, hlen.2.2⟩
    -- the names number no more than the objects
    have h1 : (ys.filterMap (redoN (s.jr.take kp) s.st)).length = ys.length := fm_len fun x hx => (hmem x).1 hx
    have h2 := len_le hbn fun b hb => h.heldT b (hbh b hb)
    have h3 := h.tlen
    show ys.length ≤ N
    omega

end

end Go.Proofs.Qxb6500695aGreatFmt
