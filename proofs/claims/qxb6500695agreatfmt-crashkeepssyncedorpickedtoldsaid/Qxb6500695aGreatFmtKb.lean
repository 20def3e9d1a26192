/-
  WHAT THE BOOKS HOLD OF AN OBJECT (no Go in sight).
-/
import Derived.Test.Qxb6500695aGreatFmtKa
import Derived.Test.Qxb6500695aGreatFmtCd
namespace Go.Proofs.Qxb6500695aGreatFmt
open Go Go.Eng Go.Proofs
set_option maxRecDepth 100000
set_option linter.unusedVariables false
set_option linter.unusedSimpArgs false
set_option linter.unusedSectionVars false

/-- A value cut at a size. -/
def cutL (ss size i : Nat) (bs : List Int) : List Int := (List.range ss).map fun r => if i * ss + r < size then (bs[r]?).getD 0 else 0

section
variable {ss : Nat} {o o' : Ob} {zs : List Nat} {C : Int → List Sv} {P' : Pl}

theorem list_range {bs : List Int} (h : bs.length = ss) : bs = (List.range ss).map fun r => (bs[r]?).getD 0 := by
  apply List.ext_getElem?
  intro r
  rw [List.getElem?_map]
  by_cases hr : r < ss
  · rw [List.getElem?_range hr, Option.map_some, List.getElem?_eq_getElem (by omega)]
    rfl
  · rw [List.getElem?_eq_none (by omega), List.getElem?_eq_none (by simp; omega)]
    rfl

theorem zer_get (r : Nat) : ((zer ss)[r]?).getD 0 = 0 := by
  unfold zer
  rw [List.getElem?_replicate]
  split <;> rfl

theorem zer_len : (zer ss).length = ss := by simp [zer]

theorem zer_eq (f : Nat → Int) (h : ∀ r, r < ss → f r = 0) : zer ss = (List.range ss).map f := by
  rw [list_range (bs := zer ss) zer_len]
  apply List.map_congr_left
  intro r hr
  rw [zer_get, h r (List.mem_range.1 hr)]

theorem sO_cut {size i : Nat} {v : Sv} (hv : ∀ bs, v = some bs → bs.length = ss) : sO ss (cutV ss size i v) = cutL ss size i (sO ss v) := by
  have hl : (sO ss v).length = ss := by
    cases v with
    | none => exact zer_len
    | some bs => exact hv bs rfl
  unfold cutV cutL
  by_cases h1 : (i + 1) * ss ≤ size
  · rw [if_pos h1]
    rw [Nat.add_mul, Nat.one_mul] at h1
    conv => lhs; rw [list_range hl]
    apply List.map_congr_left
    intro r hr
    have := List.mem_range.1 hr
    rw [if_pos (by omega)]
  · rw [if_neg h1]
    split
    · exact zer_eq _ fun r hr => by rw [if_neg (by omega)]
    · rename_i h2
      cases v with
      | none =>
        exact zer_eq _ fun r hr => by
          split
          · exact zer_get r
          · rfl
      | some bs =>
        have hb := hv bs rfl
        rw [Nat.add_mul, Nat.one_mul] at h1
        show (bs.take (size - i * ss)) ++ _ = _
        have hl2 : ((bs.take (size - i * ss)) ++ List.replicate (ss - (size - i * ss)) (0 : Int)).length = ss := by
          simp
          omega
        rw [list_range hl2]
        apply List.map_congr_left
        intro r hr
        have hr := List.mem_range.1 hr
        split
        · rename_i h3
          rw [List.getElem?_append_left (by simp; omega), List.getElem?_take, if_pos (by omega)]
          rfl
        · rename_i h3
          rw [List.getElem?_append_right (by simp; omega), List.getElem?_replicate]
          split <;> rfl

/-- What the books hold of an object. -/
structure OP (ss : Nat) (o : Ob) (zs : List Nat) (C : Int → List Sv) : Prop where
  zs : zs = o.stable :: o.sizes
  known : ∀ i : Nat, C (i : Int) ≠ [] → C (i : Int) = hs ss o.pl i
  unk : ∀ i : Nat, C (i : Int) = [] → hs ss o.pl i = [some (zer ss)]
  z : Zr ss o

theorem OP.res {r : Nat} (h : OP ss o zs C) : OP ss { o with res := r } zs C := ⟨h.zs, h.known, h.unk, h.z⟩

def noteC (ss a b : Nat) (vals : Nat → List Int) (C : Int → List Sv) : Int → List Sv := fun i =>
  if a < b ∧ ((a / ss : Nat) : Int) ≤ i ∧ i * (ss : Int) < (b : Int) then (if C i = [] then [some (zer ss)] else C i) ++ [some (vals i.toNat)] else C i

def lastZ (zs : List Nat) : Nat := (zs.getLast?).getD 0

def noteZ (zs : List Nat) (n : Nat) : List Nat := if n = lastZ zs then zs else zs ++ [n]

theorem OP.last (h : OP ss o zs C) (hl : o.size = (o.sizes.getLast?).getD o.stable) : lastZ zs = o.size := by
  rw [h.zs, hl]
  unfold lastZ
  cases hs : o.sizes with
  | nil => rfl
  | cons a r => rw [List.getLast?_cons_cons]; simp [List.getLast?_cons]

theorem OP.note {a b : Nat} (h0 : 0 < ss) (h : OP ss o zs C) (hl : o.size = (o.sizes.getLast?).getD o.stable) (hst : o'.stable = o.stable) (hsz : o'.sizes = if o'.size = o.size then o.sizes else o.sizes ++ [o'.size])
    (hh : ∀ j, hs ss o'.pl j = if a < b ∧ a / ss ≤ j ∧ j * ss < b then hs ss o.pl j ++ [some (o'.pl.seen ss j)] else hs ss o.pl j) (hz : Zr ss o') (hss : SSz ss o'.pl) : OP ss o' (noteZ zs o'.size) (noteC ss a b (secNow ss o') C) := by
  have hc : ∀ i : Nat, (a < b ∧ ((a / ss : Nat) : Int) ≤ (i : Int) ∧ (i : Int) * (ss : Int) < (b : Int)) ↔ (a < b ∧ a / ss ≤ i ∧ i * ss < b) := by
    intro i
    have : ((i : Int) * (ss : Int)) = ((i * ss : Nat) : Int) := by simp
    rw [this]
    constructor
    · rintro ⟨h1, h2, h3⟩; exact ⟨h1, by omega, by omega⟩
    · rintro ⟨h1, h2, h3⟩; exact ⟨h1, by omega, by omega⟩
  refine ⟨?_, fun i hi => ?_, fun i hi => ?_, hz⟩
  · unfold noteZ
    rw [h.last hl, hst, hsz, h.zs]
    split <;> rfl
  · rw [hh i]
    unfold noteC at hi ⊢
    by_cases hx : a < b ∧ a / ss ≤ i ∧ i * ss < b
    · rw [if_pos ((hc i).2 hx), if_pos hx, secNow_seen h0 hss hz]
      simp only [Int.toNat_natCast]
      by_cases hci : C (i : Int) = []
      · rw [if_pos hci, h.unk i hci]
      · rw [if_neg hci, h.known i hci]
    · rw [if_neg (fun hy => hx ((hc i).1 hy))] at hi ⊢
      rw [if_neg hx]
      exact h.known i hi
  · rw [hh i]
    unfold noteC at hi
    by_cases hx : a < b ∧ a / ss ≤ i ∧ i * ss < b
    · rw [if_pos ((hc i).2 hx)] at hi
      simp at hi
    · rw [if_neg (fun hy => hx ((hc i).1 hy))] at hi
      rw [if_neg hx]
      exact h.unk i hi

theorem OP.write {off : Nat} {src : List Int} (h0 : 0 < ss) (h : OP ss o zs C) (hl : o.size = (o.sizes.getLast?).getD o.stable) (hs0 : SSz ss o.pl) (hne : src ≠ []) : OP ss (wrOb ss o off src) (noteZ zs (wrOb ss o off src).size) (noteC ss off (off + src.length) (secNow ss (wrOb ss o off src)) C) := by
  have hpos : 0 < src.length := List.length_pos_iff.2 hne
  obtain ⟨w1, w2⟩ := wrF_byt h0 src.length o.pl off src (Nat.le_refl _) hs0
  have hpl : (wrOb ss o off src).pl = wrF ss src.length o.pl off src := by
    unfold wrOb
    split
    · rw [setSize_size.2]
    · rfl
  refine h.note h0 hl ?_ ?_ (fun j => ?_) (fun j hj => ?_) ?_
  · unfold wrOb Ob.setSize
    split
    · split <;> rfl
    · rfl
  · unfold wrOb Ob.setSize
    split
    · rename_i hg
      split
      · rename_i he; simp only at he ⊢; omega
      · rename_i he; simp only at he ⊢
    · simp
  · rw [hpl, wrF_hs h0]
    have : (0 < src.length ∧ off / ss ≤ j ∧ j * ss < off + src.length) ↔ (off < off + src.length ∧ off / ss ≤ j ∧ j * ss < off + src.length) := by
      constructor
      · rintro ⟨a, b, c⟩; exact ⟨by omega, b, c⟩
      · rintro ⟨a, b, c⟩; exact ⟨by omega, b, c⟩
    simp only [this]
  · have hsz : o.size ≤ (wrOb ss o off src).size ∧ off + src.length ≤ (wrOb ss o off src).size := by
      unfold wrOb
      split
      · rw [setSize_size.1]; omega
      · show o.size ≤ o.size ∧ off + src.length ≤ o.size
        omega
    rw [hpl, w2, if_neg (by omega)]
    exact h.z j (by omega)
  · rw [hpl]; exact w1

theorem OP.same {a : Nat} {f : Nat → List Int} (h : OP ss o zs C) (hl : o.size = (o.sizes.getLast?).getD o.stable) : OP ss o (noteZ zs o.size) (noteC ss a a f C) := by
  have h1 : noteC ss a a f C = C := by
    funext i
    unfold noteC
    rw [if_neg (by omega)]
  rw [h1]
  unfold noteZ
  rw [if_pos (h.last hl).symm]
  exact h

theorem OP.trunc {n : Nat} (h0 : 0 < ss) (h : OP ss o zs C) (hl : o.size = (o.sizes.getLast?).getD o.stable) (hs0 : SSz ss o.pl) : OP ss (truncOb ss o n) (noteZ zs (truncOb ss o n).size) (noteC ss n o.size (secNow ss (truncOb ss o n)) C) := by
  have hsize : (truncOb ss o n).size = n := by unfold truncOb; exact setSize_size.1
  have hpl : (truncOb ss o n).pl = if n < o.size then wrF ss (List.replicate (o.size - n) (0 : Int)).length o.pl n (List.replicate (o.size - n) 0) else o.pl := by
    unfold truncOb
    rw [setSize_size.2]
    split
    · rw [zrF_eq, List.length_replicate]
    · rfl
  have hw := wrF_byt h0 (List.replicate (o.size - n) (0 : Int)).length o.pl n (List.replicate (o.size - n) 0) (Nat.le_refl _) hs0
  refine h.note h0 hl ?_ ?_ (fun j => ?_) (fun j hj => ?_) ?_
  · unfold truncOb Ob.setSize
    split <;> split <;> rfl
  · rw [hsize]
    unfold truncOb Ob.setSize
    split
    · split
      · rename_i he; simp only at he ⊢
      · rename_i he; simp only at he ⊢
    · split
      · rename_i he; simp only at he ⊢
      · rename_i he; simp only at he ⊢
  · rw [hpl]
    by_cases hn : n < o.size
    · rw [if_pos hn, wrF_hs h0]
      have : (0 < (List.replicate (o.size - n) (0 : Int)).length ∧ n / ss ≤ j ∧ j * ss < n + (List.replicate (o.size - n) (0 : Int)).length) ↔ (n < o.size ∧ n / ss ≤ j ∧ j * ss < o.size) := by
        rw [List.length_replicate]
        constructor
        · rintro ⟨a, b, c⟩; exact ⟨by omega, b, by omega⟩
        · rintro ⟨a, b, c⟩; exact ⟨by omega, b, by omega⟩
      simp only [this]
    · rw [if_neg hn, if_neg (by omega)]
  · rw [hsize] at hj
    rw [hpl]
    by_cases hn : n < o.size
    · rw [if_pos hn, hw.2]
      rw [List.length_replicate]
      split
      · rw [List.getElem?_replicate]
        split <;> rfl
      · exact h.z j (by omega)
    · rw [if_neg hn]
      exact h.z j (by omega)
  · rw [hpl]
    split
    · exact hw.1
    · exact hs0

def syncC (C : Int → List Sv) : Int → List Sv := fun i => match (C i).getLast? with
  | some v => [v]
  | none => []

theorem sized_ssz {P : Pl} (h : P.sized ss) : SSz ss P := by
  intro i
  unfold Pl.seen
  cases hl : P.lat i with
  | none => simp
  | some bs =>
    simp only
    unfold Pl.lat at hl
    cases hc : (P.cache (i : Int)).getLast? with
    | none =>
      rw [hc] at hl
      unfold Pl.dur at hl
      cases hm : P.media[i]? with
      | none => rw [hm] at hl; cases hl
      | some v =>
        rw [hm] at hl
        exact h.1 v (List.mem_of_getElem? hm) bs hl
    | some v =>
      rw [hc] at hl
      exact h.2 (i : Int) v (List.mem_of_getLast? hc) bs hl

theorem OP.sync (h0 : 0 < ss) (h : OP ss o zs C) (hs0 : SSz ss o.pl) (hps : PS o.pl) (hp : hardP ss o P') : OP ss (hardOb ss o P') [o.size] (syncC C) := by
  obtain ⟨hc, hd⟩ := hp
  obtain ⟨c1, c2⟩ := cut_byt h0 hs0 hc hd
  have hseen : ∀ i, P'.seen ss i = o.pl.seen ss i := fun i => by
    rw [seen_sO, lat_clean hc, hd, sO_cut fun bs hb => hs0.lat hb, ← seen_sO]
    have := secNow_seen h0 hs0 h.z i
    rw [← this]
    unfold cutL secNow
    apply List.map_congr_left
    intro r hr
    have hr := List.mem_range.1 hr
    split
    · unfold byt
      have h1 : (i * ss + r) / ss = i := by rw [Nat.mul_comm, Nat.mul_add_div h0, Nat.div_eq_of_lt hr, Nat.add_zero]
      have h2 : (i * ss + r) % ss = r := by rw [Nat.mul_comm, Nat.mul_add_mod, Nat.mod_eq_of_lt hr]
      rw [h1, h2]
      congr 2
    · rfl
  have hlast : ∀ i : Nat, C (i : Int) ≠ [] → (C (i : Int)).getLast? = some (some (o.pl.seen ss i)) := fun i hi => by rw [h.known i hi]; exact hs_last hps i
  refine ⟨rfl, fun i hi => ?_, fun i hi => ?_, fun j hj => ?_⟩
  · have hne : C (i : Int) ≠ [] := fun hx => hi (by unfold syncC; rw [hx]; rfl)
    show syncC C (i : Int) = hs ss P' i
    rw [hs_seen_clean hc, hseen]
    unfold syncC
    rw [hlast i hne]
  · have he : C (i : Int) = [] := by
      unfold syncC at hi
      cases hx : (C (i : Int)).getLast? with
      | none => exact List.getLast?_eq_none_iff.1 hx
      | some v => rw [hx] at hi; simp at hi
    show hs ss P' i = _
    rw [hs_seen_clean hc, hseen]
    have := hs_last (ss := ss) hps i
    rw [h.unk i he] at this
    have h5 : some (zer ss) = some (o.pl.seen ss i) := Option.some.inj this
    rw [h5]
  · exact cut_zero h0 hc hd (fun i bs hb => hs0.lat hb) j hj

/-- What a crash leaves of the books' values. -/
def crC (ss size : Nat) (ch : Int → Nat) (C : Int → List Sv) : Int → List Sv := fun i => if C i = [] then [] else [some (cutL ss size i.toNat (sO ss (((C i)[ch i]?).getD none)))]

theorem hs_settled {P : Pl} {ch : Int → Nat} (hps : PS P) (hch : ∀ i, ch i ≤ (P.cache i).length) (i : Nat) : ((hs ss P i)[ch (i : Int)]?).getD none = some (sO ss (settled P ch i)) := by
  unfold hs settled
  by_cases h : ch (i : Int) = 0
  · rw [h, if_pos rfl]
    rfl
  · rw [if_neg h]
    have h1 := hch (i : Int)
    obtain ⟨m, hm⟩ : ∃ m, ch (i : Int) = m + 1 := ⟨ch (i : Int) - 1, by omega⟩
    rw [hm, List.getElem?_cons_succ, Nat.add_sub_cancel, List.getElem?_eq_getElem (by omega)]
    simp only [Option.getD_some]
    cases hv : (P.cache (i : Int))[m] with
    | none => exact absurd hv (hps _ _ (List.getElem_mem _))
    | some bs => rfl

theorem settled_len {P : Pl} {ch : Int → Nat} (hz : P.sized ss) (i : Nat) : ∀ bs, settled P ch i = some bs → bs.length = ss := by
  intro bs hb
  unfold settled at hb
  split at hb
  · unfold Pl.dur at hb
    cases hm : P.media[i]? with
    | none => rw [hm] at hb; cases hb
    | some v => rw [hm] at hb; exact hz.1 v (List.mem_of_getElem? hm) bs hb
  · cases hm : (P.cache (i : Int))[ch (i : Int) - 1]? with
    | none => rw [hm] at hb; cases hb
    | some v => rw [hm] at hb; exact hz.2 _ v (List.mem_of_getElem? hm) bs hb

theorem OP.crash {ns kk : Nat} {ch : Int → Nat} {ks : List Int} (h0 : 0 < ss) (h : OP ss o zs C) (hz : o.pl.sized ss) (hps : PS o.pl) (hp : setP ss ns o kk ch ks P') : OP ss (setOb ss o kk P') [o.pickSize kk] (crC ss (o.pickSize kk) ch C) := by
  obtain ⟨_, hc, _, hch, _, hd⟩ := hp
  have hseen : ∀ i : Nat, P'.seen ss i = cutL ss (o.pickSize kk) i (sO ss (settled o.pl ch i)) := fun i => by
    rw [seen_sO, lat_clean hc, hd, sO_cut (settled_len hz i)]
  refine ⟨rfl, fun i hi => ?_, fun i hi => ?_, fun j hj => ?_⟩
  · have hne : C (i : Int) ≠ [] := fun hx => hi (by unfold crC; rw [if_pos hx])
    show crC ss _ ch C (i : Int) = hs ss P' i
    rw [hs_seen_clean hc, hseen]
    unfold crC
    rw [if_neg hne, h.known i hne, hs_settled hps hch]
    rfl
  · have he : C (i : Int) = [] := by
      unfold crC at hi
      split at hi
      · assumption
      · cases hi
    show hs ss P' i = _
    rw [hs_seen_clean hc, hseen]
    have hu := h.unk i he
    have hcl : o.pl.cache (i : Int) = [] := by
      unfold hs at hu
      simp at hu
      exact hu.2
    have hc0 : ch (i : Int) = 0 := by
      have := hch (i : Int)
      rw [hcl] at this
      simpa using this
    have hs2 := hs_settled (ss := ss) hps hch i
    rw [hu, hc0] at hs2
    have : sO ss (settled o.pl ch i) = zer ss := by
      have h5 : some (zer ss) = some (sO ss (settled o.pl ch i)) := hs2
      exact (Option.some.inj h5).symm
    rw [this]
    congr 2
    symm
    unfold cutL
    exact zer_eq _ fun r hr => by
      split
      · exact zer_get r
      · rfl
  · exact cut_zero h0 hc hd (fun i => settled_len hz i) j hj

theorem OP.new {id : Int} {pb : Nat} (h0 : 0 < ss) : OP ss (newOb id pb) [0] (fun _ => []) := by
  refine ⟨rfl, fun i hi => absurd rfl hi, fun i _ => ?_, fun j _ => ?_⟩
  · simp [hs, newOb, Pl.dur, sO]
  · have hse : ∀ i, Pl.seen (newOb id pb).pl ss i = zer ss := fun i => by simp [Pl.seen, Pl.lat, Pl.dur, newOb, zer]
    unfold byt
    rw [hse]
    exact zer_get _

end

end Go.Proofs.Qxb6500695aGreatFmt
