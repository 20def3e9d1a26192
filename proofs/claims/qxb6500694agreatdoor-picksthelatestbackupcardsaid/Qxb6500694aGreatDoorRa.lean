/-
  THE ROW's ARGUMENT, OPENED; WHAT THE LISTED VARIABLES GIVE.
-/
import Derived.Test.Qxb6500694aGreatDoorPb
import Derived.Test.Qxb6500694aGreatDoorRows
import Derived.ProofKit
import Derived.LaidLaws
import Derived.Stop.Joined
namespace Go.Proofs.Qxb6500694aGreatDoor
open Go Go.Eng Go.Proofs
set_option maxRecDepth 100000
set_option linter.unusedVariables false
set_option linter.unusedSimpArgs false
set_option linter.unusedSectionVars false

/-- The whole heap, as known. -/
def hp (W : World) : Heap := fun b => W.heap[b]?

theorem hp_sat (W : World) : Sat (hp W) W.heap := fun _ _ h => h

theorem list_of_each {α : Type} {n : Nat} {p : Nat → α → Prop} (h : ∀ i, i < n → ∃ x, p i x) : ∃ l : List α, l.length = n ∧ ∀ i (hi : i < l.length), p i l[i] := by
  induction n with
  | zero => exact ⟨[], rfl, fun i hi => absurd hi (by simp)⟩
  | succ n ih =>
    obtain ⟨l, hl, hp⟩ := ih fun i hi => h i (by omega)
    obtain ⟨x, hx⟩ := h n (by omega)
    refine ⟨l ++ [x], by simp [hl], fun i hi => ?_⟩
    by_cases hi' : i < l.length
    · rw [List.getElem_append_left hi']; exact hp i hi'
    · have hin : i = n := by simp at hi; omega
      subst hin
      rw [List.getElem_append_right (by omega)]
      simpa [hl] using hx

theorem cells_of_cell {W : World} {b off : Nat} {vs : List Value} (h0 : 0 < vs.length) (h : ∀ j, j < vs.length → W.cell? ⟨b, off + j, none⟩ = vs[j]?) : Cells (hp W) b off vs := by
  have h1 := h 0 h0
  rw [List.getElem?_eq_getElem h0] at h1
  unfold World.cell? at h1
  split at h1
  · rename_i c T fr hb
    refine ⟨c, T, fr, hb, fun j hj => ?_⟩
    have h2 := h j hj
    unfold World.cell? at h2
    simp only [hb] at h2
    simpa using h2
  · cases h1

theorem addN (b o n : Nat) : Addr.add ⟨b, o, none⟩ n = ⟨b, o + n, none⟩ := by
  unfold Addr.add
  split
  · rename_i h; simp_all
  · rfl

theorem add0 (a : Addr) : a.add 0 = a := by simp [Addr.add]

theorem weightsAll_mem {H : Type} {P : Program} {e : TypeId} {p : Nat → Bool} {d : DataW H} : ∀ {l : List (DataW H)}, d ∈ l → (DataW.weightsAll P e l).all p = true → (d.weights P e).all p = true
  | [], hd, _ => by cases hd
  | x :: r, hd, h => by
    rw [DataW.weightsAll, List.all_append, Bool.and_eq_true] at h
    rcases List.mem_cons.1 hd with rfl | hd
    · exact h.1
    · exact weightsAll_mem hd h.2

section
variable {H : Type} {enc : TypeId × Value → H} {W : World} {fuel : Nat} {cs : List Value} {x : DataW H × List MemPlace}

/-- A slice, opened: nil, or a row of elements. -/
theorem open_sl {t e : TypeId} (ht : Tryz.prog.underlying t = some (.slice e)) (h : DataW.trod enc Tryz.prog W 0 (fun _ => true) true fuel t cs = some x) :
    (cs = [.slice none 0 0] ∧ x = (.nil, [])) ∨ ∃ (a : Addr) (len cap n : Nat) (elems rest : List (DataW H)) (pl : List MemPlace), cs = [.slice (some a) len cap] ∧ elems.length = len ∧ x = (.slice elems rest, pl) ∧
      ∀ i, i < len → ∃ cs' d q, d ∈ elems ∧ W.cells? 0 (a.add (i * Tryz.prog.cellsOf e)) (Tryz.prog.cellsOf e) = some cs' ∧ DataW.trod enc Tryz.prog W 0 (fun _ => true) true n e cs' = some (d, q) := by
  rcases DataW.trod_slice ht h with h0 | ⟨a, len, cap, elems, rest, n, _, rfl, rfl, hb, hl, hm, hlen, hel, hsp, hns⟩
  · exact Or.inl h0
  · refine Or.inr ⟨a, len, cap, n, elems.map (·.1), rest.map (·.1), _, rfl, by simpa using hlen, rfl, fun i hi => ?_⟩
    have h1 := hel i hi
    rw [List.getElem?_eq_getElem (by omega)] at h1
    cases hc : W.cells? 0 (a.add (i * Tryz.prog.cellsOf e)) (Tryz.prog.cellsOf e) with
    | none => rw [hc] at h1; cases h1
    | some cs' =>
      rw [hc] at h1
      exact ⟨cs', elems[i].1, elems[i].2, List.mem_map.2 ⟨_, List.getElem_mem _, rfl⟩, rfl, h1⟩

theorem open_any {t e : TypeId} (ht : Tryz.prog.underlying t = some (.slice e)) (hb : 1 ≤ Tryz.prog.bytesOf e) (h : DataW.trod enc Tryz.prog W 0 (fun _ => true) true fuel t cs = some x)
    (hw : (x.1.weights Tryz.prog t).all (· ≤ reachBytes) = true) : ∃ p n c, cs = [.slice p n c] ∧ n < 2 ^ 48 := by
  rcases open_sl ht h with ⟨rfl, rfl⟩ | ⟨a, len, cap, n, elems, rest, pl, rfl, hlen, rfl, hx⟩
  · exact ⟨none, 0, 0, rfl, by decide⟩
  · refine ⟨some a, len, cap, rfl, ?_⟩
    rw [DataW.weights, ht] at hw
    simp only [List.all_cons, Bool.and_eq_true, decide_eq_true_eq, hlen] at hw
    have h1 := hw.1
    have h2 : len ≤ reachBytes := Nat.le_trans (Nat.le_trans (Nat.le_add_right _ _) (Nat.le_mul_of_pos_right _ hb)) h1
    have h3 : reachBytes < 2 ^ 48 := by decide
    omega

theorem open_bytes {t e : TypeId} (ht : Tryz.prog.underlying t = some (.slice e)) (he : Tryz.prog.underlying e = some (.int .u8)) (hce : Tryz.prog.cellsOf e = 1) (h : DataW.trod enc Tryz.prog W 0 (fun _ => true) true fuel t cs = some x) :
    ∃ p n c ds, cs = [.slice p n c] ∧ ReadL (hp W) 1 U8.cs p n ds ∧ ∀ x ∈ ds, (0 : Int) ≤ x ∧ x < 256 := by
  rcases open_sl ht h with ⟨rfl, rfl⟩ | ⟨a, len, cap, n, elems, rest, pl, rfl, hlen, rfl, hx⟩
  · exact ⟨none, 0, 0, [], rfl, ReadL.nil, by simp⟩
  · have each : ∀ i, i < len → ∃ d : Int, W.cell? (a.add (i * 1)) = some (.int .u8 d) ∧ 0 ≤ d ∧ d < 256 := by
      intro i hi
      obtain ⟨cs', d, q, _, h1, h2⟩ := hx i hi
      rw [hce] at h1
      obtain ⟨_, hlen3, hcell⟩ := World.cells?_some h1
      obtain ⟨k, rfl, _, hwf⟩ := DataW.trod_int he h2
      have hc := hcell 0 (by omega)
      rw [add0] at hc
      refine ⟨k, by simpa using hc, ?_⟩
      have hwf' : (0 : Int) ≤ k ∧ k ≤ 255 := by simpa [Lit.wf, IntKind.min, IntKind.max, IntKind.bits, IntKind.signed] using hwf
      omega
    obtain ⟨ds, hlen2, hds⟩ := list_of_each each
    refine ⟨some a, len, cap, ds, rfl, ⟨hlen2.symm, fun i hi => ?_⟩, fun y hy => ?_⟩
    · obtain ⟨b, o, s⟩ := a
      have hc := (hds i hi).1
      have hs : s = none := by
        have h0 := (hds 0 (by omega)).1
        rw [Nat.zero_mul, add0] at h0
        exact World.cell?_spot h0
      subst hs
      refine ⟨b, o, rfl, cells_of_cell (by simp [U8.cs]) fun j hj => ?_⟩
      have hj0 : j = 0 := by simpa [U8.cs] using hj
      subst hj0
      rw [addN] at hc
      simpa [U8.cs] using hc
    · obtain ⟨j, hj, rfl⟩ := List.getElem_of_mem hy
      exact (hds j hj).2

theorem open_op {cs : List Value} {x : DataW H × List MemPlace} (h : DataW.trod enc Tryz.prog W 0 (fun _ => true) true fuel 34 cs = some x) (hw : (x.1.weights Tryz.prog 34).all (· ≤ reachBytes) = true) :
    ∃ o : OpV, cs = OpV.cs o ∧ OpRd (hp W) o := by
  obtain ⟨xs, n, _, rfl, hl, hlen, hf⟩ := DataW.trod_struct Tryz.underlying34 h
  have c34 : Tryz.prog.cellsOf 34 = 9 := by kernel_rfl
  have c27 : Tryz.prog.cellsOf 27 = 1 := by kernel_rfl
  have c29 : Tryz.prog.cellsOf 29 = 1 := by kernel_rfl
  have c30 : Tryz.prog.cellsOf 30 = 1 := by kernel_rfl
  have c2 : Tryz.prog.cellsOf 2 = 1 := by kernel_rfl
  have c4 : Tryz.prog.cellsOf 4 = 1 := by kernel_rfl
  have c31 : Tryz.prog.cellsOf 31 = 1 := by kernel_rfl
  have c32 : Tryz.prog.cellsOf 32 = 1 := by kernel_rfl
  have c5 : Tryz.prog.cellsOf 5 = 1 := by kernel_rfl
  have b5 : Tryz.prog.bytesOf 5 = 1 := by kernel_rfl
  have b3 : Tryz.prog.bytesOf 3 = 8 := by kernel_rfl
  rw [c34] at hl
  match cs, hl with
  | [v0, v1, v2, v3, v4, v5, v6, v7, v8], _ =>
    match xs, hlen with
    | [y0, y1, y2, y3, y4, y5, y6, y7, y8], _ =>
      have h0 : DataW.trod enc Tryz.prog W 0 (fun _ => true) true n 27 [v0] = some y0 := by
        have := hf 0 _ rfl
        simpa [c27] using this
      have h1 : DataW.trod enc Tryz.prog W 0 (fun _ => true) true n 29 [v1] = some y1 := by
        have := hf 1 _ rfl
        simpa [c29] using this
      have h2 : DataW.trod enc Tryz.prog W 0 (fun _ => true) true n 30 [v2] = some y2 := by
        have := hf 2 _ rfl
        simpa [c30] using this
      have h3 : DataW.trod enc Tryz.prog W 0 (fun _ => true) true n 2 [v3] = some y3 := by
        have := hf 3 _ rfl
        simpa [c2] using this
      have h4 : DataW.trod enc Tryz.prog W 0 (fun _ => true) true n 4 [v4] = some y4 := by
        have := hf 4 _ rfl
        simpa [c4] using this
      have h5 : DataW.trod enc Tryz.prog W 0 (fun _ => true) true n 2 [v5] = some y5 := by
        have := hf 5 _ rfl
        simpa [c2] using this
      have h6 : DataW.trod enc Tryz.prog W 0 (fun _ => true) true n 31 [v6] = some y6 := by
        have := hf 6 _ rfl
        simpa [c31] using this
      have h7 : DataW.trod enc Tryz.prog W 0 (fun _ => true) true n 32 [v7] = some y7 := by
        have := hf 7 _ rfl
        simpa [c32] using this
      have h8 : DataW.trod enc Tryz.prog W 0 (fun _ => true) true n 32 [v8] = some y8 := by
        have := hf 8 _ rfl
        simpa [c32] using this
      have hw' : ((y6.1.weights Tryz.prog 31).all (· ≤ reachBytes) = true ∧ (y7.1.weights Tryz.prog 32).all (· ≤ reachBytes) = true) ∧ (y8.1.weights Tryz.prog 32).all (· ≤ reachBytes) = true := by
        rw [DataW.weights, Tryz.underlying34] at hw
        simp only [List.map_cons, List.map_nil, DataW.weightsEach, List.all_append, Bool.and_eq_true, List.append_nil, List.all_nil, and_true] at hw
        exact ⟨⟨hw.2.2.2.2.2.2.1, hw.2.2.2.2.2.2.2.1⟩, hw.2.2.2.2.2.2.2.2⟩
      obtain ⟨k0, e0, _, _⟩ := DataW.trod_int Tryz.underlying27 h0
      obtain ⟨k1, e1, _, _⟩ := DataW.trod_int Tryz.underlying29 h1
      obtain ⟨k2, e2, _, w2⟩ := DataW.trod_int Tryz.underlying30 h2
      obtain ⟨k3, e3, _, _⟩ := DataW.trod_int Tryz.underlying2 h3
      obtain ⟨k4, e4, _⟩ := DataW.trod_bool Tryz.underlying4 h4
      obtain ⟨k5, e5, _, _⟩ := DataW.trod_int Tryz.underlying2 h5
      obtain ⟨p6, n6, q6, e6, l6⟩ := open_any Tryz.underlying31 (by rw [b5]; omega) h6 hw'.1.1
      obtain ⟨p6', n6', q6', ds, e6', r6, d6⟩ := open_bytes Tryz.underlying31 Tryz.underlying5 c5 h6
      obtain ⟨p7, n7, q7, e7, l7⟩ := open_any Tryz.underlying32 (by rw [b3]; omega) h7 hw'.1.2
      obtain ⟨p8, n8, q8, e8, l8⟩ := open_any Tryz.underlying32 (by rw [b3]; omega) h8 hw'.2
      simp only [List.cons.injEq, and_true] at e0 e1 e2 e3 e4 e5 e6 e6' e7 e8
      rw [e6] at e6'
      simp only [Value.slice.injEq] at e6'
      obtain ⟨rfl, rfl, rfl⟩ := e6'
      have hk2 : (0 : Int) ≤ k2 ∧ k2 ≤ 18446744073709551615 := by simpa [Lit.wf, IntKind.min, IntKind.max, IntKind.bits, IntKind.signed] using w2
      have hk3 : inU k2 := by unfold inU; omega
      exact ⟨⟨k0, k1, k2, k3, k4, k5, p6, n6, q6, p7, n7, q7, p8, n8, q8⟩, by rw [e0, e1, e2, e3, e4, e5, e6, e7, e8]; rfl, ⟨hk3, l6, l7, l8, ds, r6, d6⟩⟩

/-- The script, opened. -/
theorem open_ops (h : DataW.trod enc Tryz.prog W 0 (fun _ => true) true fuel 22 cs = some x) (hw : (x.1.weights Tryz.prog 22).all (· ≤ reachBytes) = true) :
    ∃ p n c ops, cs = [.slice p n c] ∧ ReadL (hp W) 9 OpV.cs p n ops ∧ ∀ o ∈ ops, OpRd (hp W) o := by
  have c34 : Tryz.prog.cellsOf 34 = 9 := by kernel_rfl
  rcases open_sl Tryz.underlying22 h with ⟨rfl, rfl⟩ | ⟨a, len, cap, n, elems, rest, pl, rfl, hlen, rfl, hx⟩
  · exact ⟨none, 0, 0, [], rfl, ReadL.nil, by simp⟩
  · rw [DataW.weights, Tryz.underlying22] at hw
    simp only [List.all_cons, List.all_append, Bool.and_eq_true] at hw
    have each : ∀ i, i < len → ∃ o : OpV, (∀ j, j < 9 → W.cell? ((a.add (i * 9)).add j) = (OpV.cs o)[j]?) ∧ OpRd (hp W) o := by
      intro i hi
      obtain ⟨cs', d, q, hd, h1, h2⟩ := hx i hi
      rw [c34] at h1
      obtain ⟨_, hlen3, hcell⟩ := World.cells?_some h1
      obtain ⟨o, rfl, ho⟩ := open_op h2 (weightsAll_mem hd hw.2.1)
      exact ⟨o, hcell, ho⟩
    obtain ⟨ops, hlen2, hops⟩ := list_of_each each
    refine ⟨some a, len, cap, ops, rfl, ⟨hlen2.symm, fun i hi => ?_⟩, fun y hy => ?_⟩
    · obtain ⟨b, o, s⟩ := a
      have hc := (hops i hi).1
      have hs : s = none := by
        have h0 := (hops 0 (by omega)).1 0 (by omega)
        have h1 : W.cell? ((Addr.add ⟨b, o, s⟩ 0).add 0) = some (.int .u8 (ops[0]).kind) := by simpa [OpV.cs] using h0
        rw [add0, add0] at h1
        exact World.cell?_spot h1
      subst hs
      refine ⟨b, o, rfl, cells_of_cell (by simp [OpV.cs]) fun j hj => ?_⟩
      have := hc j hj
      rw [addN, addN] at this
      exact this
    · obtain ⟨j, hj, rfl⟩ := List.getElem_of_mem hy
      exact (hops j hj).2

end

/-- A listed sentinel holds an interface value. -/
theorem laid_iface {E : Type} {en : TypeId × Value → E} {P : Program} {W : World} {t : TypeId} {ms : Array (String × TypeId)} (ht : P.underlying t = some (.interface ms)) {fuel : Nat} {cs : List Value} {nm : String} {d : DataW E} {p : List MemPlace} {sp : Nat → Bool}
    (h : DataW.trod en P W 0 sp false fuel t cs = some (.iface nm d, p)) : ∃ u v, cs = [.iface u v] := by
  cases fuel with
  | zero => simp [DataW.trod] at h
  | succ f =>
    unfold DataW.trod at h
    rw [ht] at h
    match cs, h with
    | [.iface u v], _ => exact ⟨u, v, rfl⟩
    | [.nilIface], h => simp at h

end Go.Proofs.Qxb6500694aGreatDoor
