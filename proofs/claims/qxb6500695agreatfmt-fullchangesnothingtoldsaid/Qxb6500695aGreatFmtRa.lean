/-
  THE ROW's ARGUMENT, OPENED; WHAT THE LISTED VARIABLES GIVE.
-/
import Derived.Test.Qxb6500695aGreatFmtPi
import Derived.Test.Qxb6500695aGreatFmtRows
import Derived.ProofKit
import Derived.LaidLaws
import Derived.Stop.Joined
namespace Go.Proofs.Qxb6500695aGreatFmt
open Go Go.Eng Go.Proofs
set_option maxRecDepth 100000
set_option linter.unusedVariables false
set_option linter.unusedSimpArgs false
set_option linter.unusedSectionVars false

/-- The whole heap, as known. -/
def hp (W : World) : Heap := fun b => W.heap[b]?

theorem hp_sat (W : World) : Sat (hp W) W.heap := fun _ _ h => h

theorem list_of_each {α : Type} {n : Nat} {p : Nat → α → Prop} (h : ∀ i, i < n → ∃ x, p i x) : ∃ l : List α, l.length = n ∧ ∀ i (hi : i < l.length), p i l[i] := by
  induction n with
  | zero => exact ⟨[], rfl, fun i hi => absurd hi (by simp)⟩
  | succ n ih =>
    obtain ⟨l, hl, hp⟩ := ih fun i hi => h i (by omega)
    obtain ⟨x, hx⟩ := h n (by omega)
    refine ⟨l ++ [x], by simp [hl], fun i hi => ?_⟩
    by_cases hi' : i < l.length
    · rw [List.getElem_append_left hi']; exact hp i hi'
    · have hin : i = n := by simp at hi; omega
      subst hin
      rw [List.getElem_append_right (by omega)]
      simpa [hl] using hx

theorem cells_of_cell {W : World} {b off : Nat} {vs : List Value} (h0 : 0 < vs.length) (h : ∀ j, j < vs.length → W.cell? ⟨b, off + j, none⟩ = vs[j]?) : Cells (hp W) b off vs := by
  have h1 := h 0 h0
  rw [List.getElem?_eq_getElem h0] at h1
  unfold World.cell? at h1
  split at h1
  · rename_i c T fr hb
    refine ⟨c, T, fr, hb, fun j hj => ?_⟩
    have h2 := h j hj
    unfold World.cell? at h2
    simp only [hb] at h2
    simpa using h2
  · cases h1

theorem addN (b o n : Nat) : Addr.add ⟨b, o, none⟩ n = ⟨b, o + n, none⟩ := by
  unfold Addr.add
  split
  · rename_i h; simp_all
  · rfl

theorem add0 (a : Addr) : a.add 0 = a := by simp [Addr.add]

theorem weightsAll_mem {H : Type} {P : Program} {e : TypeId} {p : Nat → Bool} {d : DataW H} : ∀ {l : List (DataW H)}, d ∈ l → (DataW.weightsAll P e l).all p = true → (d.weights P e).all p = true
  | [], hd, _ => by cases hd
  | x :: r, hd, h => by
    rw [DataW.weightsAll, List.all_append, Bool.and_eq_true] at h
    rcases List.mem_cons.1 hd with rfl | hd
    · exact h.1
    · exact weightsAll_mem hd h.2

/-- Every block is read-only. -/
def gRo (W : World) : Gh := fun b => if (hp W b).isSome then some (0, 0) else none

theorem gRo_ok (W : World) : GOk (hp W) (gRo W) := fun b tg h hn => by
  unfold gRo at h
  rw [hn] at h
  simp at h

theorem gRo_cells {W : World} {b o : Nat} {vs : List Value} (h : Cells (hp W) b o vs) : gRo W b = some (0, 0) := by
  obtain ⟨c, T, fr, hb, _⟩ := h
  unfold gRo
  rw [hb]
  rfl

theorem flat_u8 : ∀ ds : List Int, ds.flatMap U8.cs = ds.map fun x => Value.int .u8 x
  | [] => rfl
  | d :: ds => by
    rw [List.flatMap_cons, flat_u8 ds]
    rfl

section
variable {H : Type} {enc : TypeId × Value → H} {W : World} {fuel : Nat} {cs : List Value} {x : DataW H × List MemPlace}

/-- A slice, opened: nil, or a row of elements. -/
theorem open_sl {t e : TypeId} (ht : Tryz.prog.underlying t = some (.slice e)) (h : DataW.trod enc Tryz.prog W 0 (fun _ => true) true fuel t cs = some x) :
    (cs = [.slice none 0 0] ∧ x = (.nil, [])) ∨ ∃ (a : Addr) (len cap n : Nat) (elems rest : List (DataW H)) (pl : List MemPlace), cs = [.slice (some a) len cap] ∧ len ≤ cap ∧ elems.length = len ∧ x = (.slice elems rest, pl) ∧
      ∀ i, i < len → ∃ cs' d q, d ∈ elems ∧ W.cells? 0 (a.add (i * Tryz.prog.cellsOf e)) (Tryz.prog.cellsOf e) = some cs' ∧ DataW.trod enc Tryz.prog W 0 (fun _ => true) true n e cs' = some (d, q) := by
  rcases DataW.trod_slice ht h with h0 | ⟨a, len, cap, elems, rest, n, _, rfl, rfl, hb, hl, hm, hlen, hel, hsp, hns⟩
  · exact Or.inl h0
  · refine Or.inr ⟨a, len, cap, n, elems.map (·.1), rest.map (·.1), _, rfl, hl, by simpa using hlen, rfl, fun i hi => ?_⟩
    have h1 := hel i hi
    rw [List.getElem?_eq_getElem (by omega)] at h1
    cases hc : W.cells? 0 (a.add (i * Tryz.prog.cellsOf e)) (Tryz.prog.cellsOf e) with
    | none => rw [hc] at h1; cases h1
    | some cs' =>
      rw [hc] at h1
      exact ⟨cs', elems[i].1, elems[i].2, List.mem_map.2 ⟨_, List.getElem_mem _, rfl⟩, rfl, h1⟩

/-- A slice of whole numbers, opened. -/
theorem open_ints {t e : TypeId} {kd : IntKind} (ht : Tryz.prog.underlying t = some (.slice e)) (he : Tryz.prog.underlying e = some (.int kd)) (hce : Tryz.prog.cellsOf e = 1) (hbe : 1 ≤ Tryz.prog.bytesOf e) (h : DataW.trod enc Tryz.prog W 0 (fun _ => true) true fuel t cs = some x)
    (hw : (x.1.weights Tryz.prog t).all (· ≤ reachBytes) = true) :
    ∃ (p : Option Addr) (n c : Nat) (ds : List Int), cs = [.slice p n c] ∧ n = ds.length ∧ n ≤ c ∧ n < 2 ^ 48 ∧ (0 < n → ∃ b o, p = some ⟨b, o, none⟩ ∧ Cells (hp W) b o (ds.flatMap fun d => [.int kd d])) := by
  rcases open_sl ht h with ⟨rfl, rfl⟩ | ⟨a, len, cap, n, elems, rest, pl, rfl, hlc, hlen, rfl, hx⟩
  · exact ⟨none, 0, 0, [], rfl, rfl, Nat.le_refl _, by decide, fun h => absurd h (by decide)⟩
  · have each : ∀ i, i < len → ∃ d : Int, W.cell? (a.add (i * 1)) = some (.int kd d) := by
      intro i hi
      obtain ⟨cs', d, q, _, h1, h2⟩ := hx i hi
      rw [hce] at h1
      obtain ⟨_, hlen3, hcell⟩ := World.cells?_some h1
      obtain ⟨k, rfl, _, hwf⟩ := DataW.trod_int he h2
      have hc := hcell 0 (by omega)
      rw [add0] at hc
      exact ⟨k, by simpa using hc⟩
    obtain ⟨ds, hlen2, hds⟩ := list_of_each each
    refine ⟨some a, len, cap, ds, rfl, hlen2.symm, hlc, ?_, fun hpos => ?_⟩
    · rw [DataW.weights, ht] at hw
      simp only [List.all_cons, Bool.and_eq_true, decide_eq_true_eq, hlen] at hw
      have h1 := hw.1
      have h2 : len ≤ reachBytes := Nat.le_trans (Nat.le_trans (Nat.le_add_right _ _) (Nat.le_mul_of_pos_right _ hbe)) h1
      have h3 : reachBytes < 2 ^ 48 := by decide
      omega
    · obtain ⟨b, o, s⟩ := a
      have hs : s = none := by
        have h0 := hds 0 (by omega)
        rw [Nat.zero_mul, add0] at h0
        exact World.cell?_spot h0
      subst hs
      refine ⟨b, o, rfl, flat_cells (sz := 1) (fun _ => rfl) (by omega) fun i hi => cells_of_cell (by simp) fun j hj => ?_⟩
      have hj0 : j = 0 := by simpa using hj
      subst hj0
      have hc := hds i hi
      rw [addN] at hc
      simpa using hc

theorem open_str {t : TypeId} (ht : Tryz.prog.underlying t = some .string) (h : DataW.trod enc Tryz.prog W 0 (fun _ => true) true fuel t cs = some x) (hw : (x.1.weights Tryz.prog t).all (· ≤ reachBytes) = true) :
    ∃ s : ByteArray, cs = [.string s] ∧ s.size < 2 ^ 48 := by
  obtain ⟨s, rfl, rfl, _⟩ := DataW.trod_string ht h
  refine ⟨s, rfl, ?_⟩
  rw [DataW.weights] at hw
  simp only [List.all_cons, List.all_nil, Bool.and_true, decide_eq_true_eq] at hw
  have h3 : reachBytes < 2 ^ 48 := by decide
  have h4 : s.data.toList.length = s.size := by simp
  omega

theorem open_op {cs : List Value} {x : DataW H × List MemPlace} (h : DataW.trod enc Tryz.prog W 0 (fun _ => true) true fuel 41 cs = some x) (hw : (x.1.weights Tryz.prog 41).all (· ≤ reachBytes) = true) :
    ∃ o : OpV, cs = OpV.cs o ∧ OpW (hp W) (gRo W) o := by
  obtain ⟨xs, n, _, rfl, hl, hlen, hf⟩ := DataW.trod_struct Tryz.underlying41 h
  have c41 : Tryz.prog.cellsOf 41 = 8 := by kernel_rfl
  have c38 : Tryz.prog.cellsOf 38 = 1 := by kernel_rfl
  have c3 : Tryz.prog.cellsOf 3 = 1 := by kernel_rfl
  have c9 : Tryz.prog.cellsOf 9 = 1 := by kernel_rfl
  have c2 : Tryz.prog.cellsOf 2 = 1 := by kernel_rfl
  have c35 : Tryz.prog.cellsOf 35 = 1 := by kernel_rfl
  have c39 : Tryz.prog.cellsOf 39 = 1 := by kernel_rfl
  have c5 : Tryz.prog.cellsOf 5 = 1 := by kernel_rfl
  have b5 : Tryz.prog.bytesOf 5 = 1 := by kernel_rfl
  have b3 : Tryz.prog.bytesOf 3 = 8 := by kernel_rfl
  rw [c41] at hl
  match cs, hl with
  | [v0, v1, v2, v3, v4, v5, v6, v7], _ =>
    match xs, hlen with
    | [y0, y1, y2, y3, y4, y5, y6, y7], _ =>
      have h0 : DataW.trod enc Tryz.prog W 0 (fun _ => true) true n 38 [v0] = some y0 := by
        have := hf 0 _ rfl
        simpa [c38] using this
      have h1 : DataW.trod enc Tryz.prog W 0 (fun _ => true) true n 3 [v1] = some y1 := by
        have := hf 1 _ rfl
        simpa [c3] using this
      have h2 : DataW.trod enc Tryz.prog W 0 (fun _ => true) true n 9 [v2] = some y2 := by
        have := hf 2 _ rfl
        simpa [c9] using this
      have h3 : DataW.trod enc Tryz.prog W 0 (fun _ => true) true n 9 [v3] = some y3 := by
        have := hf 3 _ rfl
        simpa [c9] using this
      have h4 : DataW.trod enc Tryz.prog W 0 (fun _ => true) true n 2 [v4] = some y4 := by
        have := hf 4 _ rfl
        simpa [c2] using this
      have h5 : DataW.trod enc Tryz.prog W 0 (fun _ => true) true n 2 [v5] = some y5 := by
        have := hf 5 _ rfl
        simpa [c2] using this
      have h6 : DataW.trod enc Tryz.prog W 0 (fun _ => true) true n 35 [v6] = some y6 := by
        have := hf 6 _ rfl
        simpa [c35] using this
      have h7 : DataW.trod enc Tryz.prog W 0 (fun _ => true) true n 39 [v7] = some y7 := by
        have := hf 7 _ rfl
        simpa [c39] using this
      have hw' : ((y2.1.weights Tryz.prog 9).all (· ≤ reachBytes) = true ∧ (y3.1.weights Tryz.prog 9).all (· ≤ reachBytes) = true) ∧ (y6.1.weights Tryz.prog 35).all (· ≤ reachBytes) = true ∧ (y7.1.weights Tryz.prog 39).all (· ≤ reachBytes) = true := by
        rw [DataW.weights, Tryz.underlying41] at hw
        simp only [List.map_cons, List.map_nil, DataW.weightsEach, List.all_append, Bool.and_eq_true, List.append_nil, List.all_nil, and_true] at hw
        exact ⟨⟨hw.2.2.1, hw.2.2.2.1⟩, hw.2.2.2.2.2.2.1, hw.2.2.2.2.2.2.2⟩
      obtain ⟨k0, e0, _, _⟩ := DataW.trod_int Tryz.underlying38 h0
      obtain ⟨k1, e1, _, _⟩ := DataW.trod_int Tryz.underlying3 h1
      obtain ⟨k2, e2, l2⟩ := open_str Tryz.underlying9 h2 hw'.1.1
      obtain ⟨k3, e3, l3⟩ := open_str Tryz.underlying9 h3 hw'.1.2
      obtain ⟨k4, e4, _, w4⟩ := DataW.trod_int Tryz.underlying2 h4
      obtain ⟨k5, e5, _, w5⟩ := DataW.trod_int Tryz.underlying2 h5
      obtain ⟨p6, n6, q6, d6, e6, l6, m6, z6, r6⟩ := open_ints Tryz.underlying35 Tryz.underlying5 c5 (by rw [b5]; omega) h6 hw'.2.1
      obtain ⟨p7, n7, q7, d7, e7, l7, m7, z7, r7⟩ := open_ints Tryz.underlying39 Tryz.underlying3 c3 (by rw [b3]; omega) h7 hw'.2.2
      simp only [List.cons.injEq, and_true] at e0 e1 e2 e3 e4 e5 e6 e7
      have hk4 : (-9223372036854775808 : Int) ≤ k4 ∧ k4 ≤ 9223372036854775807 := by simpa [Lit.wf, IntKind.min, IntKind.max, IntKind.bits, IntKind.signed] using w4
      have hk5 : (-9223372036854775808 : Int) ≤ k5 ∧ k5 ≤ 9223372036854775807 := by simpa [Lit.wf, IntKind.min, IntKind.max, IntKind.bits, IntKind.signed] using w5
      refine ⟨⟨k0, k1, k2, k3, k4, k5, p6, n6, q6, d6, p7, n7, q7, d7⟩, by rw [e0, e1, e2, e3, e4, e5, e6, e7]; rfl, ⟨⟨l6, m6, ?_⟩, fun a ha hpos => ?_, l7, fun hpos => ?_, ⟨by show k4 < _; omega, by show _ ≤ k4; omega⟩, by show k5 < _; omega, l2, l3, z6, z7⟩⟩
      · rcases Nat.eq_zero_or_pos n6 with hz | hz
        · exact .inl (List.length_eq_zero_iff.1 (l6.symm.trans hz))
        · obtain ⟨b, o, hp6, hc6⟩ := r6 hz
          refine .inr ⟨b, o, hp6, ?_⟩
          show Cells (hp W) b o (d6.map fun x => .int .u8 x)
          rw [← flat_u8]
          exact hc6
      · obtain ⟨b, o, hp6, hc6⟩ := r6 hpos
        have ha' : p6 = some a := ha
        rw [ha'] at hp6
        cases hp6
        exact gRo_cells hc6
      · obtain ⟨b, o, hp7, hc7⟩ := r7 hpos
        exact ⟨b, o, hp7, gRo_cells hc7, hc7⟩

/-- The script, opened. -/
theorem open_ops (h : DataW.trod enc Tryz.prog W 0 (fun _ => true) true fuel 22 cs = some x) (hw : (x.1.weights Tryz.prog 22).all (· ≤ reachBytes) = true) :
    ∃ p n c ops, cs = [.slice p n c] ∧ Scr (hp W) (gRo W) p n ops := by
  have c41 : Tryz.prog.cellsOf 41 = 8 := by kernel_rfl
  have b41 : 1 ≤ Tryz.prog.bytesOf 41 := of_decide_eq_true (by kernel_rfl)
  rcases open_sl Tryz.underlying22 h with ⟨rfl, rfl⟩ | ⟨a, len, cap, n, elems, rest, pl, rfl, hlc, hlen, rfl, hx⟩
  · exact ⟨none, 0, 0, [], rfl, ⟨rfl, by decide, fun i hi => absurd hi (by simp), fun i hi => absurd hi (by simp)⟩⟩
  · rw [DataW.weights, Tryz.underlying22] at hw
    simp only [List.all_cons, List.all_append, Bool.and_eq_true, decide_eq_true_eq, hlen] at hw
    have each : ∀ i, i < len → ∃ o : OpV, (∀ j, j < 8 → W.cell? ((a.add (i * 8)).add j) = (OpV.cs o)[j]?) ∧ OpW (hp W) (gRo W) o := by
      intro i hi
      obtain ⟨cs', d, q, hd, h1, h2⟩ := hx i hi
      rw [c41] at h1
      obtain ⟨_, hlen3, hcell⟩ := World.cells?_some h1
      obtain ⟨o, rfl, ho⟩ := open_op h2 (weightsAll_mem hd hw.2.1)
      exact ⟨o, hcell, ho⟩
    obtain ⟨ops, hlen2, hops⟩ := list_of_each each
    refine ⟨some a, len, cap, ops, rfl, ⟨hlen2.symm, ?_, fun i hi => ?_, fun i hi => (hops i hi).2⟩⟩
    · have h1 := hw.1
      have h2 : len ≤ reachBytes := Nat.le_trans (Nat.le_trans (Nat.le_add_right _ _) (Nat.le_mul_of_pos_right _ b41)) h1
      have h3 : reachBytes < 2 ^ 48 := by decide
      omega
    · obtain ⟨b, o, s⟩ := a
      have hc := (hops i hi).1
      have hs : s = none := by
        have h0 := (hops 0 (by omega)).1 0 (by omega)
        have h1 : W.cell? ((Addr.add ⟨b, o, s⟩ (0 * 8)).add 0) = some (.int .u8 (ops[0]).kd) := by simpa [OpV.cs] using h0
        rw [Nat.zero_mul, add0, add0] at h1
        exact World.cell?_spot h1
      subst hs
      have hcc : Cells (hp W) b (o + i * 8) (ops[i].cs) := cells_of_cell (by simp [OpV.cs]) fun j hj => by
        have := hc j hj
        rw [addN, addN] at this
        exact this
      exact ⟨b, o, rfl, gRo_cells hcc, hcc⟩

end

/-- A listed sentinel holds an interface value. -/
theorem laid_iface {E : Type} {en : TypeId × Value → E} {P : Program} {W : World} {t : TypeId} {ms : Array (String × TypeId)} (ht : P.underlying t = some (.interface ms)) {fuel : Nat} {cs : List Value} {nm : String} {d : DataW E} {p : List MemPlace} {sp : Nat → Bool}
    (h : DataW.trod en P W 0 sp false fuel t cs = some (.iface nm d, p)) : ∃ u v, cs = [.iface u v] := by
  cases fuel with
  | zero => simp [DataW.trod] at h
  | succ f =>
    unfold DataW.trod at h
    rw [ht] at h
    match cs, h with
    | [.iface u v], _ => exact ⟨u, v, rfl⟩
    | [.nilIface], h => simp at h

end Go.Proofs.Qxb6500695aGreatFmt
