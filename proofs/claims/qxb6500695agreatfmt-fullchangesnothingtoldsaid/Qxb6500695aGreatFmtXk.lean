/-
  THE PLANE, PART K: allZero, Clone, cut.
-/
import Derived.Test.Qxb6500695aGreatFmtXj
namespace Go.Proofs.Qxb6500695aGreatFmt
open Go Go.Eng Go.Proofs
set_option maxRecDepth 100000
set_option linter.unusedVariables false
set_option linter.unusedSimpArgs false
set_option linter.unusedSectionVars false

section
variable {H : Heap} {g : Gh} {e : Int} {pb ss ns bd : Nat} {P : Pl}

theorem f203_ht {p : Option Addr} {n c : Nat} {bs : List Int} (h : Src H p n c bs) (hn : n < 2 ^ 32) : HT Tryz.prog 203 [.slice p n c] H fun v H' => H' = H ∧ v = .bool (bs.all fun x => x == 0) := by
  have hlen := h.len
  apply f203_of
  have loop : ∀ (k i : Nat), i + k = n → (bs.take i).all (fun x => x == 0) = true → f203_L1 p n c (n : Int) (i : Int) H fun v H' => H' = H ∧ v = .bool (bs.all fun x => x == 0) := by
    intro k
    induction k with
    | zero =>
      intro i hi hz
      apply f203_L1_of
      refine ⟨fun hd => absurd (of_decide_eq_true hd) (by omega), fun _ => ⟨rfl, ?_⟩⟩
      rw [List.take_of_length_le (by omega)] at hz
      rw [hz]
    | succ k ih =>
      intro i hi hz
      apply f203_L1_of
      refine ⟨fun _ => ?_, fun hd => absurd (of_decide_eq_false hd) (by simp; omega)⟩
      rcases h.row with h1 | ⟨b, o, h1, h2⟩
      · rw [h1] at hlen; simp at hlen; omega
      · have hc : Cells H b (o + i) [.int .u8 bs[i]] := by
          refine h2.part i ?_ (by simp; omega)
          show List.take 1 (List.drop i (bs.map fun x => Value.int .u8 x)) = _
          rw [List.drop_eq_getElem_cons (by simp; omega)]
          simp
        refine ⟨b, o, h1, by omega, by omega, bs[i], by simpa using hc, fun hne => ⟨rfl, ?_⟩, fun heq => ?_⟩
        · congr 1
          symm
          rw [List.all_eq_false]
          exact ⟨bs[i], List.getElem_mem _, by simpa using hne⟩
        · rw [wrapS (by omega)]
          refine ih (i + 1) (by omega) ?_
          rw [List.take_add_one, List.all_append, hz, List.getElem?_eq_getElem (by omega)]
          simpa using heq
  exact loop n 0 (by omega) (by simp)

theorem f134_ht {s : Sec} {bs : List Int} (hss : 0 < ss ∧ ss ≤ 16) (h : SecOk H g ss s bs) : HT Tryz.prog 134 [.slice s.p s.n s.c] H fun v H' => Sub H H' ∧ ∃ b arr c, v = .slice (some ⟨b, 0, none⟩) ss c ∧ ss ≤ c ∧ H b = none ∧ H' b = some (.cells arr 5 (0, 0)) ∧ ss ≤ arr.size ∧ arr.toList.take ss = bs.map fun x => .int .u8 x := by
  obtain ⟨sb, so, hsp, hcell⟩ := h.cells
  have hn := h.n
  have hlen := h.len
  apply f134_of
  refine ⟨_, binIs_slice_eql Tryz.underlying35, (fun hx => by rw [hsp] at hx; cases hx), fun _ b5 h1 ha => ?_⟩
  refine semOk_append (T := 5) (inf := Tryz.t5) (zero := .int .u8 0) (xs := []) (ys := bs.map fun x => .int .u8 x) Tryz.underlying35 (by kernel_rfl) (by kernel_rfl) (.inr ⟨b5, 0, #[], rfl, ha.same, Nat.le_refl _, by simp, by simp⟩) ⟨sb, so, hsp, hcell.al ha⟩ (by rw [List.length_map, hlen, hn]; show ss = ss * 1; omega) (by intro v hv; obtain ⟨x, _, rfl⟩ := List.mem_map.1 hv; rfl) (by rw [hn]; show 2 * (0 + ss) * 1 ≤ 2 ^ 48; omega) (by omega) ?_ ?_ (by omega)
  · intro b o arr h' hp hb hsz hfit
    omega
  · intro c' b' h2 hc' ha2
    refine ⟨_, _, _, rfl, ha.sub.al ha2, b', _, c', by rw [hn]; simp, by omega, ?_, ha2.same, ?_, ?_⟩
    · cases hc : H b' with
      | none => rfl
      | some o => have := ha.keep hc; rw [ha2.fresh] at this; cases this
    · simp [hlen]
    · simp only [List.nil_append, Array.toList_append]
      rw [List.take_append_of_le_length (by simp [hlen]), List.take_of_length_le (by simp [hlen])]

end

end Go.Proofs.Qxb6500695aGreatFmt
