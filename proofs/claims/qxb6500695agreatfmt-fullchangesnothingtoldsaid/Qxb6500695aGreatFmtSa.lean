/-
  THE STORE, PART A: valid names; words.
-/
import Derived.Test.Qxb6500695aGreatFmtWd
import Derived.Test.Qxb6500695aGreatFmtNa
import Derived.Test.Qxb6500695aGreatFmtYc
namespace Go.Proofs.Qxb6500695aGreatFmt
open Go Go.Eng Go.Proofs
set_option maxRecDepth 100000
set_option linter.unusedVariables false
set_option linter.unusedSimpArgs false
set_option linter.unusedSectionVars false

/-- A byte that may stand in a name. -/
def nb (c : Int) : Bool := (decide (c ≥ 97) && decide (c ≤ 122)) || (decide (c ≥ 65) && decide (c ≤ 90)) || (decide (c ≥ 48) && decide (c ≤ 57)) || (c == 46) || (c == 95) || (c == 45) || (c == 47)

def nb3 (c : Int) (x : Bool) : Bool := x || (c == 46) || (c == 95) || (c == 45) || (c == 47)
def nb2 (c : Int) (x : Bool) : Bool := nb3 c (x || (decide (c ≥ 48) && decide (c ≤ 57)))
def nb1 (c : Int) (x : Bool) : Bool := nb2 c (x || (decide (c ≥ 65) && decide (c ≤ 90)))

section
variable {H : Heap}

theorem f141_L4_ht (x : Bool) : f141_L4 x H fun v H' => H' = H ∧ v = .bool x := by
  apply f141_L4_of
  exact ⟨fun h => ⟨rfl, by rw [h]⟩, fun h => ⟨rfl, by rw [h]⟩⟩

theorem f141_L3_ht (c : Int) (x : Bool) : f141_L3 c x H fun v H' => H' = H ∧ v = .bool (nb3 c x) := by
  apply f141_L3_of
  refine ⟨fun h => ⟨rfl, by rw [h]; rfl⟩, fun h => ⟨fun h1 => ?_, fun h1 => ⟨fun h2 => ?_, fun h2 => ⟨fun h3 => ?_, fun h3 => ?_⟩⟩⟩⟩
  · have : nb3 c x = (c == 46) := by simp [nb3, h, h1]
    rw [this]; exact f141_L4_ht _
  · have : nb3 c x = (c == 95) := by simp [nb3, h, h1, h2]
    rw [this]; exact f141_L4_ht _
  · have : nb3 c x = (c == 45) := by simp [nb3, h, h1, h2, h3]
    rw [this]; exact f141_L4_ht _
  · have : nb3 c x = (c == 47) := by simp [nb3, h, h1, h2, h3]
    rw [this]; exact f141_L4_ht _

theorem f141_L2_ht (c : Int) (x : Bool) : f141_L2 c x H fun v H' => H' = H ∧ v = .bool (nb2 c x) := by
  apply f141_L2_of
  refine ⟨fun h => ?_, fun h => ⟨fun h1 => ?_, fun h1 => ?_⟩⟩
  · have : nb2 c x = nb3 c x := by simp [nb2, h]
    rw [this]; exact f141_L3_ht c x
  · have : nb2 c x = nb3 c (decide (c ≤ 57)) := by simp [nb2, h, of_decide_eq_true h1]
    rw [this]; exact f141_L3_ht c _
  · have : nb2 c x = nb3 c false := by
      unfold nb2
      rw [h, h1]; rfl
    rw [this]; exact f141_L3_ht c _

theorem f141_L1_ht (c : Int) (x : Bool) : f141_L1 c x H fun v H' => H' = H ∧ v = .bool (nb1 c x) := by
  apply f141_L1_of
  refine ⟨fun h => ?_, fun h => ⟨fun h1 => ?_, fun h1 => ?_⟩⟩
  · have : nb1 c x = nb3 c x := by simp [nb1, nb2, h]
    rw [this]; exact f141_L3_ht c x
  · have : nb1 c x = nb2 c (decide (c ≤ 90)) := by simp [nb1, h, of_decide_eq_true h1]
    rw [this]; exact f141_L2_ht c _
  · have : nb1 c x = nb2 c false := by
      unfold nb1
      rw [h, h1]; rfl
    rw [this]; exact f141_L2_ht c _

theorem f141_ht (c : Int) : HT Tryz.prog 141 [.int .u8 c] H fun v H' => H' = H ∧ v = .bool (nb c) := by
  apply f141_of
  refine ⟨fun h1 => ?_, fun h1 => ?_⟩
  · have : nb c = nb1 c (decide (c ≤ 122)) := by simp [nb, nb1, nb2, nb3, of_decide_eq_true h1]
    rw [this]; exact f141_L1_ht c _
  · have : nb c = nb1 c false := by
      unfold nb nb1 nb2 nb3
      rw [h1]; simp
    rw [this]; exact f141_L1_ht c _

/-- A name that may name an object. -/
def vn (s : ByteArray) : Bool := decide (s.size ≠ 0) && decide (s.size ≤ 64) && s.data.toList.all fun b => nb (b.toNat : Int)

theorem indexIs_str {s : ByteArray} {i : Nat} (hi : i < s.size) : IndexIs Tryz.prog 9 (.string s) (.int .i64 (i : Int)) (.int .u8 ((s.data[i]'hi).toNat : Int)) := by
  intro w
  have h1 : s[i]? = some (s.data[i]'hi) := by
    rw [getElem?_pos s i hi]
    rfl
  unfold Instr.index
  simp [asIntOf, underlying, Tryz.underlying9, h1]

theorem f93_L2_ht (s : ByteArray) (hs : s.size ≤ 64) : ∀ (d i : Nat), s.size - i = d → i ≤ s.size → (∀ j (hj : j < s.size), j < i → nb ((s.data[j]'hj).toNat : Int) = true) →
    f93_L2 s (i : Int) H fun v H' => H' = H ∧ v = .bool (s.data.toList.all fun b => nb (b.toNat : Int)) := by
  intro d
  induction d with
  | zero =>
    intro i hd hi hall
    have : i = s.size := by omega
    apply f93_L2_of
    refine ⟨fun h => by have := of_decide_eq_true h; omega, fun _ => ⟨rfl, ?_⟩⟩
    have : (s.data.toList.all fun b => nb (b.toNat : Int)) = true := by
      rw [List.all_eq_true]
      intro b hb
      obtain ⟨j, hj, hjb⟩ := List.getElem_of_mem hb
      have hj' : j < s.size := by simpa using hj
      have := hall j hj' (by omega)
      rw [← hjb]
      simpa using this
    rw [this]
  | succ d ih =>
    intro i hd hi hall
    have hlt : i < s.size := by omega
    apply f93_L2_of
    refine ⟨fun _ => ⟨_, indexIs_str hlt, ?_⟩, fun h => by have := of_decide_eq_false h; omega⟩
    refine (f141_ht _).mono fun v H1 ⟨he, hv⟩ => ⟨_, hv, fun hn => ⟨he, ?_⟩, fun hn => ?_⟩
    · have hf : nb ((s.data[i]'hlt).toNat : Int) = false := by simpa using hn
      have : (s.data.toList.all fun b => nb (b.toNat : Int)) = false := by
        rw [List.all_eq_false]
        exact ⟨s.data[i]'hlt, by simp, by rw [hf]; simp⟩
      rw [this]
    · subst he
      have ht : nb ((s.data[i]'hlt).toNat : Int) = true := by simpa using hn
      rw [wrapS (by omega)]
      refine ih (i + 1) (by omega) (by omega) fun j hj hji => ?_
      rcases Nat.lt_or_ge j i with h1 | h1
      · exact hall j hj h1
      · have : j = i := by omega
        subst this
        exact ht

theorem f93_ht (s : ByteArray) : HT Tryz.prog 93 [.string s] H fun v H' => H' = H ∧ v = .bool (vn s) := by
  apply f93_of
  refine ⟨fun h => ?_, fun h => ?_⟩
  · have h0 : s.size = 0 := by have := beq_iff_eq.1 h; omega
    apply f93_L1_of
    refine ⟨fun _ => ⟨rfl, ?_⟩, (fun h => by cases h)⟩
    simp [vn, h0]
  · have h0 : s.size ≠ 0 := by intro hc; rw [hc] at h; simp at h
    apply f93_L1_of
    refine ⟨fun hd => ⟨rfl, ?_⟩, fun hd => ?_⟩
    · have hd := of_decide_eq_true hd
      have : ¬ s.size ≤ 64 := by omega
      simp [vn, this]
    · have hd := of_decide_eq_false hd
      have hle : s.size ≤ 64 := by omega
      have : vn s = s.data.toList.all fun b => nb (b.toNat : Int) := by
        unfold vn
        rw [decide_eq_true h0, decide_eq_true hle]
        rfl
      rw [this]
      exact f93_L2_ht s hle _ 0 rfl (Nat.zero_le _) fun j _ hj => by omega

end

end Go.Proofs.Qxb6500695aGreatFmt
