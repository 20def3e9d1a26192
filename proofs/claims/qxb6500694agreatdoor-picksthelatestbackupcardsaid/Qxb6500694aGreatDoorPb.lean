/-
  THE SCRIPT's BOUND (zzSmall1), AND THE WHOLE LAW.
-/
import Derived.Test.Qxb6500694aGreatDoorPa
namespace Go.Proofs.Qxb6500694aGreatDoor
open Go Go.Eng Go.Proofs
set_option maxRecDepth 100000
set_option linter.unusedVariables false
set_option linter.unusedSimpArgs false
set_option linter.unusedSectionVars false

/-- An operation as it is read before its size is known. -/
structure OpRd (H : Heap) (o : OpV) : Prop where
  at_ : inU o.at_
  dl : o.dn < 2 ^ 48
  pl : o.pn < 2 ^ 48
  kl : o.kn < 2 ^ 48
  data : ∃ ds, ReadL H 1 U8.cs o.dp o.dn ds ∧ ∀ x ∈ ds, 0 ≤ x ∧ x < 256

section
variable {H : Heap} {q : Option Addr} {qn qc : Nat} {ops : List OpV}

def smallPost (H : Heap) (qn : Nat) (ops : List OpV) (v : Value) (H' : Heap) : Prop :=
  H' = H ∧ ∃ x, v = .bool x ∧ (x = true → qn ≤ 65536 ∧ ∀ o ∈ ops, o.dn ≤ 65536)

theorem f9_L1_ht (hr : ReadL H 9 OpV.cs q qn ops) (hb : ∀ o ∈ ops, OpRd H o) (hq : qn ≤ 65536) :
    ∀ (k i : Nat) (n : Int), i + k = qn → 0 ≤ n → n ≤ 65536 → (∀ j (hj : j < ops.length), j < i → ops[j].dn ≤ 65536) → f9_L1 q qn qc n (i : Int) H (smallPost H qn ops) := by
  have hlen := hr.len
  intro k
  induction k with
  | zero =>
    intro i n hi h0 hn hall
    apply f9_L1_of
    refine ⟨fun hd => absurd (of_decide_eq_true hd) (by omega), fun _ => ⟨rfl, true, rfl, fun _ => ⟨hq, fun o ho => ?_⟩⟩⟩
    obtain ⟨j, hj, rfl⟩ := List.getElem_of_mem ho
    exact hall j hj (by omega)
  | succ k ih =>
    intro i n hi h0 hn hall
    apply f9_L1_of
    refine ⟨fun _ => ?_, fun hd => absurd (of_decide_eq_false hd) (by simp; omega)⟩
    obtain ⟨b, o, hp, hc⟩ := hr.cells i (by omega)
    have hop := hb _ (List.getElem_mem (l := ops) (n := i) (by omega))
    have hall' : ops[i].dn ≤ 65536 → ∀ j (hj : j < ops.length), j < i + 1 → ops[j].dn ≤ 65536 := fun h j hj hji => by
      by_cases hji' : j = i
      · subst hji'; exact h
      · exact hall j hj (by omega)
    generalize hopi : ops[i] = op at hc hop hall'
    have h1 := hop.dl
    have h2 := hop.pl
    have h3 := hop.kl
    have w1 : IntKind.wrap .i64 (n + (op.dn : Int)) = n + (op.dn : Int) := by rw [wrapI] <;> omega
    have cell : ∀ m v, (OpV.cs op)[m]? = some v → Cells H b (o + i * 9 + m) [v] := fun m v hv => by
      obtain ⟨c, T, fr, hblk, hcs⟩ := hc
      refine ⟨c, T, fr, hblk, fun z hz => ?_⟩
      have hz0 : z = 0 := by simpa using hz
      subst hz0
      have hm : m < (OpV.cs op).length := by
        rcases Nat.lt_or_ge m (OpV.cs op).length with h | h
        · exact h
        · rw [List.getElem?_eq_none h] at hv; cases hv
      have := hcs m hm
      rw [hv] at this
      simpa using this
    refine ⟨b, o, hp, by omega, by omega, op.dp, op.dn, op.dc, ?_, ?_⟩
    · have := cell 6 _ rfl
      simpa using this
    rw [w1]
    refine ⟨fun _ => ⟨rfl, false, rfl, fun h => by cases h⟩, fun hd => ?_⟩
    have hd := of_decide_eq_false hd
    have w2 : IntKind.wrap .i64 (n + (op.dn : Int) + (op.pn : Int)) = n + (op.dn : Int) + (op.pn : Int) := by rw [wrapI] <;> omega
    refine ⟨b, o, hp, by omega, by omega, op.pp, op.pn, op.pc, ?_, ?_⟩
    · have := cell 7 _ rfl
      simpa using this
    rw [w2]
    refine ⟨fun _ => ⟨rfl, false, rfl, fun h => by cases h⟩, fun hd => ?_⟩
    have hd := of_decide_eq_false hd
    have w3 : IntKind.wrap .i64 (n + (op.dn : Int) + (op.pn : Int) + (op.kn : Int)) = n + (op.dn : Int) + (op.pn : Int) + (op.kn : Int) := by rw [wrapI] <;> omega
    refine ⟨b, o, hp, by omega, by omega, op.kp, op.kn, op.kc, ?_, ?_⟩
    · have := cell 8 _ rfl
      simpa using this
    rw [w3]
    refine ⟨fun _ => ⟨rfl, false, rfl, fun h => by cases h⟩, fun hd => ?_⟩
    have hd := of_decide_eq_false hd
    rw [wrapS (by omega)]
    exact ih (i + 1) _ (by omega) (by omega) (by omega) (hall' (by omega))

theorem f9_ht (hr : ReadL H 9 OpV.cs q qn ops) (hb : ∀ o ∈ ops, OpRd H o) : HT Tryz.prog 9 [.slice q qn qc] H (smallPost H qn ops) := by
  apply f9_of
  refine ⟨fun _ => ⟨rfl, false, rfl, fun h => by cases h⟩, fun hd => ?_⟩
  have hd := of_decide_eq_false hd
  exact f9_L1_ht hr hb (by omega) qn 0 _ (by omega) (by omega) (by omega) (fun _ _ h => absurd h (by omega))

/-- All that is known is read-only. -/
def ghAll (H : Heap) : Gh := fun b => match H b with
  | none => none
  | some _ => some (0, 0)

theorem ghAll_ok (H : Heap) : GOk H (ghAll H) := fun b tg hb hn => by
  unfold ghAll at hb
  rw [hn] at hb
  cases hb

theorem ghAll_ro (H : Heap) : Ro H (ghAll H) := fun b o hb => by
  unfold ghAll
  rw [hb]

theorem OpRd.ok {o : OpV} (h : OpRd H o) (hl : o.dn ≤ 65536) : OpOk H o := ⟨h.at_, hl, h.data⟩

theorem f10a_ht (hG : Globs H) (hr : ReadL H 9 OpV.cs q qn ops) (hops : ∀ o ∈ ops, OpOk H o) (hqn : qn ≤ 65536) :
    HT Tryz.prog 10 [.slice q qn qc, .func (.func 32) #[] #[]] H fun v H' => v = .bool true ∧ Sub H H' := by
  apply f10a_of
  refine (f37_ht (ghAll_ok H)).mono fun v H1 ⟨F, g', esP, hv, hE, hW⟩ => ⟨_, hv, ?_⟩
  exact f10a_L1_ht (ghAll_ro H) hG hr hops hqn qn 0 H1 g' #[] #[] esH1 esP (by omega) hW hE

theorem f7_ht (hG : Globs H) (hr : ReadL H 9 OpV.cs q qn ops) (hops : ∀ o ∈ ops, OpRd H o) :
    HT Tryz.prog 7 [.slice q qn qc] H fun v H' => v = .bool true ∧ Sub H H' := by
  apply f7_of
  refine (f9_ht hr hops).mono fun v H1 ⟨hH, x, hv, hx⟩ => ⟨x, hv, ?_⟩
  subst hH
  refine ⟨fun _ => ⟨rfl, fun _ _ h => h⟩, fun hxt => ?_⟩
  have hx1 : x = true := by cases x <;> simp_all
  obtain ⟨hq, hl⟩ := hx hx1
  exact (f10a_ht hG hr (fun o ho => (hops o ho).ok (hl o ho)) hq).mono fun v H2 ⟨hv2, hs2⟩ => ⟨true, hv2, rfl, hs2⟩

end

end Go.Proofs.Qxb6500694aGreatDoor
