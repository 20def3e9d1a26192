/-
  THE DIRECTORY, PART C: commit.
-/
import Derived.Test.Qxb6500695aGreatFmtWb
namespace Go.Proofs.Qxb6500695aGreatFmt
open Go Go.Eng Go.Proofs
set_option maxRecDepth 100000
set_option linter.unusedVariables false
set_option linter.unusedSimpArgs false
set_option linter.unusedSectionVars false

def Pt.cs (b : Nat) : List Value := [.pointer (oP (some b))]
theorem Pt.size (b : Nat) : (Pt.cs b).length = 1 := rfl

/-- The objects that a journal took out of sight. -/
def vics (jr : List Jr) : List Nat := jr.filterMap Jr.vic

def SpG (k : Int) (tg : Nat × Int) : Prop := SpD k tg ∨ tg = (41, 0)

section
variable {S : Nat × Int → Prop} {H H' : Heap} {g g' : Gh} {k : Int} {db r : Nat} {m st : NM} {xs : List ByteArray} {jr : List Jr} {nm : ByteArray}

theorem take_succ {α : Type} {l : List α} {i : Nat} (h : i < l.length) : l.take (i + 1) = l.take i ++ [l[i]] := by
  rw [List.take_add_one, List.getElem?_eq_getElem h]
  rfl

def comPost (H0 : Heap) (g0 : Gh) (k : Int) (db : Nat) (m : NM) (xs : List ByteArray) (st : NM) (jr : List Jr) (v : Value) (H' : Heap) : Prop :=
  ∃ p n c g', v = .slice p n c ∧ Ev (SpG k) H0 g0 H' g' ∧ OwnT H' g' (41, 0) 152 1 Pt.cs p n c (vics jr) ∧ DirR H' g' k db m xs (redoN jr st) []

theorem f139_L1_ht {H0 : Heap} {g0 : Gh} {jp : Option Addr} {jn jc : Nat} (hjb : jr.length < 2 ^ 32) :
    ∀ (d i : Nat) (H : Heap) (g : Gh) (p : Option Addr) (n c : Nat), jr.length - i = d → i ≤ jr.length → Ev (SpG k) H0 g0 H g → OwnT H g (41, 0) 152 1 Pt.cs p n c (vics (jr.take i)) → DirR H g k db m xs (redoN (jr.take i) st) jr →
      OwnT H g (25, k) 271 5 Jr.cs jp jn jc jr → f139_L1 (some ⟨db, 0, none⟩) p n c jp jn jc (jn : Int) (i : Int) H (comPost H0 g0 k db m xs st jr) := by
  intro d
  induction d with
  | zero =>
    intro i H g p n c hd hi hE hgo hD hJ
    have hlen := hJ.own.len
    have hil : i = jr.length := by omega
    subst hil
    rw [List.take_length] at hgo hD
    apply f139_L1_of
    refine ⟨fun h => by have := of_decide_eq_true h; omega, fun _ => ?_⟩
    obtain ⟨lr, op, on, oc, sr, jp', jn', jc', h1, h2, h3, h4, h5, h6, h7⟩ := hD.ex
    refine ⟨db, 0, rfl, _, _, h1, by simp, fun H1 hw => ?_⟩
    have hw' : Wr H db (.cells #[.map (some lr), .slice op on oc, .map (some sr), .slice none 0 0] 171 (0, 0)) H1 := hw
    have e1 : Ev (fun tg => tg = (21, k)) H g H1 g := dirWr hE.ok hD.tag rfl hw'
    exact ⟨p, n, c, g, rfl, hE.trans (e1.mono fun tg h => .inl (by rw [h]; exact ⟨rfl, by simp, by simp⟩)), hgo.ev e1 (fun h => by cases h), hD.tag, lr, op, on, oc, sr, none, 0, 0, hw'.same, h2, h3.ev h2 e1 (ntag (by decide)), h4.ev e1 (ntag (by decide)), h5, h6.ev h5 e1 (ntag (by decide)), OwnT.nil Jr.size⟩
  | succ d ih =>
    intro i H g p n c hd hi hE hgo hD hJ
    have hlen := hJ.own.len
    have hil : i < jr.length := by omega
    apply f139_L1_of
    refine ⟨fun _ => ?_, fun h => by have := of_decide_eq_false h; omega⟩
    obtain ⟨b, o, hp, hc⟩ := hJ.own.cells (i := i) hil
    have hvl : (vics (jr.take i)).length ≤ jr.length := by
      unfold vics
      refine Nat.le_trans (List.length_filterMap_le _ _) ?_
      rw [List.length_take]
      exact Nat.min_le_right _ _
    have hgl := hgo.own.len
    refine ⟨b, o, hp, by omega, by omega, jr[i].ch, jr[i].name, jr[i].to, oP (some jr[i].ob), oP jr[i].vic, by simpa [Jr.cs] using hc, fun _ => ?_⟩
    refine (f184_ht hE.ok hD jr[i]).mono fun v H1 ⟨hv, e1, d1⟩ => ⟨hv, _, binIs_ptr_neq Tryz.underlying152, ?_⟩
    have hwi : IntKind.wrap .i64 ((i : Int) + 1) = ((i + 1 : Nat) : Int) := wrapS (by omega)
    have hst : redo jr[i] (redoN (jr.take i) st) = redoN (jr.take (i + 1)) st := by
      rw [take_succ hil, redoN_append]
      rfl
    rw [hst] at d1
    have hvs : vics (jr.take (i + 1)) = vics (jr.take i) ++ (jr[i].vic).toList := by
      unfold vics
      rw [take_succ hil, List.filterMap_append]
      congr 1
    have g1 := hgo.ev e1 (fun h => by cases h)
    have J1 := hJ.ev e1 (ntag (by decide))
    have E1 := hE.trans (e1.mono fun tg h => .inl (sp24 h))
    refine ⟨fun hx => ?_, fun hx => ?_⟩
    · obtain ⟨vb, hvb⟩ : ∃ vb, jr[i].vic = some vb := by
        cases hc : jr[i].vic with
        | none => rw [hc] at hx; simp [oP] at hx
        | some vb => exact ⟨vb, rfl⟩
      rw [hvb]
      intro ab H2 ha
      have hi152 : Tryz.prog.info? 152 = some Tryz.t152 := by kernel_rfl
      refine appT (S := fun tg => tg = (41, 0)) (inf := Tryz.t152) (zero := .pointer none) (x := vb) (enc := Pt.cs) Tryz.underlying234 hi152 rfl rfl (by decide) rfl ha rfl (by intro v hv; simp [Pt.cs] at hv; subst hv; rfl) e1.ok g1 rfl (by omega) fun p' c' H3 g3 hpn e3 o3 _ => ⟨p', _, c', rfl, ?_⟩
      apply f139_L2_of
      unfold f139_L2_pre
      rw [hwi]
      have n41 : ∀ {j : Nat} {z : Int}, j ≠ 41 → ¬ ((fun tg : Nat × Int => tg = (41, 0)) (j, z)) := fun hj h => hj (by simp at h; exact h.1)
      refine ih (i + 1) H3 g3 p' (n + 1) c' (by omega) (by omega) (E1.trans (e3.mono fun tg h => .inr h)) ?_ (d1.ev e3 fun tg ht hx => ?_) (J1.ev e3 (n41 (by decide)))
      · rw [hvs, hvb]
        exact o3
      · rw [hx] at ht
        have := ht.2.2
        simp at this
    · have hvb : jr[i].vic = none := by
        cases hc : jr[i].vic with
        | none => rfl
        | some vb => rw [hc] at hx; simp [oP] at hx
      apply f139_L2_of
      unfold f139_L2_pre
      rw [hwi]
      refine ih (i + 1) H1 g p n c (by omega) (by omega) E1 ?_ d1 J1
      rw [hvs, hvb]
      simpa using g1

theorem f139_ht (hg : GOk H g) (h : DirR H g k db m xs st jr) (hjb : jr.length < 2 ^ 32) : HT Tryz.prog 139 [.pointer (some ⟨db, 0, none⟩)] H (comPost H g k db m xs st jr) := by
  obtain ⟨lr, op, on, oc, sr, jp, jn, jc, h1, h2, h3, h4, h5, h6, h7⟩ := h.ex
  apply f139_of
  exact ⟨db, 0, rfl, jp, jn, jc, Cells.of h1 rfl, f139_L1_ht hjb _ 0 H g none 0 0 rfl (Nat.zero_le _) (Ev.refl hg) (OwnT.nil Pt.size) h h7⟩

end

end Go.Proofs.Qxb6500695aGreatFmt
