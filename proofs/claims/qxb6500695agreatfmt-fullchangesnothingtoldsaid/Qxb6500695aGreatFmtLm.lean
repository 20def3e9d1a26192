/-
  FULL CHANGES NOTHING, PART M: the law.
-/
import Derived.Test.Qxb6500695aGreatFmtLh
import Derived.Test.Qxb6500695aGreatFmtLi
import Derived.Test.Qxb6500695aGreatFmtLj
import Derived.Test.Qxb6500695aGreatFmtLk
import Derived.Test.Qxb6500695aGreatFmtLl
import Derived.Test.Qxb6500695aGreatFmtVu
namespace Go.Proofs.Qxb6500695aGreatFmt
open Go Go.Eng Go.Proofs
set_option maxRecDepth 100000
set_option linter.unusedVariables false
set_option linter.unusedSimpArgs false
set_option linter.unusedSectionVars false

/-- What the law needs of a writing step: a full one has changed nothing; and it is full just where it was beyond. -/
def FullR (ss ns cap : Nat) (E : Nat → Value) (op : OpV) (n : NdV) (e : Value) (n' : NdV) : Prop :=
  (e = E 1 → n' = ⟨n.pw.spend.1, n.D, n.s⟩ ∧ n.pw.spend.2 = true) ∧ ∀ over : Bool, byd ss ns cap op n over → e ≠ E 0 → (over = true ↔ e = E 1)

section
variable {S : Nat × Int → Prop} {H H' : Heap} {g g' q : Gh} {E : Nat → Value} {rb bd M : Nat} {nd : Nat → NdV} {op : OpV}

theorem E_ne2 (hA : ErA H g E) {a b : Nat} (ha : a < 9) (hb : b < 9) (h5 : a ≠ 5) (h6 : b ≠ 5) (hne : a ≠ b) : E a ≠ E b := fun h => hne (hA.inj ha hb h5 h6 h)

theorem E_nil (hA : ErA H g E) {a : Nat} (ha : a < 9) (h5 : a ≠ 5) : Value.nilIface ≠ E a := fun h => by
  obtain ⟨adr, h1, _⟩ := hA
  rw [(h1 a ha h5).1] at h
  cases h

theorem fe_ne (hA : ErA H g E) {nm : ByteArray} : fe E nm ≠ E 1 := by
  unfold fe
  split
  · exact E_ne2 hA (by decide) (by decide) (by decide) (by decide) (by decide)
  · exact E_ne2 hA (by decide) (by decide) (by decide) (by decide) (by decide)

theorem spend_up2 {P : Pw} (h : P.spend.2 = true) : P.down = false ∧ P.spend.1.down = false := by
  unfold Pw.spend at *
  split at h
  · cases h
  · rename_i hd
    have hd' : P.down = false := by simpa using hd
    rw [if_neg hd]
    split
    · rename_i ha
      rw [if_pos ha] at h
      split at h
      · cases h
      · rename_i hf
        rw [if_neg hf]
        exact ⟨hd', rfl⟩
    · exact ⟨hd', hd'⟩

theorem dxR.full {ss ns cap : Nat} {n : NdV} {e : Value} {D' : Pl} (hA : ErA H g E) (hkd : op.kd = 0) (h : dxR ss ns E n.pw n.D op.off op.data.length e D') : FullR ss ns cap E op n e ⟨n.pw.spend.1, D', n.s⟩ := by
  have n1 : Value.nilIface ≠ E 1 := E_nil hA (by decide) (by decide)
  have n31 : E 3 ≠ E 1 := E_ne2 hA (by decide) (by decide) (by decide) (by decide) (by decide)
  have n01 : E 0 ≠ E 1 := E_ne2 hA (by decide) (by decide) (by decide) (by decide) (by decide)
  have hb : ∀ {over : Bool}, byd ss ns cap op n over → 0 ≤ op.off ∧ (over = true ↔ op.off > ((ns * ss : Nat) : Int) - (op.data.length : Int)) := fun hb => by
    rcases hb with ⟨_, h1, h2⟩ | ⟨h, _⟩ | ⟨h, _⟩ | ⟨h, _⟩
    · exact ⟨h1, h2⟩
    all_goals rw [hkd] at h; simp at h
  rcases h with ⟨hs, rfl, rfl⟩ | ⟨hs, ⟨hneg, rfl, rfl⟩ | ⟨hpos, hbig, rfl, rfl⟩ | ⟨hpos, hbig, rfl⟩⟩
  · exact ⟨fun h => absurd h n01, fun over _ hne => absurd rfl hne⟩
  · exact ⟨fun h => absurd h n31, fun over ho hne => by have := (hb ho).1; omega⟩
  · exact ⟨fun _ => ⟨rfl, hs⟩, fun over ho hne => ⟨fun _ => rfl, fun _ => (hb ho).2.2 hbig⟩⟩
  · exact ⟨fun h => absurd h n1, fun over ho hne => ⟨fun h => absurd ((hb ho).2.1 h) hbig, fun h => absurd h n1⟩⟩

theorem tup2 {m m' : Int} {e e' : Value} (h : Value.tuple #[.int .i64 m, e] = .tuple #[.int .i64 m', e']) : e = e' := by
  have h9 := Value.tuple.inj h
  simp at h9
  exact h9.2

theorem StepR.full {ss ns cap : Nat} {n n' : NdV} {e : Value} {m : Int} {tr : List Ask} (hA : ErA H g E) (hkd : op.kd = 4 ∨ op.kd = 5 ∨ op.kd = 6) (h : StepR E ss ns cap op n e m n' tr) : FullR ss ns cap E op n e n' := by
  have n1 : Value.nilIface ≠ E 1 := E_nil hA (by decide) (by decide)
  have n31 : E 3 ≠ E 1 := E_ne2 hA (by decide) (by decide) (by decide) (by decide) (by decide)
  have n01 : E 0 ≠ E 1 := E_ne2 hA (by decide) (by decide) (by decide) (by decide) (by decide)
  have nf : ∀ {nm}, fe E nm ≠ E 1 := fe_ne hA
  cases h using StepR.ind with
  | write p0 h =>
    have hb : ∀ {over : Bool}, byd ss ns cap op n over → 0 ≤ op.off ∧ ∃ b, fnd n.s op.nm = some b ∧ (over = true ↔ putF ss cap n.s b op.off.toNat op.data = none) := fun hb => by
      rcases hb with ⟨h, _⟩ | ⟨_, h1, h2⟩ | ⟨h, _⟩ | ⟨h, _⟩
      · rw [p0] at h; simp at h
      · exact ⟨h1, h2⟩
      · rw [p0] at h; simp at h
      · rw [p0] at h; simp at h
    rcases h with ⟨hs, hv, rfl⟩ | ⟨hs, ⟨hf, hv, rfl⟩ | ⟨b, hf, ⟨hneg, hv, rfl⟩ | ⟨hpos, ⟨hp, hv, rfl⟩ | ⟨hp, hv⟩⟩⟩⟩
    · obtain rfl := tup2 hv
      exact ⟨fun h => absurd h n01, fun over _ hne => absurd rfl hne⟩
    · obtain rfl := tup2 hv
      exact ⟨fun h => absurd h nf, fun over ho hne => by obtain ⟨_, b, hf', _⟩ := hb ho; rw [hf] at hf'; cases hf'⟩
    · obtain rfl := tup2 hv
      exact ⟨fun h => absurd h n31, fun over ho hne => by have := (hb ho).1; omega⟩
    · obtain rfl := tup2 hv
      refine ⟨fun _ => ⟨rfl, hs⟩, fun over ho hne => ⟨fun _ => rfl, fun _ => ?_⟩⟩
      obtain ⟨_, b', hf', hx⟩ := hb ho
      rw [hf] at hf'
      cases hf'
      exact hx.2 hp
    · obtain rfl := tup2 hv
      refine ⟨fun h => absurd h n1, fun over ho hne => ⟨fun h => ?_, fun h => absurd h n1⟩⟩
      obtain ⟨_, b', hf', hx⟩ := hb ho
      rw [hf] at hf'
      cases hf'
      rw [hx.1 h] at hp
      cases hp
  | append p0 h =>
    have hb : ∀ {over : Bool}, byd ss ns cap op n over → ∃ b, fnd n.s op.nm = some b ∧ (over = true ↔ putF ss cap n.s b (n.s.O b).size op.data = none) := fun hb => by
      rcases hb with ⟨h, _⟩ | ⟨h, _⟩ | ⟨_, h2⟩ | ⟨h, _⟩
      · rw [p0] at h; simp at h
      · rw [p0] at h; simp at h
      · exact h2
      · rw [p0] at h; simp at h
    rcases h with ⟨hs, hv, rfl⟩ | ⟨hs, ⟨hf, hv, rfl⟩ | ⟨b, hf, ⟨hp, hv, rfl⟩ | ⟨hp, hv⟩⟩⟩
    · obtain rfl := tup2 hv
      exact ⟨fun h => absurd h n01, fun over _ hne => absurd rfl hne⟩
    · obtain rfl := tup2 hv
      exact ⟨fun h => absurd h nf, fun over ho hne => by obtain ⟨b, hf', _⟩ := hb ho; rw [hf] at hf'; cases hf'⟩
    · obtain rfl := tup2 hv
      refine ⟨fun _ => ⟨rfl, hs⟩, fun over ho hne => ⟨fun _ => rfl, fun _ => ?_⟩⟩
      obtain ⟨b', hf', hx⟩ := hb ho
      rw [hf] at hf'
      cases hf'
      exact hx.2 hp
    · obtain rfl := tup2 hv
      refine ⟨fun h => absurd h n1, fun over ho hne => ⟨fun h => ?_, fun h => absurd h n1⟩⟩
      obtain ⟨b', hf', hx⟩ := hb ho
      rw [hf] at hf'
      cases hf'
      rw [hx.1 h] at hp
      cases hp
  | trunc p0 h =>
    have hb : ∀ {over : Bool}, byd ss ns cap op n over → 0 ≤ op.n ∧ ∃ b, fnd n.s op.nm = some b ∧ (over = true ↔ truncF ss cap n.s b op.n.toNat = none) := fun hb => by
      rcases hb with ⟨h, _⟩ | ⟨h, _⟩ | ⟨h, _⟩ | ⟨_, h1, h2⟩
      · rw [p0] at h; simp at h
      · rw [p0] at h; simp at h
      · rw [p0] at h; simp at h
      · exact ⟨h1, h2⟩
    rcases h with ⟨hs, rfl, rfl⟩ | ⟨hs, ⟨hf, rfl, rfl⟩ | ⟨b, hf, ⟨hneg, rfl, rfl⟩ | ⟨hpos, ⟨hp, rfl, rfl⟩ | ⟨hp, rfl⟩⟩⟩⟩
    · exact ⟨fun h => absurd h n01, fun over _ hne => absurd rfl hne⟩
    · exact ⟨fun h => absurd h nf, fun over ho hne => by obtain ⟨_, b, hf', _⟩ := hb ho; rw [hf] at hf'; cases hf'⟩
    · exact ⟨fun h => absurd h n31, fun over ho hne => by have := (hb ho).1; omega⟩
    · refine ⟨fun _ => ⟨rfl, hs⟩, fun over ho hne => ⟨fun _ => rfl, fun _ => ?_⟩⟩
      obtain ⟨_, b', hf', hx⟩ := hb ho
      rw [hf] at hf'
      cases hf'
      exact hx.2 hp
    · refine ⟨fun h => absurd h n1, fun over ho hne => ⟨fun h => ?_, fun h => absurd h n1⟩⟩
      obtain ⟨_, b', hf', hx⟩ := hb ho
      rw [hf] at hf'
      cases hf'
      rw [hx.1 h] at hp
      cases hp
  | other p0 => exact absurd rfl (p0 4 (by decide) |> fun h4 => fun _ => by rcases hkd with h | h | h; exact h4 h; exact p0 5 (by decide) h; exact p0 6 (by decide) h)
  | dwsec p0 h => omega
  | dwrite p0 h => omega
  | dread p0 => omega
  | dsync p0 h => omega
  | create p0 h => omega
  | read p0 h => omega
  | stat p0 => omega
  | list p0 => omega
  | sync p0 h => omega
  | syncDir p0 h => omega
  | syncAll p0 h => omega
  | rename p0 h => omega
  | delete p0 h => omega
  | publish p0 h => omega
  | burst p0 h => omega
  | arm p0 => omega
  | crash p0 h => omega

theorem Rig.mono {bd' M' : Nat} (h : Rig H g E rb bd M nd) (hb : bd ≤ bd') (hM : M ≤ M') (hM2 : M' < 2 ^ 28) : Rig H g E rb bd' M' nd :=
  ⟨h.ok, h.gl, h.rk.mono hb, fun k hk => (h.inv k hk).mono hM hM2, h.jt⟩

/-- A writing step, with what the law needs. -/
theorem f20x_ht (hkd : op.kd = 0 ∨ op.kd = 4 ∨ op.kd = 5 ∨ op.kd = 6) (R : Rig H g E rb bd M nd) (hM : M + 4 < 2 ^ 28) (hbd : bd + 160 < 2 ^ 31) (hop : OpOk H g op) (hA : ErA H g E) :
    HT Tryz.prog 20 [.pointer (some ⟨rb, 0, none⟩), .agg #[.int .u8 op.kd, .int .i64 op.node, .string op.nm, .string op.to, .int .i64 op.off, .int .i64 op.n, .slice op.dp op.dn op.dc, .slice op.pp op.pn op.pc], .nilIface] H fun v H' =>
      ∃ G g', (∃ (e : Value) (m : Int) (dp : Option Addr) (dn dc : Nat) (np : Option Addr) (nn nc : Nat) (i1 i2 i3 i4 : Int) (n' : NdV), v = ansV e m dp dn dc np nn nc i1 i2 i3 i4 ∧ errV E e ∧ RkR G g' rb (bd + 80) (ndset nd (nodeOf op.node) n') ∧
        FullR (shS (nodeOf op.node)) (shN (nodeOf op.node)) (shC (nodeOf op.node)) E op (nd (nodeOf op.node)) e n' ∧ StI (shS (nodeOf op.node)) (shC (nodeOf op.node)) (M + 4) n'.s ∧ JrT n'.s) ∧ Sub G H' ∧ Ev (SpK (nodeOf op.node : Int)) H g H' g' ∧ Ev (fun _ => False) G g' H' g' ∧ Fp H g H' g' := by
  have er : Ev (fun _ => False) H g (restr H g) g := restr_ev R.ok
  have Rr := R.off er none_offN
  have hk3 := nodeOf_lt op.node
  refine HT.fr (R := fun v G g' => ∃ (e : Value) (m : Int) (dp : Option Addr) (dn dc : Nat) (np : Option Addr) (nn nc : Nat) (i1 i2 i3 i4 : Int) (n' : NdV), v = ansV e m dp dn dc np nn nc i1 i2 i3 i4 ∧ errV E e ∧ RkR G g' rb (bd + 80) (ndset nd (nodeOf op.node) n') ∧
        FullR (shS (nodeOf op.node)) (shN (nodeOf op.node)) (shC (nodeOf op.node)) E op (nd (nodeOf op.node)) e n' ∧ StI (shS (nodeOf op.node)) (shC (nodeOf op.node)) (M + 4) n'.s ∧ JrT n'.s) R.ok ?_
  rcases hkd with hkd | hkd
  · refine (f20d_ht hkd Rr.ok Rr.gl Rr.rk Rr.inv hbd (hop.ev er (fun h => h))).mono fun v G ⟨g', e1, e, m, dp, dn, dc, np, nn, nc, i1, i2, i3, i4, D', hv, he, r1, hx⟩ => ?_
    exact ⟨g', e1, e, m, dp, dn, dc, np, nn, nc, i1, i2, i3, i4, _, hv, he, r1, hx.full hA hkd, (R.inv _ hk3).mono (by omega) hM, R.jt _ hk3⟩
  · refine (f20_ht Rr.ok Rr.gl Rr.rk Rr.inv hM hbd (hop.ev er (fun h => h))).mono fun v G ⟨e, m, dp, dn, dc, np, nn, nc, i1, i2, i3, i4, n', tr, g', hv, he, e1, r1, hstep⟩ => ?_
    exact ⟨g', e1, e, m, dp, dn, dc, np, nn, nc, i1, i2, i3, i4, n', hv, he, r1, hstep.full hA hkd, hstep.inv (R.inv _ hk3) hM, hstep.jt (R.inv _ hk3) (R.jt _ hk3)⟩

end

end Go.Proofs.Qxb6500695aGreatFmt
