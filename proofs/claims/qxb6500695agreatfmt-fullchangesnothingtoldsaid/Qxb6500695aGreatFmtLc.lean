/-
  FULL CHANGES NOTHING, PART C: views.
-/
import Derived.Test.Qxb6500695aGreatFmtLb
import Derived.Test.Qxb6500695aGreatFmtPi
import Derived.Test.Qxb6500695aGreatFmtQg
import Derived.Test.Qxb6500695aGreatFmtVs
namespace Go.Proofs.Qxb6500695aGreatFmt
open Go Go.Eng Go.Proofs
set_option maxRecDepth 100000
set_option linter.unusedVariables false
set_option linter.unusedSimpArgs false
set_option linter.unusedSectionVars false

/-- All that can be seen of a node, laid into blocks that were free before. -/
def ViewIs (H0 H : Heap) (ss ns : Nat) (n : NdV) (v : Value) : Prop :=
  (n.pw.down = true ∧ v = .agg #[.bool true, .slice none 0 0, .slice none 0 0, .int .i64 n.s.used]) ∨
  (n.pw.down = false ∧ ∃ db arr ip inn ic ims, v = .agg #[.bool false, .slice (some ⟨db, 0, none⟩) (ns * ss) (ns * ss), .slice ip inn ic, .int .i64 n.s.used] ∧ H0 db = none ∧ H db = some (.cells arr 5 (0, 0)) ∧ arr.toList = ((rdF ss n.D (ns * ss) 0 (ns * ss)).map fun x => .int .u8 x) ∧ arr.size = ns * ss ∧
    New H0 ip ∧ OwnL H 199 6 Im.cs ip inn ic ims ∧ ims.length = n.s.xs.length ∧ ∀ i (h : i < ims.length) (hx : i < n.s.xs.length), ImX H0 H ss n.s n.s.xs[i] ims[i])

section
variable {S : Nat × Int → Prop} {H H' : Heap} {g g' : Gh} {k e z : Int} {nb dvb sb ss ns cap bd pwb N : Nat} {s : StV} {n f : NdV} {E : Nat → Value}

theorem ViewIs.mv {H0 G : Heap} {v : Value} (h : ViewIs H0 H ss ns n v) (hk : ∀ b o, H0 b = none → H b = some o → G b = some o) : ViewIs H0 G ss ns n v := by
  rcases h with h | ⟨hd, db, arr, ip, inn, ic, ims, h1, h2, h3, h4, hsz, h5, h6, h7, h8⟩
  · exact .inl h
  · refine .inr ⟨hd, db, arr, ip, inn, ic, ims, h1, h2, hk _ _ h2 h3, h4, hsz, h5, h6.keep fun a ha => ?_, h7, fun i hi hx => (h8 i hi hx).mv fun b arr hb0 hb => hk _ _ hb0 hb⟩
    rcases h6.own with ⟨hp0, _⟩ | ⟨b9, o9, arr9, hp9, hb9, _⟩
    · rw [hp0] at ha; cases ha
    · rw [hp9] at ha
      cases ha
      rw [hb9]
      exact hk _ _ (h5 _ hp9) hb9

theorem ImX.base {H0 H1 : Heap} {nm : ByteArray} {i : Im} (h : ImX H0 H ss s nm i) (hk : ∀ b, H0 b = none → H1 b = none) : ImX H1 H ss s nm i := by
  obtain ⟨h1, b, nb, arr, a1, a2, a3, a4, a5, a6, a7, a8, a9, a10, a11⟩ := h
  exact ⟨h1, b, nb, arr, a1, a2, a3, a4, a5, a6, a7, a8, hk _ a9, a10, a11⟩

theorem f57_L1_ht {H3 : Heap} {R : Value → Heap → Prop} {x2_0 : Bool} {x2_1 : Option Addr} {x2_1n x2_1c : Nat} {x2_2 : Option Addr} {x2_2n x2_2c : Nat} {x2_3 : Int} {v0 : Bool} {v1 : Option Addr} {v1n v1c : Nat} {u : Int} {p : Option Addr} {m c : Nat} {ims : List Im} (hims : OwnL H3 103 6 Im.cs p m c ims) (hm : m < 2 ^ 31)
    (hR : ∀ ip inn ic h, Sub H3 h → New H3 ip → OwnL h 199 6 Im.cs ip inn ic ims → R (.agg #[.bool v0, .slice v1 v1n v1c, .slice ip inn ic, .int .i64 u]) h) :
    ∀ (d i : Nat) (h : Heap) (ip : Option Addr) (inn ic : Nat), ims.length - i = d → i ≤ ims.length → Sub H3 h → New H3 ip → OwnL h 199 6 Im.cs ip inn ic (ims.take i) →
      f57_L1 x2_0 x2_1 x2_1n x2_1c x2_2 x2_2n x2_2c x2_3 v0 v1 v1n v1c ip inn ic u p m c (m : Int) (i : Int) h R := by
  have hlen := hims.len
  intro d
  induction d with
  | zero =>
    intro i h ip inn ic hd hi hs hn ho
    have : i = ims.length := by omega
    apply f57_L1_of
    refine ⟨fun hx => by have := of_decide_eq_true hx; omega, fun _ => ?_⟩
    rw [this, List.take_length] at ho
    exact hR _ _ _ _ hs hn ho
  | succ d ih =>
    intro i h ip inn ic hd hi hs hn ho
    have hil : i < ims.length := by omega
    apply f57_L1_of
    refine ⟨fun _ => ?_, fun hx => by have := of_decide_eq_false hx; omega⟩
    obtain ⟨b, o, hp, hc⟩ := hims.cells (i := i) hil
    have hc' := hs.cells hc
    have hlen2 := ho.len
    rw [List.length_take] at hlen2
    have hi199 : Tryz.prog.info? 199 = some Tryz.t199 := by kernel_rfl
    refine ⟨b, o, hp, by omega, by omega, _, _, _, _, _, _, _, _, hc', fun _ b61 h1 ha => ?_⟩
    refine app1 (H0 := H3) (inf := Tryz.t199) (zero := .agg #[.string ⟨#[]⟩, .int .u64 0, .int .i64 0, .int .i64 0, .int .i64 0, .slice none 0 0]) (x := ims[i]) (enc := Im.cs) Tryz.underlying114 hi199 (by kernel_rfl) rfl (by decide) rfl ha rfl (by intro v hv; simp [Im.cs] at hv; rcases hv with rfl | rfl | rfl | rfl | rfl | rfl <;> rfl) ho (by omega) hs hn fun p' c' H5 a1 a2 a3 a4 => ⟨p', _, c', rfl, ?_⟩
    rw [wrapS (by omega)]
    refine ih (i + 1) H5 p' (inn + 1) c' (by omega) (by omega) a1 a2 ?_
    rw [List.take_add_one, List.getElem?_eq_getElem hil]
    exact a3

theorem f57_ht (hg : GOk H g) (hG : Gl H g E) (h : NdR H g k nb pwb dvb sb ss ns cap bd n) (hI : StI ss cap N n.s) (hbd : bd < 2 ^ 31) :
    HT Tryz.prog 57 [.pointer (some ⟨nb, 0, none⟩)] H fun v H' => Ev (fun tg => tg = (27, k)) H g H' g ∧ NdR H' g k nb pwb dvb sb ss ns cap bd n ∧ ViewIs H H' ss ns n v ∧ ∀ x, H x ≠ none → x ≠ dvb → H' x = H x := by
  have hl' := hI.len
  apply f57_of
  intro _
  refine (f31_ht h.nd h.pw).mono fun v H1 ⟨he1, hv1⟩ => ⟨_, hv1, ?_⟩
  subst he1
  refine (f17_ht h.nd).mono fun v H2 ⟨he2, hv2⟩ => ⟨_, hv2, ?_⟩
  subst he2
  refine (f46_ht h.st).mono fun v H3 ⟨he3, hv3⟩ => ⟨_, hv3, fun _ => ⟨fun hd => ?_, fun hd => ?_⟩⟩
  · subst he3
    rw [hd]
    exact ⟨Ev.refl hg, h, .inl ⟨hd, rfl⟩, fun _ _ _ => rfl⟩
  · subst he3
    have hm : ns * ss ≤ 12 * 16 := by
      obtain ⟨plb, q, k1, pl1⟩ := h.dv.ex
      exact Nat.mul_le_mul pl1.nsb pl1.ssb.2
    refine (f13_ht h.nd).mono fun v H4 ⟨he4, hv4⟩ => ⟨_, hv4, ?_⟩
    subst he4
    refine (f100_ht h.dv).mono fun v H5 ⟨he5, hv5⟩ => ⟨_, hv5, ?_⟩
    subst he5
    refine semOk_make (T := 5) (inf := Tryz.t5) (z := .int .u8 0) (l := ns * ss) (c := ns * ss) Tryz.underlying35 (by kernel_rfl) (by kernel_rfl) rfl rfl (Nat.le_refl _) (by omega) (by decide) fun db H6 ha6 => ⟨_, _, _, rfl, ?_⟩
    have e6 : Ev (fun _ => False) H5 g H6 g := Ev.sub hg ha6.sub
    have h6 := h.off e6 none_offN
    have G6 := hG.ev e6 (fun h => h)
    have hgb := GOk.fresh hg ha6.fresh
    refine (f13_ht h6.nd).mono fun v H7 ⟨he7, hv7⟩ => ⟨_, hv7, ?_⟩
    subst he7
    refine (f63x_ht e6.ok G6 h6.dv h6.pw hd hbd hgb ha6.same rfl (by simp)).mono fun v H8 ⟨hv8, e8, d8, p8, ⟨arr', hb8, harr, hasz⟩, hk8⟩ => ⟨_, _, hv8, ?_⟩
    have S27 : ¬ (fun tg : Nat × Int => tg = (27, k)) (0, 0) := fun hc => by cases hc
    have s8 : StR H8 g k sb ss cap bd pwb n.s := h6.st.off e8 fun tg ht hc => by have ht' : tg = (27, k) := ht; rw [ht'] at hc; simp at hc
    have nd8 := h6.nd.ev e8 (fun hc => by simp at hc)
    have G8 := G6.ev e8 S27
    have h8 : NdR H8 g k nb pwb dvb sb ss ns cap bd n := ⟨nd8, p8, d8, s8⟩
    have dom : ∀ x, H8 x = none → H5 x = none := fun x hx => by
      have hxb : x ≠ db := fun hc => by rw [hc, hb8] at hx; cases hx
      have hxd : x ≠ dvb := fun hc => by
        obtain ⟨plb, q, k9, _⟩ := d8.ex
        rw [hc, k9] at hx; cases hx
      have := hk8 x hxb hxd
      rw [hx] at this
      cases hc : H5 x with
      | none => rfl
      | some o => rw [ha6.keep hc] at this; cases this
    refine errK G8 (.inl rfl) (fun hne => absurd rfl hne) fun _ => ?_
    refine (f17_ht nd8).mono fun v H9 ⟨he9, hv9⟩ => ⟨_, hv9, ?_⟩
    subst he9
    refine (f49x_ht e8.ok G8 s8 p8 (hI.toN hbd) hI.mem hI.mT (by omega) hd).mono fun v H10 ⟨s10, p, m, c, ims, hv10, hnew, hims, hil, him⟩ => ⟨p, m, c, _, hv10, ?_⟩
    have e10 : Ev (fun _ => False) H9 g H10 g := Ev.sub e8.ok s10
    have G10 := G8.ev e10 (fun h => h)
    refine errK G10 (.inl rfl) (fun hne => absurd rfl hne) fun _ b44 H11 ha11 => ?_
    have hml := hims.len
    refine f57_L1_ht hims (by omega) (fun ip inn ic G hs hn ho => ?_) ims.length 0 H11 _ 0 0 rfl (Nat.zero_le _) ha11.sub (fun a ha => by cases ha; exact ha11.fresh) ⟨rfl, Im.sz, .inr ⟨b44, 0, #[], rfl, ha11.same, Nat.zero_le _, by simp, by simp⟩⟩
    · have sG : Sub H9 G := fun x o hx => hs _ _ (s10 _ _ hx)
      have eG : Ev (fun tg => tg = (27, k)) H9 g G g := Ev.sub e8.ok sG
      refine ⟨((e6.mono fun _ h => h.elim).trans e8).trans eG, h8.off (Ev.sub (S := fun _ => False) e8.ok sG) none_offN, .inr ⟨hd, db, arr', ip, inn, ic, ims, by rw [hd], ha6.fresh, sG _ _ hb8, harr, hasz, fun a ha => ?_, ho, hil, fun i hi hx => ?_⟩, fun x hx hxd => ?_⟩
      · refine dom _ ?_
        have := hn a ha
        cases hc : H9 a.block with
        | none => rfl
        | some o => rw [s10 _ _ hc] at this; cases this
      · exact ((him i hi hx).mv fun b arr _ hb => hs _ _ hb).base dom
      · have hxb : x ≠ db := fun hc => hx (by rw [hc]; exact ha6.fresh)
        cases hc : H5 x with
        | none => exact absurd hc hx
        | some o => exact sG _ _ (by rw [hk8 x hxb hxd]; exact ha6.keep hc)

theorem binIs_bool_neq {a b : Bool} {x y : Operand} : BinIs Tryz.prog .neq 4 x y (.bool a) (.bool b) (.bool (a != b)) := by
  cases a <;> cases b <;> (intro w; kernel_rfl)

theorem part52a (a b c d : Int) (w : World) : (part 50 #[.int .u64 a, .int .i64 b, .int .i64 c, .int .i64 d] 0).run Tryz.prog w = .ok (.int .u64 a) w := by kernel_rfl
theorem part52b (a b c d : Int) (w : World) : (part 2 #[.int .u64 a, .int .i64 b, .int .i64 c, .int .i64 d] 1).run Tryz.prog w = .ok (.int .i64 b) w := by kernel_rfl
theorem part52c (a b c d : Int) (w : World) : (part 2 #[.int .u64 a, .int .i64 b, .int .i64 c, .int .i64 d] 2).run Tryz.prog w = .ok (.int .i64 c) w := by kernel_rfl
theorem part52d (a b c d : Int) (w : World) : (part 3 #[.int .u64 a, .int .i64 b, .int .i64 c, .int .i64 d] 3).run Tryz.prog w = .ok (.int .i64 d) w := by kernel_rfl

theorem eq52 (a b c d : Int) (w : World) : (Op.equal 52 (.agg #[.int .u64 a, .int .i64 b, .int .i64 c, .int .i64 d]) (.agg #[.int .u64 a, .int .i64 b, .int .i64 c, .int .i64 d])).run Tryz.prog w = .ok true w := by
  have hS : Tryz.prog.underlying 52 = some (.struct (Tryz.prog.fieldsOf 52)) := by kernel_rfl
  have hp : Tryz.prog.stoodInHeld 52 = false := by kernel_rfl
  show (Op.equalIn (9999 + 1) 52 (.agg #[.int .u64 a, .int .i64 b, .int .i64 c, .int .i64 d]) (.agg #[.int .u64 a, .int .i64 b, .int .i64 c, .int .i64 d])).run Tryz.prog w = _
  rw [run_equalIn_struct w 9999 52 _ _ hS hp]
  simp only [Program.fieldsOf, Tryz.underlying52]
  simp [Op.eqFields, Sem.run_bind, part52a, part52b, part52c, part52d, Result.andThen_ok, run_equalIn_int w 9998 50 .u64 .u64 a a Tryz.underlying50, run_equalIn_int w 9998 2 .i64 .i64 b b Tryz.underlying2, run_equalIn_int w 9998 2 .i64 .i64 c c Tryz.underlying2, run_equalIn_int w 9998 3 .i64 .i64 d d Tryz.underlying3]

theorem neq52 {a b c d : Int} {x y : Operand} : BinIs Tryz.prog .neq 52 x y (.agg #[.int .u64 a, .int .i64 b, .int .i64 c, .int .i64 d]) (.agg #[.int .u64 a, .int .i64 b, .int .i64 c, .int .i64 d]) (.bool false) := by
  intro w
  have h := eq52 a b c d w
  simp [eqGuard, binOp, h]

theorem src_of {b : Nat} {arr : Array Value} {T : TypeId} {bs : List Int} {n : Nat} (hb : H b = some (.cells arr T (0, 0))) (ha : arr.toList = bs.map fun x => .int .u8 x) (hn : n = bs.length) : Src H (some ⟨b, 0, none⟩) n n bs :=
  ⟨hn, Nat.le_refl _, .inr ⟨b, 0, rfl, Cells.of hb (by rw [ha, List.drop_zero, List.take_of_length_le (Nat.le_refl _)])⟩⟩

/-- Two images alike. -/
theorem ImX.same {A B : Heap} {r : StV} {M : Nat} {nm : ByteArray} {i j : Im} (hA : StA s r) (hI : StI ss cap N s) (hJ : StI ss cap M r) (h : ImX A H ss s nm i) (k : ImX B H ss r nm j) :
    i.nm = j.nm ∧ i.id = j.id ∧ i.size = j.size ∧ i.res = j.res ∧ i.uns = j.uns ∧ ∃ bs a b, i.dp = some ⟨a, 0, none⟩ ∧ j.dp = some ⟨b, 0, none⟩ ∧ Src H i.dp i.dn i.dc bs ∧ Src H j.dp j.dn j.dc bs := by
  obtain ⟨h1, b, nb, arr, a1, a2, a3, a4, a5, a6, a7, a8, a9, a10, a11⟩ := h
  obtain ⟨k1, c, nc, brr, b1, b2, b3, b4, b5, b6, b7, b8, b9, b10, b11⟩ := k
  have hm := hA.m nm
  rw [a1, b1] at hm
  simp [idS] at hm
  have hO := hA.O b (hI.mT _ _ a1) c (hJ.mT _ _ b1) hm
  have hbs : rdF ss (s.O b).pl (s.O b).size 0 (s.O b).size = rdF ss (r.O c).pl (r.O c).size 0 (r.O c).size := by rw [rdF_A hO.pl, hO.size]
  have l1 := congrArg List.length a11.1
  have l2 := congrArg List.length b11.1
  simp at l1 l2
  refine ⟨by rw [h1, k1], by rw [a2, b2, hm], by rw [a3, b3, hO.size], by rw [a4, b4, hO.res], by rw [a5, b5, dcnt_A hO.pl], rdF ss (s.O b).pl (s.O b).size 0 (s.O b).size, nb, nc, a6, b6, ?_, ?_⟩
  · rw [a6, a7, a8]
    exact src_of a10 a11.1 (by have := a11.2; omega)
  · rw [b6, b7, b8, hbs]
    exact src_of b10 b11.1 (by have := b11.2; omega)

end

end Go.Proofs.Qxb6500695aGreatFmt
