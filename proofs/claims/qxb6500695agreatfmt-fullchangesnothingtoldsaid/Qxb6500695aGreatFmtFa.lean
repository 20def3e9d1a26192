/-
  FORKS: what a fork lays, and nothing else; clones of lists; the supply.
-/
import Derived.Test.Qxb6500695aGreatFmtYc
import Derived.Test.Qxb6500695aGreatFmtNa
import Derived.Test.Qxb6500695aGreatFmtWc
import Derived.Test.Qxb6500695aGreatFmtVn
namespace Go.Proofs.Qxb6500695aGreatFmt
open Go Go.Eng Go.Proofs
set_option maxRecDepth 100000
set_option linter.unusedVariables false
set_option linter.unusedSimpArgs false
set_option linter.unusedSectionVars false

/-- Only new blocks are laid, and only new blocks are tagged. -/
structure Fx (H : Heap) (q : Gh) (H' : Heap) (q' : Gh) : Prop where
  sub : Sub H H'
  ev : Ev (fun _ => False) H q H' q'
  new : ∀ b tg, q' b = some tg → q b = some tg ∨ H b = none

section
variable {H H1 H2 : Heap} {q q1 q2 g : Gh} {b : Nat} {tg : Nat × Int}

theorem Fx.refl (hq : GOk H q) : Fx H q H q := ⟨Sub.refl H, Ev.refl hq, fun _ _ h => .inl h⟩

theorem Fx.trans (h : Fx H q H1 q1) (k : Fx H1 q1 H2 q2) : Fx H q H2 q2 := by
  refine ⟨fun b o hb => k.sub b o (h.sub b o hb), h.ev.trans k.ev, fun b tg hb => ?_⟩
  rcases k.new b tg hb with h1 | h1
  · exact h.new b tg h1
  · refine .inr ?_
    cases hc : H b with
    | none => rfl
    | some o => rw [h.sub b o hc] at h1; cases h1

theorem Fx.ofSub (hq : GOk H q) (hs : Sub H H1) : Fx H q H1 q := ⟨hs, Ev.sub hq hs, fun _ _ h => .inl h⟩

theorem Fx.al {o : Obj} (hq : GOk H q) (ha : Al H o b H1) (tg : Nat × Int) : Fx H q H1 (gset q b tg) ∧ gset q b tg b = some tg := by
  obtain ⟨e, t⟩ := Ev.al (S := fun _ => False) hq ha tg
  refine ⟨⟨ha.sub, e, fun x t' hx => ?_⟩, t⟩
  by_cases h : x = b
  · exact .inr (h ▸ ha.fresh)
  · exact .inl (by simpa [gset, h] using hx)

/-- A write to what is new. -/
theorem Fx.wr {o : Obj} (hq : GOk H q) (h : Fx H q H1 q1) (hb : H b = none) (hw : Wr H1 b o H2) : Fx H q H2 q1 := by
  refine ⟨fun x o' hx => hw.keep (h.sub x o' hx) (fun hc => by rw [hc, hb] at hx; cases hx), ⟨fun x t hx => ?_, h.ev.tag, fun x t hx hS => ?_⟩, h.new⟩
  · by_cases hxb : x = b
    · rw [hxb, hw.same]; simp
    · rw [hw.other hxb]; exact h.ev.ok x t hx
  · have hxb : x ≠ b := fun hc => hq x t hx (by rw [hc]; exact hb)
    rw [hw.other hxb]
    exact h.ev.keep x t hx hS

/-- What is read only stays so in the fork's books. -/
def RoIn (g q : Gh) : Prop := ∀ b, g b = some (0, 0) → q b = some (0, 0)

theorem RoIn.fx (h : RoIn g q) (hx : Fx H q H1 q1) : RoIn g q1 := fun b hb => hx.ev.tag _ _ (h b hb)

theorem SecV.ro {ss : Nat} {s : Sec} {v : Option (List Int)} (h : SecV H g ss s v) (hr : RoIn g q) (hs : Sub H H1) : SecV H1 q ss s v := by
  unfold SecV at *
  cases v with
  | none => exact h
  | some bs =>
    simp only at h ⊢
    obtain ⟨b, o, arr, h1, h2, h3, h4, h5⟩ := h.row
    exact ⟨h.n, h.c, h.len, b, o, arr, h1, hr b h2, hs _ _ h3, h4, h5⟩

theorem Secs.ro {ss : Nat} (hr : RoIn g q) (hs : Sub H H1) : ∀ {l : List Sec} {vs : List (Option (List Int))}, Secs H g ss l vs → Secs H1 q ss l vs
  | [], [], _ => trivial
  | _ :: _, _ :: _, h => ⟨h.1.ro hr hs, Secs.ro hr hs h.2⟩
  | [], _ :: _, h => h.elim
  | _ :: _, [], h => h.elim

/-- A list that a call has laid is tagged. -/
theorem Fx.own {α : Type} {T sz n c : Nat} {enc : α → List Value} {p : Option Addr} {xs : List α} (hq : GOk H q) (hs : Sub H H1) (hn : New H p) (ho : OwnL H1 T sz enc p n c xs) (tg : Nat × Int) :
    ∃ q1, Fx H q H1 q1 ∧ OwnT H1 q1 tg T sz enc p n c xs := by
  rcases ho.own with ⟨h1, _⟩ | ⟨b, o, arr, h1, h2, _⟩
  · exact ⟨q, Fx.ofSub hq hs, ho, fun a ha => by rw [h1] at ha; cases ha⟩
  · have hb : H b = none := hn _ h1
    have hqb : q b = none := by
      cases hc : q b with
      | none => rfl
      | some t => exact absurd hb (hq b t hc)
    refine ⟨gset q b tg, ⟨hs, ⟨fun x t hx => ?_, fun x t hx => ?_, fun x t hx _ => ?_⟩, fun x t hx => ?_⟩, ho, fun a ha => by rw [h1] at ha; cases ha; simp [gset]⟩
    · by_cases h : x = b
      · rw [h, h2]; simp
      · have hx' : q x = some t := by simpa [gset, h] using hx
        cases hc : H x with
        | none => exact absurd hc (hq x t hx')
        | some o' => rw [hs x o' hc]; simp
    · have : x ≠ b := fun hc => by rw [hc, hqb] at hx; cases hx
      simpa [gset, this] using hx
    · cases hc : H x with
      | none => exact absurd hc (hq x t hx)
      | some o' => exact hs x o' hc
    · by_cases h : x = b
      · exact .inr (h ▸ hb)
      · exact .inl (by simpa [gset, h] using hx)

/-- slices.Clone. -/
theorem cloneK {α : Type} {t T sz n c : Nat} {inf : TypeInfo} {zero : Value} {enc : α → List Value} {p : Option Addr} {xs : List α} {R : Value → Heap → Prop} {tx ty : Operand} (ht : Tryz.prog.underlying t = some (.slice T)) (hi : Tryz.prog.info? T = some inf) (hz : inf.zero = some zero) (hzs : zero.cells.size = inf.size) (hby : inf.bytes ≤ 4096) (hsz : inf.size = sz)
    (h1 : ∀ x, ∀ v ∈ enc x, v.oneCell' = true) (ho : OwnL H T sz enc p n c xs) (hb : n < 2 ^ 32) (hR : ∀ p' c' H', Sub H H' → New H p' → OwnL H' T sz enc p' n c' xs → R (.slice p' n c') H') :
    ∃ (x4 : Bool), BinIs Tryz.prog .eql t tx ty (.slice p n c) (.slice none 0 0) (.bool x4) ∧ ((x4 = true → R (.slice none 0 0) H) ∧ (x4 = false → ∀ (b5 : Nat) (hp1 : Heap), Al H (.cells #[] T (0, 0)) b5 hp1 → (SemOk Tryz.prog (Builtin.append_ #[t, t] t #[.slice (some ⟨b5, 0, none⟩) 0 0, .slice p n c]) hp1 (fun v hp2 => ∃ (x7 : Option Addr) (x7n x7c : Nat), v = .slice x7 x7n x7c ∧ (R (.slice x7 x7n x7c) hp2))))) := by
  have hlen := ho.len
  refine ⟨_, binIs_slice_eql ht, fun hx => ?_, fun hx b5 H1 ha => ?_⟩
  · have hpn : p = none := by cases p with
      | none => rfl
      | some a => cases hx
    rcases ho.own with ⟨_, h2, h3, _⟩ | ⟨b, o, arr, h2, _⟩
    · have := hR none 0 H (Sub.refl H) (New.none H) (by subst hpn h2 h3; exact ho)
      rw [h2] at this
      exact this
    · rw [hpn] at h2; cases h2
  · have hs : OwnL H1 T sz enc (some ⟨b5, 0, none⟩) 0 0 [] := ⟨rfl, ho.size, .inr ⟨b5, 0, #[], rfl, ha.same, Nat.le_refl _, by simp, by simp⟩⟩
    refine appN (H0 := H) (inf := inf) (zero := zero) (ys := xs) (enc := enc) ht hi hz hzs hby hsz hs hlen (fun hpos => ?_) h1 (by omega) ha.sub (fun a h => by cases h; exact ha.fresh) fun p' c' H' hsub hnew hown _ => ⟨_, _, _, rfl, ?_⟩
    · rcases ho.own with ⟨_, h2, _⟩ | ⟨b, o, arr, h2, _⟩
      · omega
      · refine ⟨b, o, h2, ?_⟩
        have hc : Cells H b o (xs.flatMap enc) := by rw [h2] at ho; exact ho.own.cells
        exact ha.sub.cells hc
    · rw [Nat.zero_add] at hown ⊢
      rw [List.nil_append] at hown
      exact hR p' c' H' hsub hnew hown

theorem f181_ht {p : Option Addr} {n c : Nat} {xs : List Sec} (ho : OwnL H 35 1 Sec.cs p n c xs) (hb : n < 2 ^ 32) : HT Tryz.prog 181 [.slice p n c] H fun v H' => Sub H H' ∧ ∃ p' c', v = .slice p' n c' ∧ New H p' ∧ OwnL H' 35 1 Sec.cs p' n c' xs := by
  have hi : Tryz.prog.info? 35 = some Tryz.t35 := by kernel_rfl
  apply f181_of
  exact cloneK (R := fun v H' => Sub H H' ∧ ∃ p' c', v = .slice p' n c' ∧ New H p' ∧ OwnL H' 35 1 Sec.cs p' n c' xs) (zero := .slice none 0 0) Tryz.underlying37 hi rfl rfl (by decide) rfl (by intro x v hv; simp [Sec.cs, Sec.val] at hv; subst hv; rfl) ho hb fun p' c' H' h1 h2 h3 => ⟨h1, p', c', rfl, h2, h3⟩

theorem f182_ht {p : Option Addr} {n c : Nat} {xs : List Int} (ho : OwnL H 2 1 I64.cs p n c xs) (hb : n < 2 ^ 32) : HT Tryz.prog 182 [.slice p n c] H fun v H' => Sub H H' ∧ ∃ p' c', v = .slice p' n c' ∧ New H p' ∧ OwnL H' 2 1 I64.cs p' n c' xs := by
  have hi : Tryz.prog.info? 2 = some Tryz.t2 := by kernel_rfl
  apply f182_of
  exact cloneK (R := fun v H' => Sub H H' ∧ ∃ p' c', v = .slice p' n c' ∧ New H p' ∧ OwnL H' 2 1 I64.cs p' n c' xs) (zero := .int .i64 0) Tryz.underlying60 hi rfl rfl (by decide) rfl (by intro x v hv; simp [I64.cs] at hv; subst hv; rfl) ho hb fun p' c' H' h1 h2 h3 => ⟨h1, p', c', rfl, h2, h3⟩

theorem f183_ht {p : Option Addr} {n c : Nat} {xs : List Jr} (ho : OwnL H 271 5 Jr.cs p n c xs) (hb : n < 2 ^ 32) : HT Tryz.prog 183 [.slice p n c] H fun v H' => Sub H H' ∧ ∃ p' c', v = .slice p' n c' ∧ New H p' ∧ OwnL H' 271 5 Jr.cs p' n c' xs := by
  have hi : Tryz.prog.info? 271 = some Tryz.t271 := by kernel_rfl
  apply f183_of
  exact cloneK (R := fun v H' => Sub H H' ∧ ∃ p' c', v = .slice p' n c' ∧ New H p' ∧ OwnL H' 271 5 Jr.cs p' n c' xs) (zero := .agg #[.int .u8 0, .string ⟨#[]⟩, .string ⟨#[]⟩, .pointer none, .pointer none]) Tryz.underlying169 hi rfl rfl (by decide) rfl (by intro x v hv; simp [Jr.cs] at hv; rcases hv with rfl | rfl | rfl | rfl | rfl <;> rfl) ho hb fun p' c' H' h1 h2 h3 => ⟨h1, p', c', rfl, h2, h3⟩

/-- The supply's copy. -/
theorem f86_ht {k : Int} {pb : Nat} {P : Pw} (hq : GOk H q) (h : PwR H g k pb P) : HT Tryz.prog 86 [.pointer (some ⟨pb, 0, none⟩)] H fun v H' => ∃ pb' q', v = .pointer (some ⟨pb', 0, none⟩) ∧ Fx H q H' q' ∧ PwR H' q' k pb' P := by
  obtain ⟨h1, s, c, h2⟩ := h
  apply f86_of
  refine ⟨pb, 0, rfl, _, _, _, _, _, Cells.of h2 rfl, fun b H1 ha => ⟨_, _, ha.same, by simp, fun H2 hw => ?_⟩⟩
  obtain ⟨f1, t1⟩ := Fx.al hq ha (26, k)
  have hw' : Wr H1 b (.cells #[.bool P.down, .bool P.armed, .int .i64 P.fuse, .int .u64 s, .int .u64 c] 221 (0, 0)) H2 := hw
  exact ⟨b, _, rfl, f1.wr hq ha.fresh hw', t1, s, c, hw'.same⟩

end

end Go.Proofs.Qxb6500695aGreatFmt
