/-
  THE WORLD, PART H: a step of the story: Transact, Checkpoint, CopyPage.
-/
import Derived.Test.Qxb6500694aGreatDoorDf
import Derived.Test.Qxb6500694aGreatDoorDg
import Derived.Test.Qxb6500694aGreatDoorVf
namespace Go.Proofs.Qxb6500694aGreatDoor
open Go Go.Eng Go.Proofs
set_option maxRecDepth 100000
set_option linter.unusedVariables false
set_option linter.unusedSimpArgs false
set_option linter.unusedSectionVars false

/-- What a step leaves. -/
def doPost (H : Heap) (g : Gh) (cnt : Nat) (F : Fix) (esH esP : Array MapEntry) (v : Value) (H' : Heap) : Prop :=
  v = .tuple #[] ∧ ∃ g' esM' esL', Wd H' g' (cnt + 1) F esM' esL' esH esP ∧ Ev (fun tg => tg ≠ (0, 0)) H g H' g'

section
variable {H : Heap} {g : Gh} {cnt : Nat} {F : Fix} {esM esL esH esP : Array MapEntry}

theorem Sp.ne0 {t : Int} {tg : Nat × Int} (h : Sp t tg) : tg ≠ (0, 0) := by
  intro he; subst he; exact Sp.not0 h

/-- Nothing turned: one more step. -/
theorem Wd.idle (h : Wd H g cnt F esM esL esH esP) : doPost H g cnt F esH esP (.tuple #[]) H := by
  refine ⟨rfl, g, esM, esL, ⟨h.gok, h.tags, h.stage, h.world, h.arch, h.mM, h.mG, h.mL, h.mH, h.mP, h.man, fun e he => ?_, h.log, fun e he => ?_, by have := h.sizeM; omega, by have := h.sizeH; omega⟩, Ev.refl h.gok⟩
  · obtain ⟨m, a1, a2, a3, a4, a5, a6, a7⟩ := h.his e he
    exact ⟨m, a1, a2, a3, a4, a5, by omega, a7⟩
  · obtain ⟨pb, d, a1, a2, a3⟩ := h.prim e he
    exact ⟨pb, d, a1, a2.bound (by omega), a3⟩

/-- A step of a primary alone. -/
theorem Wd.ofPrim (h : Wd H g cnt F esM esL esH esP) {e0 : MapEntry} (he0 : e0 ∈ esP.toList) {H' : Heap} {g' : Gh} (e : Ev (Sp (keyN e0.key)) H g H' g') {pb : Nat} {d' : PD} (hv : e0.val = .pointer (some ⟨pb, 0, none⟩))
    (hp : Prim H' g' (cnt + 1) (logLen esL (keyN e0.key)) pb (keyN e0.key) d') : doPost H g cnt F esH esP (.tuple #[]) H' := by
  obtain ⟨nb, hw⟩ := h.world
  refine ⟨rfl, g', esM, esL, h.turn he0 e (fun _ hs => .inl hs) (by omega) ⟨nb, e.get h.tags.bw (by intro hs; have := hs.2.1; simp at this) hw⟩ ⟨pb, d', hv, hp, ?_⟩, e.mono fun _ hs => hs.ne0⟩
  obtain ⟨_, _, _, _, h3⟩ := h.prim e0 he0
  exact h3

section
variable {e0 : MapEntry} {pb : Nat} {d : PD}


theorem do_checkpoint (hW : Wd H g cnt F esM esL esH esP) (hcnt : cnt < 65536) (he0 : e0 ∈ esP.toList) (hv : e0.val = .pointer (some ⟨pb, 0, none⟩)) (hp : Prim H g cnt (logLen esL (keyN e0.key)) pb (keyN e0.key) d) : HT Tryz.prog 67 [.pointer (some ⟨pb, 0, none⟩)] H fun v H' => v = .tuple #[] ∧ doPost H g cnt F esH esP (.tuple #[]) H' :=
  (f67_ht (by omega) hW.gok hp).mono fun v H' ⟨hv', g', d', e, hp', _⟩ => ⟨hv', hW.ofPrim he0 e hv (hp'.bound (by omega))⟩

variable {op0 op1 op2 op3 : Int} {op4 : Bool} {op5 : Int} {op6 : Option Addr} {op6n op6c : Nat} {op7 : Option Addr} {op7n op7c : Nat} {op8 : Option Addr} {op8n op8c : Nat}

theorem f38_L1_ht (hW : Wd H g cnt F esM esL esH esP) (hcnt : cnt < 65536) (he0 : e0 ∈ esP.toList) (hv : e0.val = .pointer (some ⟨pb, 0, none⟩)) (hp : Prim H g cnt (logLen esL (keyN e0.key)) pb (keyN e0.key) d) {ds : List Int} (hr : ReadL H 1 U8.cs op6 op6n ds) (hds : ∀ x ∈ ds, 0 ≤ x ∧ x < 256) (hn : op6n ≤ 65536) (step : Int) :
    ∀ (k m : Nat) (sp : Option Addr) (sn sc : Nat) (ss : List SetV) (h : Heap), 2 * m + k = op6n + 1 → Sub H h → New H sp → OwnL h 79 2 SetV.cs sp sn sc ss → (∀ s ∈ ss, 0 ≤ s.key ∧ s.key < 8) → sn ≤ m →
      f38_L1 op0 op1 op2 op3 op4 op5 op6 op6n op6c op7 op7n op7c op8 op8n op8c (some ⟨pb, 0, none⟩) sp sn sc step ((2 * m : Nat) : Int) h (doPost H g cnt F esH esP) := by
  have hlen := hr.len
  intro k
  induction k using Nat.strongRecOn with
  | ind k ih =>
    intro m sp sn sc ss h hk hs hnew ho hkeys hsn
    apply f38_L1_of
    unfold f38_L1_pre
    rw [wrapS (by omega)]
    refine ⟨fun hd => ?_, fun hd => ?_⟩
    · have hd := of_decide_eq_true hd
      have hlt : 2 * m + 1 < op6n := by omega
      obtain ⟨r1, hr1⟩ := binIs_shl (P := Tryz.prog) (t := 26) (x := .tmp 54) (y := .const (.int .u64 8)) (k := .u64) (k' := .u64) (a := IntKind.wrap .u64 (d.lsn + step)) (s := 8) (by omega)
      obtain ⟨b1, o1, hp1, hc1⟩ := (hr.sub hs).cells (2 * m + 1) (by omega)
      obtain ⟨b2, o2, hp2, hc2⟩ := (hr.sub hs).cells (2 * m) (by omega)
      obtain ⟨r2, hr2⟩ := binIs_or (P := Tryz.prog) (t := 26) (x := .tmp 55) (y := .tmp 62) (k := .u64) (a := r1) (b := IntKind.wrap .u64 ds[2 * m + 1])
      have hb := hds _ (List.getElem_mem (l := ds) (n := 2 * m) (by omega))
      refine ⟨pb, 0, rfl, _, Cells.of (hs _ _ hp.blk) rfl, r1, hr1, b1, o1, hp1, by omega, by omega, _, hc1, r2, hr2, b2, o2, hp2, by omega, by omega, _, hc2, fun b74 h1 ha => ?_⟩
      have hw : IntKind.wrap .i64 ds[2 * m] = ds[2 * m] := wrapI (by omega) (by omega)
      refine app1 (enc := SetV.cs) (x := ⟨Int.tmod (IntKind.wrap .i64 ds[2 * m]) 8, r2⟩) (H0 := H) (inf := Tryz.t79) (zero := .agg #[.int .i64 0, .int .u64 0]) Tryz.underlying74 (by kernel_rfl) (by kernel_rfl) rfl (by decide) rfl ha rfl (by simp [SetV.cs, Value.oneCell']) ho (by omega) hs hnew fun p' c' h3 a1 a2 a3 _ => ⟨p', sn + 1, c', rfl, ?_⟩
      have hi2 : IntKind.wrap .i64 (((2 * m : Nat) : Int) + 2) = ((2 * (m + 1) : Nat) : Int) := by rw [wrapI] <;> omega
      rw [hi2]
      refine ih (k - 2) (by omega) (m + 1) p' (sn + 1) c' _ h3 (by omega) a1 a2 a3 (fun s hs' => ?_) (by omega)
      rcases List.mem_append.1 hs' with h5 | h5
      · exact hkeys s h5
      · rw [List.mem_singleton.1 h5, hw]
        exact ⟨Int.tmod_nonneg _ hb.1, Int.tmod_lt_of_pos _ (by omega)⟩
    · have hd := of_decide_eq_false hd
      -- the sets' array is read-only from here on
      obtain ⟨g1, e1, hst⟩ : ∃ g1, Ev (fun _ => False) H g h g1 ∧ SetsT h g1 sp sn ss := by
        rcases ho.own with ⟨h1, h2, h3, h4⟩ | ⟨b, o, arr, h1, h2, h3, h4, h5⟩
        · refine ⟨g, Ev.sub hW.gok hs, by omega, ReadL.of ho, hkeys, fun a ha => ?_⟩
          rw [h1] at ha; cases ha
        · have hb : H b = none := hnew _ h1
          have hgb : g b = none := untag hW.gok hb
          have e0 : Ev (fun _ => False) H g h g := Ev.sub hW.gok hs
          refine ⟨gset g b (0, 0), ⟨fun x tg hx => ?_, fun x tg hx => ?_, fun x tg hx hn => e0.keep x tg hx hn⟩, by omega, ReadL.of ho, hkeys, fun a ha => ?_⟩
          · unfold gset at hx
            by_cases hxb : x = b
            · subst hxb; rw [h2]; simp
            · rw [if_neg hxb] at hx; exact e0.ok x tg hx
          · unfold gset
            rw [if_neg (by intro hxb; subst hxb; rw [hgb] at hx; cases hx)]; exact hx
          · rw [h1] at ha; cases ha; simp [gset]
      refine (f66_ht hcnt e1.ok (hp.ev e1 (fun _ h => h) (fun h => h)) hst step _).mono fun v H' ⟨hv', g', d', e2, hp', _⟩ => ⟨hv', ?_⟩
      exact hW.ofPrim he0 ((e1.mono fun _ h => h.elim).trans e2) hv hp'

end

end

end Go.Proofs.Qxb6500694aGreatDoor
