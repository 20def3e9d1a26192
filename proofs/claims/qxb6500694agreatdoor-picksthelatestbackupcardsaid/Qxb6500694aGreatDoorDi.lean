/-
  THE WORLD, PART I: CopyPage, BeginFull, BeginDelta.
-/
import Derived.Test.Qxb6500694aGreatDoorDh
namespace Go.Proofs.Qxb6500694aGreatDoor
open Go Go.Eng Go.Proofs
set_option maxRecDepth 100000
set_option linter.unusedVariables false
set_option linter.unusedSimpArgs false
set_option linter.unusedSectionVars false

theorem ptrNeq {x y : Operand} {p : Option Addr} {T E : Nat} (hu : Tryz.prog.underlying T = some (.pointer E)) : BinIs Tryz.prog .neq T x y (.pointer p) (.pointer none) (.bool !p.isNone) := binIs_ptr_neq hu
theorem ptrEql {x y : Operand} {p : Option Addr} {T E : Nat} (hu : Tryz.prog.underlying T = some (.pointer E)) : BinIs Tryz.prog .eql T x y (.pointer p) (.pointer none) (.bool p.isNone) := binIs_ptr_eql hu

section
variable {S : Nat × Int → Prop} {H H' : Heap} {g g' : Gh} {cnt : Nat} {F : Fix} {esM esL esH esP : Array MapEntry}

/-- The world anew, from its parts. -/
theorem Wd.re (h : Wd H g cnt F esM esL esH esP) (e : Ev S H g H' g') (n1 : ¬ S (1, 0)) (n3 : ¬ S (3, 0)) (n7 : ¬ S (7, 0)) (n8 : ¬ S (8, 0)) {cnt' : Nat} (hc : cnt ≤ cnt') {esM' esL' : Array MapEntry}
    (hw : ∃ nb, H' F.bw = some (.cells #[.pointer (some ⟨F.ba, 0, none⟩), .map (some F.rp), .int .u64 nb] 47 (0, 0)))
    (hM : ∃ c, H' F.rm = some (.map esM' c) ∧ MapOk .u64 esM' c) (hG : ∃ es c, H' F.rg = some (.map es c) ∧ MapOk .u64 es c ∧ ∀ e ∈ es.toList, ∃ x, e.val = .map x) (hL : ∃ c, H' F.rl = some (.map esL' c) ∧ MapOk .u32 esL' c)
    (hman : ∀ e ∈ esM'.toList, ∃ m : Man, e.val = m.val ∧ m.id = keyN e.key) (hsz : esM'.size ≤ cnt') (hlog : ∀ e ∈ esL'.toList, logOk H' g' esP e) (hpr : ∀ e ∈ esP.toList, primOk H' g' cnt' esL' esH e) :
    Wd H' g' cnt' F esM' esL' esH esP := by
  obtain ⟨cH, h3, k3⟩ := h.mH
  obtain ⟨cP, h4, k4⟩ := h.mP
  have T := h.tags
  refine ⟨e.ok, T.ev e, e.get T.bs n1 h.stage, hw, e.get T.ba n3 h.arch, hM, hG, hL, ⟨cH, e.get T.rh n7 h3, k3⟩, ⟨cP, e.get T.rp n8 h4, k4⟩, hman, fun x hx => ?_, hlog, hpr, hsz, ?_⟩
  · obtain ⟨m, a1, a2, a3, a4, a5, a6, a7⟩ := h.his x hx
    exact ⟨m, a1, a2, a3, a4, a5, by omega, a7⟩
  · have := h.sizeH; omega

theorem logOk.ev {x : MapEntry} (h : logOk H g esP x) (e : Ev S H g H' g') (n0 : ¬ S (0, 0)) (n20 : ¬ S (20, keyN x.key)) : logOk H' g' esP x := by
  obtain ⟨p, n, c, xs, a1, a2, a3, a4⟩ := h
  exact ⟨p, n, c, xs, a1, a2.ev e n20, fun y hy => (a3 y hy).ev e n0, a4⟩

theorem primOk.ev {x : MapEntry} (h : primOk H g cnt esL esH x) (e : Ev S H g H' g') (n0 : ¬ S (0, 0)) (nt : ∀ k, ¬ S (k, keyN x.key)) {cnt' : Nat} (hc : cnt ≤ cnt') {esL' : Array MapEntry} (hl : logLen esL' (keyN x.key) = logLen esL (keyN x.key)) : primOk H' g' cnt' esL' esH x := by
  obtain ⟨pb, d, a1, a2, a3⟩ := h
  exact ⟨pb, d, a1, by rw [hl]; exact (a2.ev e nt n0).bound hc, a3⟩

theorem Wd.keyPos (h : Wd H g cnt F esM esL esH esP) {x : MapEntry} (hx : x ∈ esP.toList) : 0 < keyN x.key := by
  obtain ⟨_, _, _, _, e', he', hk⟩ := h.prim x hx
  obtain ⟨m, a1, a2, a3, a4, a5, _⟩ := h.his e' he'
  omega

section
variable {e0 : MapEntry} {pb : Nat} {d : PD}

variable {op0 op1 op2 op3 : Int} {op4 : Bool} {op5 : Int} {op6 : Option Addr} {op6n op6c : Nat} {op7 : Option Addr} {op7n op7c : Nat} {op8 : Option Addr} {op8n op8c : Nat}

theorem bkCells (hW : Wd H g cnt F esM esL esH esP) (hcnt : cnt < 65536) (he0 : e0 ∈ esP.toList) (hv : e0.val = .pointer (some ⟨pb, 0, none⟩)) (hp : Prim H g cnt (logLen esL (keyN e0.key)) pb (keyN e0.key) d) {kb : Option Addr} (hk : d.bk = kb) : Cells H pb (0 + 8) [.pointer kb] := by
  have := hp.blk
  rw [PD.cells, hk] at this
  exact Cells.of this rfl

theorem f38_L5_ht (hW : Wd H g cnt F esM esL esH esP) (hcnt : cnt < 65536) (he0 : e0 ∈ esP.toList) (hv : e0.val = .pointer (some ⟨pb, 0, none⟩)) (hp : Prim H g cnt (logLen esL (keyN e0.key)) pb (keyN e0.key) d) {kb nx : Nat} (hk : d.bk = some ⟨kb, 0, none⟩) (ht : TakN H g kb (keyN e0.key) nx) (hx : nx ≤ 4) :
    f38_L5 op0 op1 op2 op3 op4 op5 op6 op6n op6c op7 op7n op7c op8 op8n op8c (some ⟨pb, 0, none⟩) (decide ((nx : Int) < 4)) H (doPost H g cnt F esH esP) := by
  apply f38_L5_of
  refine ⟨fun hd => ?_, fun _ => hW.idle⟩
  have hd := of_decide_eq_true hd
  exact (f68_ht (by omega) hW.gok hp hk (by omega) ht op5).mono fun v H' ⟨hv', g', e, hp', _⟩ => ⟨hv', hW.ofPrim he0 (e.mono fun _ h => h.sp) hv (hp'.bound (by omega))⟩

theorem f38_L5_none (hW : Wd H g cnt F esM esL esH esP) (hcnt : cnt < 65536) (he0 : e0 ∈ esP.toList) (hv : e0.val = .pointer (some ⟨pb, 0, none⟩)) (hp : Prim H g cnt (logLen esL (keyN e0.key)) pb (keyN e0.key) d) : f38_L5 op0 op1 op2 op3 op4 op5 op6 op6n op6c op7 op7n op7c op8 op8n op8c (some ⟨pb, 0, none⟩) false H (doPost H g cnt F esH esP) := by
  apply f38_L5_of
  exact ⟨(fun h => by cases h), fun _ => hW.idle⟩

end

/-- A backup begins. -/
theorem Prim.begin {lg pb : Nat} {t : Int} {d : PD} (hp : Prim H g cnt lg pb t d) (e : Ev S H g H' g') (hS : ∀ tg, S tg → tg = (9, t) ∨ tg = (2, 0)) (ht0 : t ≠ 0) {kb : Nat} (hb : H' pb = some (.cells (PD.cells { d with bk := some ⟨kb, 0, none⟩ }) 169 (0, 0))) (ht : Tak H' g' kb t) :
    Prim H' g' cnt lg pb t { d with bk := some ⟨kb, 0, none⟩ } := by
  have hn : ∀ k, k ≠ 9 → ¬ S (k, t) := by
    intro k hk hs
    rcases hS _ hs with h | h
    · exact hk (congrArg Prod.fst h)
    · exact ht0 (congrArg Prod.snd h)
  have h0 : ¬ S (0, 0) := by
    intro hs
    rcases hS _ hs with h | h
    · have := congrArg Prod.fst h; simp at this
    · have := congrArg Prod.fst h; simp at this
  refine ⟨e.tag _ _ hp.tag, hb, hp.lsn, fun i hi => ?_, ?_, .inr ⟨kb, rfl, ht⟩⟩
  · obtain ⟨vs, h1, h2⟩ := hp.since i hi
    exact ⟨vs, h1.ev e (hn _ (by omega)), h2⟩
  · obtain ⟨zs, h1, h2, h3⟩ := hp.unsent
    exact ⟨zs, h1.ev e (hn _ (by omega)), fun y hy => (h2 y hy).ev e h0, h3⟩

end

end Go.Proofs.Qxb6500694aGreatDoor
