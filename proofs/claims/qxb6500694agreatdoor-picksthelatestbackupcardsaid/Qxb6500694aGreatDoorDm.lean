/-
  THE WORLD, PART M: Ship.
-/
import Derived.Test.Qxb6500694aGreatDoorDl
namespace Go.Proofs.Qxb6500694aGreatDoor
open Go Go.Eng Go.Proofs
set_option maxRecDepth 100000
set_option linter.unusedVariables false
set_option linter.unusedSimpArgs false
set_option linter.unusedSectionVars false

def tailP (p : Option Addr) (c sz : Nat) : Option Addr := if c = 1 then p else p.map fun a => a.add sz

theorem sliceTail {p : Option Addr} {n c : Nat} (hn : 0 < n) (hc : n ≤ c) : SliceIs Tryz.prog 72 (.slice p n c) (some (.int .i64 1)) none none (.slice (tailP p c 4) (n - 1) (c - 1)) := by
  intro w
  have h1 : Tryz.prog.underlying 72 = some (.slice 77) := Tryz.underlying72
  have h2 : Tryz.prog.info? 77 = some Tryz.t77 := by kernel_rfl
  have h3 : Tryz.t77.size = 4 := by kernel_rfl
  have hle : (1 : Int) ≤ (n : Int) := by omega
  unfold Instr.sliceAt
  simp [underlying, h1, Instr.slice, Instr.sliceBounds, Instr.sliceBound, asIntOf, sizeOf, typeInfo, h2, h3, tailP, hle]

theorem OwnL.tail {α : Type} {H : Heap} {T sz : Nat} {enc : α → List Value} {p : Option Addr} {n c : Nat} {x : α} {xs : List α} (h : OwnL H T sz enc p n c (x :: xs)) : OwnL H T sz enc (tailP p c sz) (n - 1) (c - 1) xs := by
  have hlen := h.len
  simp only [List.length_cons] at hlen
  have hs := h.size x
  rcases h.own with ⟨_, h2, _, _⟩ | ⟨b, o, arr, hp, hb, h3, h4, h5⟩
  · omega
  · refine ⟨by omega, h.size, ?_⟩
    by_cases hc : c = 1
    · refine .inr ⟨b, o, arr, by rw [tailP, if_pos hc, hp], hb, by omega, by rw [hc] at h4 ⊢; simp at h4 ⊢; omega, ?_⟩
      have hx : xs = [] := List.eq_nil_of_length_eq_zero (by omega)
      have hn0 : n - 1 = 0 := by omega
      rw [hx, hn0]; simp
    · refine .inr ⟨b, o + sz, arr, by rw [tailP, if_neg hc, hp]; simp [Addr.add], hb, by omega, ?_, ?_⟩
      · have : (c - 1 + 1) * sz = c * sz := by congr 1; omega
        rw [Nat.add_mul] at this
        omega
      · rw [List.flatMap_cons] at h5
        have h6 := congrArg (List.drop sz) h5
        rw [List.drop_append_of_le_length (by omega), List.drop_eq_nil_of_le (by omega), List.nil_append, List.drop_take, List.drop_drop] at h6
        rw [h6]
        congr 1
        have : (n - 1 + 1) * sz = n * sz := by congr 1; omega
        rw [Nat.add_mul] at this
        omega

theorem tailP_tag {p : Option Addr} {c sz : Nat} {a : Addr} (h : tailP p c sz = some a) : ∃ a', p = some a' ∧ a'.block = a.block := by
  unfold tailP at h
  split at h
  · exact ⟨a, h, rfl⟩
  · cases p with
    | none => cases h
    | some a' => simp at h; exact ⟨a', rfl, by rw [← h]; unfold Addr.add; (try split) <;> rfl⟩

theorem Prim.ev18 {S : Nat × Int → Prop} {H H' : Heap} {g g' : Gh} {cnt lg pb : Nat} {t : Int} {d : PD} (h : Prim H g cnt lg pb t d) (he : Ev S H g H' g') (hn : ∀ k, k ≤ 18 → ¬ S (k, t)) (h0 : ¬ S (0, 0)) : Prim H' g' cnt lg pb t d := by
  refine ⟨he.tag _ _ h.tag, he.get h.tag (hn _ (by omega)) h.blk, h.lsn, fun i hi => ?_, ?_, ?_⟩
  · obtain ⟨vs, h1, h2⟩ := h.since i hi
    exact ⟨vs, h1.ev he (hn _ (by omega)), h2⟩
  · obtain ⟨zs, h1, h2, h3⟩ := h.unsent
    exact ⟨zs, h1.ev he (hn _ (by omega)), fun x hx => (h2 x hx).ev he h0, h3⟩
  · rcases h.bk with hb | ⟨kb, h1, h2⟩
    · exact .inl hb
    · obtain ⟨id, par, tl, start, stop, pp, pn, pc, ps, nx, ri, es, ck, xs, k1, k2, k3, k4, k5, k6, k7⟩ := h2.ex
      exact .inr ⟨kb, h1, he.tag _ _ h2.tag, id, par, tl, start, stop, pp, pn, pc, ps, nx, ri, es, ck, xs, he.get h2.tag (hn _ (by omega)) k1, k2, k3.ev he (hn _ (by omega)), k4, he.tag _ _ k5, he.get k5 (hn _ (by omega)) k6, k7⟩

section
variable {cnt : Nat} {F : Fix} {esM esH esP : Array MapEntry}
variable {op0 op2 op3 : Int} {op4 : Bool} {op5 : Int} {op6 : Option Addr} {op6n op6c : Nat} {op7 : Option Addr} {op7n op7c : Nat} {op8 : Option Addr} {op8n op8c : Nat}

theorem f38_L2_ht (hcnt : cnt < 65536) {e0 : MapEntry} (he0 : e0 ∈ esP.toList) {pb : Nat} (hv : e0.val = .pointer (some ⟨pb, 0, none⟩)) {H0 : Heap} {g0 : Gh} :
    ∀ (k : Nat) (n9 : Int) (H : Heap) (g : Gh) (esL : Array MapEntry) (d : PD), d.un = k → Wd H g cnt F esM esL esH esP → Prim H g cnt (logLen esL (keyN e0.key)) pb (keyN e0.key) d → Ev (fun tg => tg ≠ (0, 0)) H0 g0 H g →
      f38_L2 (some ⟨F.bw, 0, none⟩) op0 (keyN e0.key) op2 op3 op4 op5 op6 op6n op6c op7 op7n op7c op8 op8n op8c (some ⟨pb, 0, none⟩) n9 H (doPost H0 g0 cnt F esH esP) := by
  intro k
  induction k with
  | zero =>
    intro n9 H g esL d hun hW hp hE
    have fin : f38_L3 (some ⟨F.bw, 0, none⟩) op0 (keyN e0.key) op2 op3 op4 op5 op6 op6n op6c op7 op7n op7c op8 op8n op8c (some ⟨pb, 0, none⟩) n9 false H (doPost H0 g0 cnt F esH esP) := by
      apply f38_L3_of
      refine ⟨(fun h => by cases h), fun _ => ?_⟩
      obtain ⟨h1, g', esM', esL', h2, h3⟩ := hW.idle
      exact ⟨h1, g', esM', esL', h2, hE.trans h3⟩
    apply f38_L2_of
    refine ⟨fun _ => ⟨pb, 0, rfl, d.up, d.un, d.uc, Cells.of hp.blk rfl, ?_⟩, fun _ => fin⟩
    rw [hun]
    exact fin
  | succ k ih =>
    intro n9 H g esL d hun hW hp hE
    have fin : f38_L3 (some ⟨F.bw, 0, none⟩) op0 (keyN e0.key) op2 op3 op4 op5 op6 op6n op6c op7 op7n op7c op8 op8n op8c (some ⟨pb, 0, none⟩) n9 false H (doPost H0 g0 cnt F esH esP) := by
      apply f38_L3_of
      refine ⟨(fun h => by cases h), fun _ => ?_⟩
      obtain ⟨h1, g', esM', esL', h2, h3⟩ := hW.idle
      exact ⟨h1, g', esM', esL', h2, hE.trans h3⟩
    have hpos := hW.keyPos he0
    apply f38_L2_of
    refine ⟨fun hn9 => ⟨pb, 0, rfl, d.up, d.un, d.uc, Cells.of hp.blk rfl, ?_⟩, fun _ => fin⟩
    have hn9 := of_decide_eq_true hn9
    rw [decide_eq_true (by omega)]
    obtain ⟨nb, hbw⟩ := hW.world
    obtain ⟨cL, hrl, okL⟩ := hW.mL
    obtain ⟨zs, hz, hzok, hzn⟩ := hp.unsent
    have hzl := hz.own.len
    have hzc := hz.own.lenc
    have T := hW.tags
    -- the log as it is
    obtain ⟨lp, ln, lc, ls, hlook, hlo, hlok, hll⟩ : ∃ lp ln lc ls, LookIs Tryz.prog 115 F.rl esL cL (.int .u32 (keyN e0.key)) false (.slice lp ln lc) ∧ OwnT H g (20, keyN e0.key) 77 4 Com.cs lp ln lc ls ∧ (∀ x ∈ ls, ComT H g x) ∧ logLen esL (keyN e0.key) = ln := by
      have hlook := lookIs_int (P := Tryz.prog) (t := 115) (r := F.rl) (c := cL) (n := keyN e0.key) (ok := false) (zero := .slice none 0 0) Tryz.underlying115 Tryz.underlying29 (inf := Tryz.t72) (by kernel_rfl) (by kernel_rfl) okL.1
      cases hg : iget esL.toList (keyN e0.key) with
      | none =>
        simp only [lookV, hg] at hlook
        exact ⟨none, 0, 0, [], hlook, OwnT.nil Com.size, by simp, by unfold logLen; rw [hg]⟩
      | some v =>
        obtain ⟨e, he, hk, hve⟩ := iget_mem hg
        obtain ⟨p, n, c, xs, a1, a2, a3, _⟩ := hW.log e he
        rw [hk] at a2
        simp only [lookV, hg, ← hve, a1] at hlook
        exact ⟨p, n, c, xs, hlook, a2, a3, by unfold logLen; rw [hg, ← hve, a1]⟩
    obtain ⟨z, zs, rfl⟩ : ∃ z zs', zs = z :: zs' := by
      cases zs with
      | nil => simp at hzl; omega
      | cons z zs => exact ⟨z, zs, rfl⟩
    obtain ⟨bz, oz, hpz, hcz⟩ := hz.own.cells (i := 0) (by simp)
    apply f38_L3_of
    refine ⟨fun _ => ?_, (fun h => by cases h)⟩
    refine ⟨F.bw, 0, rfl, _, Cells.of hbw rfl, F.ba, 0, rfl, _, Cells.of hW.arch rfl, F.bw, 0, rfl, _, Cells.of hbw rfl, F.ba, 0, rfl, _, Cells.of hW.arch rfl, F.rl, esL, cL, rfl, hrl, lp, ln, lc, hlook, pb, 0, rfl, d.up, d.un, d.uc, Cells.of hp.blk rfl, bz, oz, hpz, by omega, by omega, z.lsn, z.time, z.sp, z.sn, z.sc, z.cp, z.cn, z.cc, hcz, fun b129 H1 ha => ?_⟩
    refine app_comT (S := fun tg => tg = (20, keyN e0.key)) z ha hW.gok hlo rfl (by omega) fun p' c' H2 g2 hpn e2 ho2 _ => ⟨p', ln + 1, c', rfl, ?_⟩
    have hbw2 := e2.get T.bw (by intro h; cases h) hbw
    have hba2 := e2.get T.ba (by intro h; cases h) hW.arch
    have hpb2 := e2.get hp.tag (by intro h; cases h) hp.blk
    have hrl2 := e2.get T.rl (by intro h; cases h) hrl
    refine ⟨Cells.of hpb2 rfl, Cells.of hba2 rfl, Cells.of hbw2 rfl, Cells.of hba2 rfl, Cells.of hbw2 rfl, ?_⟩
    refine semOk_mapUpdate Tryz.underlying115 Tryz.underlying29 hrl2 okL.1 fun H3 hw3 => ?_
    obtain ⟨esL', cL', hput, okL', getL', memL', _, _⟩ := mput_ok (n := keyN e0.key) (v := .slice p' (ln + 1) c') okL
    rw [hput] at hw3
    have T2 := T.ev e2
    have e3 : Ev (fun tg => tg = (6, 0)) H2 g2 H3 g2 := Ev.wr e2.ok hw3 fun tg htg => by rw [T2.rl] at htg; cases htg; rfl
    have tpb2 := e2.tag _ _ hp.tag
    have hpb3 := e3.get tpb2 (by intro h; cases h) hpb2
    refine ⟨pb, 0, rfl, d.up, d.un, d.uc, Cells.of hpb3 rfl, _, _, _, sliceTail (by omega) hzc, pb, 0, rfl, _, _, hpb3, by simp [PD.cells], fun H4 hw4 => ?_⟩
    have e23 : Ev (fun tg => tg = (20, keyN e0.key) ∨ tg = (6, 0)) H g H3 g2 := (e2.mono fun _ h => .inl h).trans (e3.mono fun _ h => .inr h)
    have n0 : ¬ (((0, 0) : Nat × Int) = (20, keyN e0.key) ∨ ((0, 0) : Nat × Int) = (6, 0)) := by
      intro h; rcases h with h | h <;> (have := congrArg Prod.fst h; simp at this)
    have nk : ∀ t, 0 < t → ∀ k, k ≠ 20 → ¬ (((k, t) : Nat × Int) = (20, keyN e0.key) ∨ ((k, t) : Nat × Int) = (6, 0)) := by
      intro t ht k hk h
      rcases h with h | h
      · exact hk (congrArg Prod.fst h)
      · have := congrArg Prod.snd h; simp at this; omega
    have hp3 := hp.ev18 e23 (fun k hk => nk _ hpos k (by omega)) n0
    have hz3 : OwnT H3 g2 (14, keyN e0.key) 77 4 Com.cs d.up d.un d.uc (z :: zs) := hz.ev e23 (nk _ hpos _ (by omega))
    have hz4 : OwnT H3 g2 (14, keyN e0.key) 77 4 Com.cs (tailP d.up d.uc 4) (d.un - 1) (d.uc - 1) zs := by
      refine ⟨OwnL.tail hz3.own, fun a ha => ?_⟩
      obtain ⟨a', h1, h2⟩ := tailP_tag ha
      rw [← h2]; exact hz3.tag a' h1
    have hzok3 : ∀ x ∈ zs, ComT H3 g2 x := fun x hx => (hzok x (List.mem_cons_of_mem _ hx)).ev e23 n0
    obtain ⟨e4, hp4⟩ := hp3.send (Ev.refl e3.ok) hz4 hzok3 (lg' := ln + 1) (by omega) hw4
    have e : Ev (fun tg => (tg = (20, keyN e0.key) ∨ tg = (6, 0)) ∨ Sp (keyN e0.key) tg) H g H4 g2 := (e23.mono fun _ h => .inl h).trans (e4.mono fun _ h => .inr h)
    have m0 : ¬ (((((0, 0) : Nat × Int) = (20, keyN e0.key) ∨ ((0, 0) : Nat × Int) = (6, 0))) ∨ Sp (keyN e0.key) (0, 0)) := fun h => h.elim n0 Sp.not0
    have hlen' : ∀ t, logLen esL' t = if t = keyN e0.key then ln + 1 else logLen esL t := by
      intro t
      unfold logLen
      rw [getL']
      by_cases h : t = keyN e0.key
      · rw [if_pos h, if_pos h]
      · rw [if_neg h, if_neg h]
    obtain ⟨cM, hrm, okM⟩ := hW.mM
    obtain ⟨esG, cG, hrg, okG⟩ := hW.mG
    obtain ⟨cP, hrp, okP⟩ := hW.mP
    obtain ⟨_, _, _, _, hkey⟩ := hW.prim e0 he0
    have nf : ∀ k : Nat, k < 9 → k ≠ 6 → ¬ ((((k, 0) : Nat × Int) = (20, keyN e0.key) ∨ ((k, 0) : Nat × Int) = (6, 0)) ∨ Sp (keyN e0.key) (k, 0)) := by
      intro k h1 h2 h
      rcases h with (h | h) | h
      · have := congrArg Prod.fst h; simp at this; omega
      · exact h2 (congrArg Prod.fst h)
      · have := h.2.1; simp at this; omega
    have hp4' : Prim H4 g2 cnt (logLen esL' (keyN e0.key)) pb (keyN e0.key) { d with up := tailP d.up d.uc 4, un := d.un - 1, uc := d.uc - 1 } := by
      rw [hlen', if_pos rfl]; exact hp4
    have hW4 : Wd H4 g2 cnt F esM esL' esH esP := by
      refine hW.re e (nf _ (by omega) (by omega)) (nf _ (by omega) (by omega)) (nf _ (by omega) (by omega)) (nf _ (by omega) (by omega)) (Nat.le_refl _) ⟨nb, e.get T.bw (nf _ (by omega) (by omega)) hbw⟩ ⟨cM, e.get T.rm (nf _ (by omega) (by omega)) hrm, okM⟩ ⟨esG, cG, e.get T.rg (nf _ (by omega) (by omega)) hrg, okG⟩
        ⟨cL', e4.get (e3.tag _ _ T2.rl) (by intro hs; have := hs.2.1; simp at this) hw3.same, okL'⟩ hW.man hW.sizeM (fun x hx => ?_) (fun x hx => ?_)
      · by_cases hxk : keyN x.key = keyN e0.key
        · have h1 := iget_of_mem okL'.2.1 hx
          rw [getL', if_pos hxk] at h1
          have h2 : x.val = .slice p' (ln + 1) c' := (Option.some.inj h1).symm
          refine ⟨p', ln + 1, c', ls ++ [z], h2, ?_, fun y hy => ?_, e0, he0, hxk.symm⟩
          · rw [hxk]
            exact (ho2.ev e3 (by intro h; cases h)).ev e4 (by intro hs; have := hs.2.2; simp at this)
          · have hy2 : ComT H g y := by
              rcases List.mem_append.1 hy with h5 | h5
              · exact hlok y h5
              · rw [List.mem_singleton.1 h5]; exact hzok z List.mem_cons_self
            exact hy2.ev e m0
        · rcases memL' x hx with ⟨h1, _⟩ | h1
          · exact absurd h1 hxk
          · refine (hW.log x h1).ev e m0 ?_
            intro h
            rcases h with (h | h) | h
            · exact hxk (congrArg Prod.snd h)
            · have := congrArg Prod.fst h; simp at this
            · have := h.2.2; simp at this
      · by_cases hx0 : x = e0
        · subst hx0
          exact ⟨pb, _, hv, hp4', hkey⟩
        · have hkne : keyN x.key ≠ keyN e0.key := fun hk => hx0 (inj_of_nodup okP.2.1 x hx e0 he0 hk)
          have hposx := hW.keyPos hx
          refine (hW.prim x hx).ev e m0 (fun k hs => ?_) (Nat.le_refl _) (by rw [hlen', if_neg hkne])
          rcases hs with (h | h) | h
          · exact hkne (congrArg Prod.snd h)
          · have := congrArg Prod.snd h; simp at this; omega
          · exact hkne h.1
    exact ih _ H4 g2 esL' _ (by simp only; omega) hW4 hp4' (hE.trans (e.mono fun tg h h0 => m0 (h0 ▸ h)))

end

end Go.Proofs.Qxb6500694aGreatDoor
