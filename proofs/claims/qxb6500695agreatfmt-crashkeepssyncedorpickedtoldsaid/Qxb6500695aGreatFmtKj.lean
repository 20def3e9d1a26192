/-
  THE OBJECTS' BOOKS, AS THEY LIE; Clone.
-/
import Derived.Test.Qxb6500695aGreatFmtKi
namespace Go.Proofs.Qxb6500695aGreatFmt
open Go Go.Eng Go.Proofs
set_option maxRecDepth 100000
set_option linter.unusedVariables false
set_option linter.unusedSimpArgs false
set_option linter.unusedSectionVars false

/-- The owner of the past that was laid as number c of node k. -/
def cd (k c : Nat) : Int := -(20 + 3 * (c : Int) + (k : Int))

/-- One object's past. -/
structure Bk where
  pb : Nat
  c : Nat
  zs : List Nat
  C : Int → List Sv

def Bset (B : Int → Option Bk) (i : Int) (x : Bk) : Int → Option Bk := fun j => if j = i then some x else B j

/-- The books of the objects of a node. -/
structure BkR (H : Heap) (g : Gh) (k mb ss ns bd cn : Nat) (B : Int → Option Bk) : Prop where
  tag : g mb = some (52, (k : Int))
  ex : ∃ es ck, H mb = some (.map es ck) ∧ MapOk .u64 es ck ∧ ∀ i, iget es.toList i = (B i).map fun x => .pointer (some ⟨x.pb, 0, none⟩)
  ps : ∀ i x, B i = some x → PsR H g (cd k x.c) x.pb ss ns bd x.zs x.C
  lt : ∀ i x, B i = some x → x.c < cn
  inj : ∀ i j x y, B i = some x → B j = some y → x.c = y.c → i = j

section
variable {S : Nat × Int → Prop} {H H' : Heap} {g g' : Gh} {k mb ss ns bd bd' cn : Nat} {B : Int → Option Bk}

theorem cd_inj {a b : Nat} (h : cd k a = cd k b) : a = b := by unfold cd at h; omega
theorem cd_le {c : Nat} : cd k c ≤ -20 := by unfold cd; omega

theorem BkR.ev (h : BkR H g k mb ss ns bd cn B) (ev : Ev S H g H' g') (h0 : ¬ S (0, 0)) (h52 : ¬ S (52, (k : Int))) (hS : ∀ c, c < cn → ∀ tg, SpB (cd k c) tg → ¬ S tg) : BkR H' g' k mb ss ns bd cn B := by
  obtain ⟨es, ck, h1, h2, h3⟩ := h.ex
  exact ⟨ev.tag _ _ h.tag, ⟨es, ck, ev.get h.tag h52 h1, h2, h3⟩, fun i x hx => (h.ps i x hx).ev ev h0 (hS _ (h.lt i x hx)), h.lt, h.inj⟩

theorem BkR.mono {cn' : Nat} (h : BkR H g k mb ss ns bd cn B) (hb : bd ≤ bd') (hc : cn ≤ cn') : BkR H g k mb ss ns bd' cn' B :=
  ⟨h.tag, h.ex, fun i x hx => (h.ps i x hx).mono hb, fun i x hx => Nat.lt_of_lt_of_le (h.lt i x hx) hc, h.inj⟩

theorem BkR.look (h : BkR H g k mb ss ns bd cn B) (i : Int) : ∃ es ck, H mb = some (.map es ck) ∧ LookIs Tryz.prog 28 mb es ck (.int .u64 i) false (.pointer ((B i).map fun x => ⟨x.pb, 0, none⟩)) := by
  obtain ⟨es, ck, h1, h2, h3⟩ := h.ex
  have hi : Tryz.prog.info? 56 = some Tryz.t56 := by kernel_rfl
  have hlook := lookIs_int (P := Tryz.prog) (t := 28) (r := mb) (c := ck) (n := i) (ok := false) (zero := .pointer none) Tryz.underlying28 Tryz.underlying50 (inf := Tryz.t56) hi (by kernel_rfl) h2.1
  refine ⟨es, ck, h1, ?_⟩
  unfold lookV at hlook
  rw [h3 i] at hlook
  cases hB : B i with
  | none => rw [hB] at hlook; exact hlook
  | some x => rw [hB] at hlook; exact hlook

/-- A past laid anew under an id. -/
theorem BkR.put {pb : Nat} {zs : List Nat} {C : Int → List Sv} {i : Int} {K : Unit → Heap → Prop} (hg : GOk H g) (h : BkR H g k mb ss ns bd cn B) (hp : PsR H g (cd k cn) pb ss ns bd zs C)
    (hK : ∀ H', Ev (fun tg => tg = (52, (k : Int))) H g H' g → BkR H' g k mb ss ns bd (cn + 1) (Bset B i ⟨pb, cn, zs, C⟩) → K () H') : SemOk Tryz.prog (Instr.mapUpdate 28 (.map (some mb)) (.int .u64 i) (.pointer (some ⟨pb, 0, none⟩))) H K := by
  obtain ⟨es, ck, h1, h2, h3⟩ := h.ex
  refine semOk_mapUpdate Tryz.underlying28 Tryz.underlying50 h1 h2.1 fun H6 hw6 => ?_
  obtain ⟨es', ck', he', hok', hget', hmem', _, _⟩ := mput_ok (n := i) (v := .pointer (some ⟨pb, 0, none⟩)) h2
  rw [he'] at hw6
  have ev : Ev (fun tg => tg = (52, (k : Int))) H g H6 g := Ev.wr hg hw6 fun tg htg => by rw [h.tag] at htg; cases htg; rfl
  have n0 : ¬ ((fun tg : Nat × Int => tg = (52, (k : Int))) (0, 0)) := fun hc => by have := congrArg Prod.fst hc; simp at this
  have nB : ∀ c tg, SpB (cd k c) tg → ¬ ((fun tg : Nat × Int => tg = (52, (k : Int))) tg) := fun c tg ht hc => by
    rw [hc] at ht
    have h1 : (k : Int) = cd k c := ht.1
    have := cd_le (k := k) (c := c)
    omega
  refine hK H6 ev ⟨h.tag, ⟨es', ck', hw6.same, hok', fun j => ?_⟩, fun j x hx => ?_, fun j x hx => ?_, fun j1 j2 x y hx hy hxy => ?_⟩
  · rw [hget']
    unfold Bset
    by_cases hj : j = i
    · rw [if_pos hj, if_pos hj]; rfl
    · rw [if_neg hj, if_neg hj, h3 j]
  · unfold Bset at hx
    split at hx
    · cases hx; exact hp.ev ev n0 (nB cn)
    · exact (h.ps j x hx).ev ev n0 (nB x.c)
  · unfold Bset at hx
    split at hx
    · cases hx; exact Nat.lt_succ_self _
    · exact Nat.lt_succ_of_lt (h.lt j x hx)
  · unfold Bset at hx hy
    split at hx
    · rename_i h4
      cases hx
      split at hy
      · rename_i h5; rw [h4, h5]
      · have := h.lt j2 y hy
        simp only at hxy
        omega
    · split at hy
      · cases hy
        have := h.lt j1 x hx
        simp only at hxy
        omega
      · exact h.inj j1 j2 x y hx hy hxy

/-- A past turned where it lies. -/
theorem BkR.upd {x : Bk} {i : Int} {zs : List Nat} {C : Int → List Sv} (h : BkR H g k mb ss ns bd cn B) (hx : B i = some x) (ev : Ev S H g H' g') (h0 : ¬ S (0, 0)) (h52 : ¬ S (52, (k : Int))) (hS : ∀ c, c < cn → c ≠ x.c → ∀ tg, SpB (cd k c) tg → ¬ S tg) (hb : bd ≤ bd') (hp : PsR H' g' (cd k x.c) x.pb ss ns bd' zs C) : BkR H' g' k mb ss ns bd' cn (Bset B i ⟨x.pb, x.c, zs, C⟩) := by
  obtain ⟨es, ck, h1, h2, h3⟩ := h.ex
  refine ⟨ev.tag _ _ h.tag, ⟨es, ck, ev.get h.tag h52 h1, h2, fun j => ?_⟩, fun j y hy => ?_, fun j y hy => ?_, fun j1 j2 y z hy hz hyz => ?_⟩
  · rw [h3 j]
    unfold Bset
    by_cases hj : j = i
    · rw [if_pos hj, hj, hx]; rfl
    · rw [if_neg hj]
  · unfold Bset at hy
    split at hy
    · cases hy; exact hp
    · rename_i hj
      exact ((h.ps j y hy).ev ev h0 (hS _ (h.lt j y hy) fun hc => hj (h.inj j i y x hy hx hc))).mono hb
  · unfold Bset at hy
    split at hy
    · cases hy; exact h.lt i x hx
    · exact h.lt j y hy
  · unfold Bset at hy hz
    split at hy
    · rename_i h4
      cases hy
      split at hz
      · rename_i h5; rw [h4, h5]
      · rw [h4]; exact h.inj i j2 x z hx hz hyz
    · split at hz
      · rename_i h5
        cases hz
        rw [h5]; exact h.inj j1 i y x hy hx hyz
      · exact h.inj j1 j2 y z hy hz hyz

theorem PsR.clen {e : Int} {pb : Nat} {zs : List Nat} {C : Int → List Sv} (h : PsR H g e pb ss ns bd zs C) : ∀ j : Int, (C j).length ≤ bd := by
  intro j
  obtain ⟨sp, sn, sc, r, h1, h2, _, es, ck, h3, h4, h5, h6⟩ := h.ex
  cases hj : iget es.toList j with
  | none => rw [h6 j hj]; simp
  | some v =>
    obtain ⟨en, hen, hk, _⟩ := iget_mem hj
    have := (h5 en hen trivial).2.2.1
    rw [hk] at this
    exact this

/-- A past laid anew. -/
theorem PsR.new {e : Int} {b90 b91 b93 n : Nat} {H1 H2 H3 : Heap} (hg : GOk H g) (ha : Al H (.cells #[.int .i64 (n : Int)] 2 (0, 0)) b90 H1) (hb : Al H1 (.map #[] 0) b91 H2) (hc : Al H2 (.cells #[.slice (some ⟨b90, 0, none⟩) 1 1, .map (some b91)] 63 (0, 0)) b93 H3) (hbd : 1 ≤ bd) :
    ∃ g3, Ev (fun _ => False) H g H3 g3 ∧ PsR H3 g3 e b93 ss ns bd [n] (fun _ => []) := by
  obtain ⟨e1, t1⟩ := Ev.al (S := fun _ => False) hg ha (16, e)
  obtain ⟨e2, t2⟩ := Ev.al (S := fun _ => False) e1.ok hb (14, e)
  obtain ⟨e3, t3⟩ := Ev.al (S := fun _ => False) e2.ok hc (11, e)
  have e23 := e2.trans e3
  have hown : OwnT H1 _ (16, e) 2 1 I64.cs (some ⟨b90, 0, none⟩) 1 1 ([n].map nI) := ⟨⟨rfl, fun _ => rfl, .inr ⟨b90, 0, _, rfl, ha.same, Nat.le_refl _, by simp, rfl⟩⟩, fun a ha' => by cases ha'; exact t1⟩
  refine ⟨_, e1.trans e23, t3, by simp, hbd, _, _, _, b91, hc.same, hown.ev e23 (fun h => h), e3.tag _ _ t2, #[], 0, hc.keep hb.same, ?_, (fun en hen => by cases hen), fun i _ => rfl⟩
  exact ⟨(fun e he => by cases he), by simp, (fun e he => by cases he), by simp⟩

/-- The same, the map laid first. -/
theorem PsR.new' {e : Int} {b90 b91 b93 n : Nat} {H1 H2 H3 : Heap} (hg : GOk H g) (hb : Al H (.map #[] 0) b91 H1) (ha : Al H1 (.cells #[.int .i64 (n : Int)] 2 (0, 0)) b90 H2) (hc : Al H2 (.cells #[.slice (some ⟨b90, 0, none⟩) 1 1, .map (some b91)] 63 (0, 0)) b93 H3) (hbd : 1 ≤ bd) :
    ∃ g3, Ev (fun _ => False) H g H3 g3 ∧ PsR H3 g3 e b93 ss ns bd [n] (fun _ => []) := by
  obtain ⟨e1, t1⟩ := Ev.al (S := fun _ => False) hg hb (14, e)
  obtain ⟨e2, t2⟩ := Ev.al (S := fun _ => False) e1.ok ha (16, e)
  obtain ⟨e3, t3⟩ := Ev.al (S := fun _ => False) e2.ok hc (11, e)
  have e23 := e2.trans e3
  have hown : OwnT H2 _ (16, e) 2 1 I64.cs (some ⟨b90, 0, none⟩) 1 1 ([n].map nI) := ⟨⟨rfl, fun _ => rfl, .inr ⟨b90, 0, _, rfl, ha.same, Nat.le_refl _, by simp, rfl⟩⟩, fun a ha' => by cases ha'; exact t2⟩
  refine ⟨_, e1.trans e23, t3, by simp, hbd, _, _, _, b91, hc.same, hown.ev e3 (fun h => h), e23.tag _ _ t1, #[], 0, e23.get t1 (fun h => h) hb.same, ?_, (fun en hen => by cases hen), fun i _ => rfl⟩
  exact ⟨(fun e he => by cases he), by simp, (fun e he => by cases he), by simp⟩

theorem f84_ht {s : Sec} {bs : List Int} (hss : 0 < ss ∧ ss ≤ 16) (h : SecOk H g ss s bs) : HT Tryz.prog 84 [.slice s.p s.n s.c] H fun v H' => Sub H H' ∧ ∃ b arr c, v = .slice (some ⟨b, 0, none⟩) ss c ∧ ss ≤ c ∧ H b = none ∧ H' b = some (.cells arr 5 (0, 0)) ∧ ss ≤ arr.size ∧ arr.toList.take ss = bs.map fun x => .int .u8 x := by
  obtain ⟨sb, so, hsp, hcell⟩ := h.cells
  have hn := h.n
  have hlen := h.len
  apply f84_of
  refine ⟨_, binIs_slice_eql Tryz.underlying35, (fun hx => by rw [hsp] at hx; cases hx), fun _ b5 h1 ha => ?_⟩
  refine semOk_append (T := 5) (inf := Tryz.t5) (zero := .int .u8 0) (xs := []) (ys := bs.map fun x => .int .u8 x) Tryz.underlying35 (by kernel_rfl) (by kernel_rfl) (.inr ⟨b5, 0, #[], rfl, ha.same, Nat.le_refl _, by simp, by simp⟩) ⟨sb, so, hsp, hcell.al ha⟩ (by rw [List.length_map, hlen, hn]; show ss = ss * 1; omega) (by intro v hv; obtain ⟨x, _, rfl⟩ := List.mem_map.1 hv; rfl) (by rw [hn]; show 2 * (0 + ss) * 1 ≤ 2 ^ 48; omega) (by omega) ?_ ?_ (by omega)
  · intro b o arr h' hp hb hsz hfit
    omega
  · intro c' b' h2 hc' ha2
    refine ⟨_, _, _, rfl, ha.sub.al ha2, b', _, c', by rw [hn]; simp, by omega, ?_, ha2.same, ?_, ?_⟩
    · cases hc : H b' with
      | none => rfl
      | some o => have := ha.keep hc; rw [ha2.fresh] at this; cases this
    · simp [hlen]
    · simp only [List.nil_append, Array.toList_append]
      rw [List.take_append_of_le_length (by simp [hlen]), List.take_of_length_le (by simp [hlen])]

end

end Go.Proofs.Qxb6500695aGreatFmt
