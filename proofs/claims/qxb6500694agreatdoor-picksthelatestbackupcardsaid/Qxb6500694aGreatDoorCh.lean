/-
  CONTRACTS, PART H: MakePlan.
-/
import Derived.Test.Qxb6500694aGreatDoorCg
import Derived.Test.Qxb6500694aGreatDoorSd
import Derived.Test.Qxb6500694aGreatDoorVh
namespace Go.Proofs.Qxb6500694aGreatDoor
open Go Go.Eng Go.Proofs
set_option maxRecDepth 100000
set_option linter.unusedVariables false
set_option linter.unusedSimpArgs false

/-- Legs that join a to s, empty ones among them. -/
def conn : Int → List Leg → Int → Prop
  | a, [], s => a = s
  | a, l :: ls, s => l.fr = a ∧ l.fr ≤ l.to ∧ conn l.to ls s

/-- Legs that join a to s, none empty. -/
def joins : Int → List Leg → Int → Prop
  | a, [], s => a = s
  | a, l :: ls, s => l.fr = a ∧ l.fr < l.to ∧ joins l.to ls s

/-- What is replayed beyond start. -/
def rep (start : Int) : List Leg → List Leg
  | [] => []
  | l :: ls => if (if start > l.fr then start else l.fr) < l.to then ⟨l.tl, if start > l.fr then start else l.fr, l.to⟩ :: rep start ls else rep start ls

theorem rep_joins {start s : Int} (hs : start ≤ s) : ∀ (ls : List Leg) (a : Int), conn a ls s → joins (if start > a then start else a) (rep start ls) s
  | [], a, h => by
    simp only [conn] at h
    simp only [rep, joins]
    split <;> omega
  | l :: ls, a, h => by
    obtain ⟨h1, h2, h3⟩ := h
    have ih := rep_joins hs ls l.to h3
    unfold rep
    rw [h1]
    by_cases hc : (if start > a then start else a) < l.to
    · rw [if_pos hc]
      refine ⟨rfl, hc, ?_⟩
      rw [if_neg] at ih
      · exact ih
      · split at hc <;> omega
    · rw [if_neg hc]
      have : (if start > l.to then start else l.to) = (if start > a then start else a) := by
        split at hc <;> split <;> (try split) <;> omega
      rw [this] at ih
      exact ih

theorem cut_conn {s : Int} : ∀ (ls : List Leg) (a e : Int), conn a ls e → a ≤ s → s ≤ e → (ls ≠ [] ∨ a = s) → conn a (cutL s ls) s
  | [], a, e, h, h1, h2, h3 => by
    simp only [conn] at h
    simp only [cutL, conn]
    omega
  | l :: ls, a, e, h, h1, h2, h3 => by
    obtain ⟨g1, g2, g3⟩ := h
    unfold cutL
    rw [if_neg (by omega)]
    by_cases hc : s < l.to
    · rw [if_pos hc]
      refine ⟨g1, by simp only; omega, ?_⟩
      simp only
      cases ls with
      | nil => simp [cutL, conn]
      | cons l2 ls =>
        obtain ⟨k1, k2, k3⟩ := g3
        unfold cutL
        rw [if_pos (by omega)]
        simp [conn]
    · rw [if_neg hc]
      refine ⟨g1, g2, ?_⟩
      simp only
      cases ls with
      | nil =>
        simp only [conn] at g3
        simp only [cutL, conn]
        omega
      | cons l2 ls => exact cut_conn (l2 :: ls) l.to e g3 (by omega) h2 (.inl (by simp))

theorem conn_le : ∀ (ls : List Leg) (a s : Int), conn a ls s → a ≤ s ∧ ∀ l ∈ ls, a ≤ l.fr ∧ l.to ≤ s
  | [], a, s, h => by simp only [conn] at h; exact ⟨by omega, by simp⟩
  | l :: ls, a, s, h => by
    obtain ⟨h1, h2, h3⟩ := h
    obtain ⟨i1, i2⟩ := conn_le ls l.to s h3
    refine ⟨by omega, fun x hx => ?_⟩
    rcases List.mem_cons.1 hx with rfl | hx
    · exact ⟨by omega, i1⟩
    · have := i2 x hx
      exact ⟨by omega, this.2⟩

theorem within_le {m : Man} : ∀ {ls : List Leg}, withinL m ls = true → ∃ l ∈ ls, l.tl = m.tl ∧ l.fr ≤ m.start ∧ m.stop ≤ l.to
  | [], h => by simp [withinL] at h
  | l :: ls, h => by
    unfold withinL at h
    split at h
    · rename_i ht
      simp at h ht
      exact ⟨l, List.mem_cons_self, ht, h.1, h.2⟩
    · obtain ⟨x, hx, h2⟩ := within_le h
      exact ⟨x, List.mem_cons_of_mem _ hx, h2⟩

theorem legs_conn : ∀ (hs : List Hist), hs ≠ [] → (∀ h ∈ hs, inU h.br) → (∀ i (h : i + 1 < hs.length), hs[i].br ≤ hs[i + 1].br) → conn (toOf hs) (legsOf hs) 18446744073709551615
  | [], h, _, _ => absurd rfl h
  | [x], _, hu, _ => by
    have := hu x List.mem_cons_self
    unfold inU at this
    refine ⟨rfl, ?_, rfl⟩
    simp only [toOf]
    omega
  | x :: y :: r, _, hu, hl => by
    have h0 := hl 0 (by simp)
    simp at h0
    refine ⟨rfl, h0, ?_⟩
    refine legs_conn (y :: r) (by simp) (fun h hh => hu h (List.mem_cons_of_mem _ hh)) fun i hi => ?_
    have := hl (i + 1) (by simp at hi ⊢; omega)
    simpa using this

theorem AncOk.conn {esH : Array MapEntry} {t : Int} {hs : List Hist} (h : AncOk esH t hs) : conn 0 (legsOf hs) 18446744073709551615 := by
  have hne : hs ≠ [] := by
    intro he; have := h.pos; rw [he] at this; simp at this
  have h1 := legs_conn hs hne (fun x hx => (h.all x hx).2.1.2.1) (fun i hi => (h.link i hi).2)
  cases hs with
  | nil => exact absurd rfl hne
  | cons x r =>
    have h2 := h.first x rfl
    have h3 := (h.all x List.mem_cons_self).2.1.2.2.2.2.2 h2
    simp only [toOf] at h1
    rw [h3] at h1
    exact h1

section
variable {H : Heap} {ba : Nat} {esM esL esH : Array MapEntry}

/-- The backup that was picked: sound; the one that is named; if none is, no other that is sound and within the path stopped later. -/
def Picked (esM : Array MapEntry) (hs : List Hist) (stop bk : Int) (xs : List Man) (m : Man) : Prop :=
  ChL esM m.id xs.reverse ∧ (bk ≠ 0 → m.id = bk) ∧ (bk = 0 → ∀ x : Man, iget esM.toList x.id = some x.val → m.stop < x.stop → ∀ l, ChL esM x.id l → ∃ y ∈ l, withinL y (cutL stop (legsOf hs)) = false)

/-- What MakePlan hands back. -/
def planPost (H : Heap) (esM esH : Array MapEntry) (f : Nat) (t bk : Int) (v : Value) (H' : Heap) : Prop :=
  ∃ t' stop ow p n c p2 n2 c2 e, v = .tuple #[.agg #[.int .u32 t', .int .u64 stop, .int .u32 ow, .slice p n c, .slice p2 n2 c2], e] ∧ IsI e ∧ Sub H H' ∧
    (e = .nilIface → ∃ (hs : List Hist) (xs : List Man) (zs : List Leg) (m : Man), ancF esH f t = some hs ∧ inU stop ∧ Mans H' p n c xs ∧ Legs H' p2 n2 c2 zs ∧ n ≤ 131072 ∧ n2 ≤ 131072 ∧ 0 < n ∧ UpOk xs ∧
      (∀ x ∈ xs, iget esM.toList x.id = some x.val ∧ x.start ≤ x.stop) ∧ (∀ x, xs.head? = some x → x.par = 0 ∧ x.pn = 4) ∧ xs.getLast? = some m ∧ (∀ x ∈ xs, withinL x (cutL stop (legsOf hs)) = true) ∧
      joins m.start zs stop ∧ Picked esM hs stop bk xs m)

theorem errPlan {h : Heap} {f : Nat} {t bk : Int} {e : Value} (he : IsI e) (hne : e ≠ .nilIface) (hs : Sub H h) :
    planPost H esM esH f t bk (.tuple #[.agg #[.int .u32 0, .int .u64 0, .int .u32 0, .slice none 0 0, .slice none 0 0], e]) h :=
  ⟨0, 0, 0, none, 0, 0, none, 0, 0, e, rfl, he, hs, fun h => absurd h hne⟩

theorem f60_L8_ht {f : Nat} {t bk stop ow : Int} {p : Option Addr} {n c : Nat} {q : Option Addr} {qn qc : Nat} {x40 x41 x42 : Int} {x43 : Option Addr} {x43n x43c : Nat} {x44 : Option Addr} {x44n x44c : Nat}
    {hs : List Hist} {xs : List Man} {path : List Leg} {m : Man} {h0 : Heap} (hsub : Sub H h0) (hr : ReadL h0 3 Leg.cs q qn path) (hqn : qn ≤ 131072)
    (hanc : ancF esH f t = some hs) (hst : inU stop) (ho : Mans h0 p n c xs) (hn1 : n ≤ 131072) (hn0 : 0 < n) (hup : UpOk xs)
    (hall : ∀ x ∈ xs, iget esM.toList x.id = some x.val ∧ x.start ≤ x.stop) (hhead : ∀ x, xs.head? = some x → x.par = 0 ∧ x.pn = 4) (hlast : xs.getLast? = some m) (hw : ∀ x ∈ xs, withinL x (cutL stop (legsOf hs)) = true)
    (hj : joins m.start (rep m.start path) stop) (hpk : Picked esM hs stop bk xs m) :
    ∀ (k i : Nat) (zs : List Leg) (p2 : Option Addr) (n2 c2 : Nat) (h : Heap), i + k = qn → Sub h0 h → New h0 p2 → Legs h p2 n2 c2 zs → n2 ≤ i → zs ++ rep m.start (path.drop i) = rep m.start path →
      f60_L8 x40 x41 x42 x43 x43n x43c x44 x44n x44c t stop ow p n c p2 n2 c2 m.start q qn qc (qn : Int) (i : Int) h (planPost H esM esH f t bk) := by
  intro k
  induction k with
  | zero =>
    intro i zs p2 n2 c2 h hi hs2 hnew ho2 hn2 hz
    apply f60_L8_of
    refine ⟨fun hd => absurd (of_decide_eq_true hd) (by omega), fun _ => ?_⟩
    have : zs = rep m.start path := by
      rw [List.drop_eq_nil_of_le (by have := hr.len; omega)] at hz
      simpa [rep] using hz
    exact ⟨t, stop, ow, p, n, c, p2, n2, c2, _, rfl, IsI.nil, hsub.trans hs2, fun _ => ⟨hs, xs, zs, m, hanc, hst, ho.sub hs2, ho2, hn1, by omega, hn0, hup, hall, hhead, hlast, hw, by rw [this]; exact hj, hpk⟩⟩
  | succ k ih =>
    intro i zs p2 n2 c2 h hi hs2 hnew ho2 hn2 hz
    apply f60_L8_of
    refine ⟨fun _ => ?_, fun hd => absurd (of_decide_eq_false hd) (by simp; omega)⟩
    have hlen := hr.len
    obtain ⟨b, o, hp, hc⟩ := (hr.sub hs2).cells i (by omega)
    rw [List.drop_eq_getElem_cons (by omega), rep] at hz
    refine ⟨b, o, hp, by omega, by omega, _, _, _, hc, fun _ => ⟨fun hd => ?_, fun hd => ?_⟩⟩
    · rw [if_pos (of_decide_eq_true hd)] at hz
      intro b' h1 ha
      refine app_leg ⟨path[i].tl, if m.start > path[i].fr then m.start else path[i].fr, path[i].to⟩ ha ho2 (by omega) hs2 hnew fun p' c' h3 a1 a2 a3 _ => ⟨_, _, _, rfl, ?_⟩
      apply f60_L9_of
      unfold f60_L9_pre
      rw [wrapS (by omega)]
      exact ih (i + 1) _ p' (n2 + 1) c' h3 (by omega) a1 a2 a3 (by omega) (by simpa using hz)
    · rw [if_neg (of_decide_eq_false hd)] at hz
      apply f60_L9_of
      unfold f60_L9_pre
      rw [wrapS (by omega)]
      exact ih (i + 1) zs p2 n2 c2 h (by omega) hs2 hnew ho2 (by omega) hz

end

end Go.Proofs.Qxb6500694aGreatDoor
