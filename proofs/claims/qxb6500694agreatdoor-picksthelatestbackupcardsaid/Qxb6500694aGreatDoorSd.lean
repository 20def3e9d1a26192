/-
  slices.SortFunc at the manifests, by the shelf.
-/
import Derived.Test.Qxb6500694aGreatDoorSc
import Derived.Shelf.SlSortCmp.WholeK
import Derived.Ground.SlsfProg
namespace Go.Proofs
open Go.Shelf

shelf_lay_g SlLaysF0.n6 Slsf 6 at Tryz 87 as Tryz.sortFunc6

end Go.Proofs

namespace Go.Proofs.Qxb6500694aGreatDoor
open Go Go.Eng Go.Proofs Go.Shelf Go.RowKit Go.Lib Go.Sort
set_option maxRecDepth 100000
set_option linter.unusedVariables false
set_option linter.unusedSimpArgs false

def cfStop (x y : Man) : Int := cmpStop x.stop x.id y.stop y.id

/-- The candidates: the one that stopped last first. -/
def ltStop (x y : Man) : Bool := decide (y.stop < x.stop) || (decide (y.stop = x.stop) && decide (y.id < x.id))

theorem ltOf_cfStop (x y : Man) : ltOf cfStop x y = ltStop x y := by
  unfold ltOf cfStop cmpStop cmpI ltStop
  rcases Int.lt_trichotomy y.stop x.stop with h | h | h
  · simp [h]
  · simp [h]
    rcases Int.lt_trichotomy y.id x.id with h' | h' | h'
    · simp [h']
    · simp [h']
    · have h1 : ¬ y.id < x.id := by omega
      simp [h', h1]
  · have h1 : ¬ y.stop < x.stop := by omega
    have h2 : ¬ y.stop = x.stop := by omega
    simp [h, h1, h2]

theorem swo_cfStop : SWO (ltOf cfStop) where
  irrefl x := by rw [ltOf_cfStop]; simp [ltStop]
  trans x y z h1 h2 := by
    rw [ltOf_cfStop] at *; simp [ltStop] at *; omega
  ntrans x y z h1 h2 := by
    rw [ltOf_cfStop] at *; simp [ltStop] at *; omega

/-- slices.SortFunc of the manifests. -/
theorem f87_man {H : Heap} {p : Option Addr} {n c : Nat} {xs : List Man} (hn : n < 2 ^ 34) (hsome : p ≠ none) (ho : Mans H p n c xs) :
    HT Tryz.prog 87 [.slice p n c, .func (.func 88) #[] #[]] H fun v H' =>
      v = .tuple #[] ∧ ∃ ys, ys.Perm xs ∧ (∀ i j, i < j → (hj : j < ys.length) → (hi : i < ys.length) → ltStop ys[j] ys[i] = false) ∧ Mans H' p n c ys ∧ (∀ b, (∀ a, p = some a → a.block ≠ b) → H' b = H b) := by
  letI : Inhabited Man := ⟨Man.zero⟩
  refine ⟨enters_of Tryz.func87 (by kernel_rfl) rfl, fun w hw => ?_⟩
  have hlen := ho.len
  obtain ⟨b, o, arr, hpp, hb⟩ : ∃ b o arr, p = some ⟨b, o, none⟩ ∧ H b = some (.cells arr 97 (0, 0)) := by
    rcases ho.own with ⟨h1, _⟩ | ⟨b, o, arr, hp, hb, _⟩
    · exact absurd h1 hsome
    · exact ⟨b, o, arr, hp, hb⟩
  subst hpp
  have hgb := hw _ _ hb
  have hblt : b < w.heap.size := (Array.getElem?_eq_some_iff.1 hgb).1
  have ho' : OwnL H 97 6 Man.cs (some ⟨b, o, none⟩) n c (xs.toArray).toList := ho
  have hH := holdsK_own Man.size ho' hw
  have hds : xs.toArray.size = n := by simp [hlen]
  have hcmp : CmpLays Tryz.prog 88 #[] Man.cs 6 cfStop b o xs.toArray.size w := by
    intro m os dk hs x y
    exact cmp88 x.id x.par x.tl x.start x.stop x.pp x.pn x.pc y.id y.par y.tl y.start y.stop y.pp y.pn y.pc _
  have key := AnyQ.slices_SortFunc Tryz.sortFunc6 6 (fun _ => by kernel_rfl) (fun _ => by kernel_rfl) Man.cs Man.size man_one cfStop swo_cfStop 88 #[] b o c xs.toArray w
    (enters_of Tryz.func88 (by kernel_rfl) rfl) hcmp hH hblt (by omega)
  rw [hds] at key
  refine key.mono ?_
  rintro e w' ⟨rfl, d', m, os, hp, hs, rfl⟩
  rw [← hds] at hp
  obtain ⟨H', hwr, hsat, hfr, hown⟩ := sat_sorted Man.size ho' hw hp.1 m os
  refine ⟨_, H', rfl, ⟨rfl, rfl, rfl⟩, hsat, hfr, rfl, d'.toList, perm_toList hp, ?_, hown, fun b' hb' => hwr.other (fun he => hb' _ rfl he.symm)⟩
  intro i j hij hj hi
  have hsz : d'.size = n := by rw [hp.1, hds]
  have := hs i j (by omega) hij (by simp at hj; omega)
  rw [ltOf_cfStop, getElem!_pos d' j (by simpa using hj), getElem!_pos d' i (by simpa using hi)] at this
  simpa using this

end Go.Proofs.Qxb6500694aGreatDoor
