/-
  sort.Slice at the manifests, by the shelf.
-/
import Derived.Test.Qxb6500694aGreatDoorSa
import Derived.Test.Qxb6500694aGreatDoorSb
import Derived.Shelf.SlSortFuncK.WholeK
import Derived.Shelf.Lay
import Derived.Ground.GgsProg
import Derived.Test.Qxb6500694aGreatDoorCb
namespace Go.Proofs
open Go.Shelf

shelf_lay LaysGg.n6 Ggs 6 at Tryz as Tryz.sortSlice6

end Go.Proofs

namespace Go.Proofs.Qxb6500694aGreatDoor
open Go Go.Eng Go.Proofs Go.Shelf Go.RowKit Go.Lib Go.Sort
set_option maxRecDepth 100000
set_option linter.unusedVariables false
set_option linter.unusedSimpArgs false

theorem swapMan (n : Nat) (h2 : 2 ≤ n) : Lib.swapperK n Tryz.t97 25 = 9 := by
  have a : Tryz.t97.hasPointers = true := by kernel_rfl
  have b : Tryz.t97.bytes = 64 := by kernel_rfl
  have c : (n == 0) = false := by simp; omega
  have d : (n == 1) = false := by simp; omega
  simp [Lib.swapperK, a, b, c, d]

def ltId (x y : Man) : Bool := decide (x.id < y.id)

theorem swo_ltId : SWO ltId where
  irrefl x := by simp [ltId]
  trans x y z h1 h2 := by simp [ltId] at *; omega
  ntrans x y z h1 h2 := by simp [ltId] at *; omega

theorem man_one (x : Man) : ∀ v ∈ Man.cs x, v.oneCell' = true := by simp [Man.cs, Value.oneCell']

theorem perm_toList {α : Type} [Inhabited α] {d d' : Array α} (h : PermIn 0 d.size d d') : d'.toList.Perm d.toList := by
  have h1 := h.2.2
  have h2 : (d'.extract 0 d.size).toList = d'.toList := by rw [← h.1, Array.extract_size]
  rw [h2, Array.extract_size] at h1
  exact h1

/-- sort.Slice of the manifests, two or more. -/
theorem f61_man2 {H : Heap} {p : Option Addr} {n c lb : Nat} {xs : List Man} (hn : n < 2 ^ 34) (h2 : 2 ≤ n) (ho : Mans H p n c xs) (hl : H lb = some (.cells #[.slice p n c] 92 (0, 0))) :
    HT Tryz.prog 61 [.iface 92 (.slice p n c), .func (.func 62) #[] #[.pointer (some ⟨lb, 0, none⟩)]] H fun v H' =>
      v = .tuple #[] ∧ ∃ ys, ys.Perm xs ∧ Mans H' p n c ys ∧ (∀ b, (∀ a, p = some a → a.block ≠ b) → H' b = H b) := by
  letI : Inhabited Man := ⟨Man.zero⟩
  refine ⟨enters_of Tryz.func61 (by kernel_rfl) rfl, fun w hw => ?_⟩
  have hlen := ho.len
  obtain ⟨b, o, rfl⟩ := ho.isSome (by omega)
  have hbb : ∃ arr, H b = some (.cells arr 97 (0, 0)) := by
    obtain ⟨b', o', arr, hp, hb, _⟩ := ho.at (i := 0) (by omega)
    simp at hp; obtain ⟨rfl, rfl⟩ := hp; exact ⟨arr, hb⟩
  obtain ⟨arr, hb⟩ := hbb
  have hne : lb ≠ b := by
    intro he; subst he; rw [hl] at hb; simp at hb
  have hgb := hw _ _ hb
  have hgl := hw _ _ hl
  have hblt : b < w.heap.size := (Array.getElem?_eq_some_iff.1 hgb).1
  have hllt : lb < w.heap.size := (Array.getElem?_eq_some_iff.1 hgl).1
  have hd : xs = (xs.toArray).toList := rfl
  have ho' : OwnL H 97 6 Man.cs (some ⟨b, o, none⟩) n c (xs.toArray).toList := ho
  have hH := holdsK_own Man.size ho' hw
  have hds : xs.toArray.size = n := by simp [hlen]
  have hBs : w.cell? ⟨lb, 0, none⟩ = some (.slice (some ⟨b, o, none⟩) xs.toArray.size c) := by
    rw [hds]; simp [World.cell?, hgl]
  have hless : LessReadsK Tryz.prog 62 #[.pointer (some ⟨lb, 0, none⟩)] Man.cs 6 ltId b o xs.toArray.size w := by
    intro m os dk hs i j hi hj
    have e : sortWorldK Man.cs 6 w b o m dk os = putRowK Man.cs 6 (grow (Sort.ahead w m) os) b o dk := by
      unfold sortWorldK; rw [putRowK_grow _ _ (Sort.ahead w m) _ b o _ hblt]
    have hHg : HoldsK Man.cs 6 (grow (Sort.ahead w m) os) b o xs.toArray := holdsK_grow _ _ _ _ b o _ hblt (holdsK_ahead _ _ _ _ _ _ _ hH)
    refine less62 b o c lb xs.toArray.size _ (fun t => dk[t]!.id) ?_ (fun t ht => ?_) i j hi hj (by omega)
    · rw [e, cell?_putRowK_other _ _ _ b o dk _ (by exact hne), cell?_grow _ _ _ (by exact hllt)]; exact hBs
    · rw [e]; exact ((holdsK_putRowK _ _ _ b o xs.toArray dk hHg hs).cell (i := t) (c := 0) (by omega) (by omega)).1
  have key := Any.sort_Slice_cells_sorted Tryz.sortSlice6 92 97 Tryz.t92 Tryz.t97 (by kernel_rfl) (by kernel_rfl) (by kernel_rfl) (by kernel_rfl) 25 (fun _ => by kernel_rfl) Man.cs 6 Man.size (by kernel_rfl) (fun _ => by kernel_rfl)
    man_one ltId swo_ltId 62 #[.pointer (some ⟨lb, 0, none⟩)] (enters_of Tryz.func62 (by kernel_rfl) rfl) b o c xs.toArray (by omega) (by omega) 118 (by rw [swapMan _ (by omega)]; kernel_rfl) false
    (fun args W => run_callFunc_extern Tryz.func118 (by kernel_rfl) (by kernel_rfl) (by kernel_rfl) (e := Extern.ReflectliteSwapper.swap false) (by kernel_rfl) args W) w hless hH hblt
  rw [hds] at key
  refine key.mono ?_
  rintro e w' ⟨rfl, d', m, os, hp, hs, rfl⟩
  rw [← hds] at hp
  obtain ⟨H', hwr, hsat, hfr, hown⟩ := sat_sorted Man.size ho' hw hp.1 m os
  exact ⟨_, H', rfl, ⟨rfl, rfl, rfl⟩, hsat, hfr, rfl, d'.toList, perm_toList hp, hown, fun b' hb' => hwr.other (fun he => hb' _ rfl he.symm)⟩

end Go.Proofs.Qxb6500694aGreatDoor
