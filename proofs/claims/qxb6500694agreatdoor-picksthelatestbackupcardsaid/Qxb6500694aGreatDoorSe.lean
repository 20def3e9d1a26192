/-
  sort.Slice at the timelines, and at one element or none, by the shelf.
-/
import Derived.Test.Qxb6500694aGreatDoorSc
import Derived.Shelf.GgSortFunc.Whole
import Derived.Shelf.GgSortFunc.Tiny
namespace Go.Proofs.Qxb6500694aGreatDoor
open Go Go.Eng Go.Proofs Go.Shelf Go.RowKit Go.Lib Go.Sort
set_option maxRecDepth 100000
set_option linter.unusedVariables false
set_option linter.unusedSimpArgs false

theorem grown {H : Heap} {w : World} (os : Array Obj) (hw : Sat H w.heap) : Sat H (grow w os).heap ∧ Fr H w.heap H (grow w os).heap := by
  refine ⟨fun b o hb => ?_, by simp [grow], fun b hb _ _ => ?_, fun b h1 h2 => absurd h1 h2⟩
  · have := hw b o hb
    simp only [grow]
    rw [Array.getElem?_append_left (Array.getElem?_eq_some_iff.1 this).1]; exact this
  · simp only [grow]
    rw [Array.getElem?_append_left hb]

theorem f61_tiny_man {H : Heap} {p : Option Addr} {n c : Nat} (h1 : n ≤ 1) (lb : Array Value) :
    HT Tryz.prog 61 [.iface 92 (.slice p n c), .func (.func 62) #[] lb] H fun v H' => v = .tuple #[] ∧ H' = H := by
  have hK : Lib.swapperK n Tryz.t97 25 = n + 1 := by
    rcases Nat.eq_zero_or_pos n with h | h
    · subst h; simp [Lib.swapperK]
    · obtain rfl : n = 1 := by omega
      simp [Lib.swapperK]
  refine ⟨enters_of Tryz.func61 (by kernel_rfl) rfl, fun w hw => ?_⟩
  have key := Any.sort_Slice_tiny Tryz.sortSlice6 92 97 Tryz.t92 Tryz.t97 (by kernel_rfl) (by kernel_rfl) (by kernel_rfl) (by kernel_rfl) 25 (fun _ => by kernel_rfl) p n c h1 (110 + n) (by
    rw [hK]
    rcases Nat.eq_zero_or_pos n with h | h
    · subst h; kernel_rfl
    · obtain rfl : n = 1 := by omega
      kernel_rfl) (.func 62) #[] lb w
  refine key.mono ?_
  rintro e w' ⟨rfl, os, rfl⟩
  exact ⟨_, H, rfl, ⟨rfl, rfl, rfl⟩, (grown os hw).1, (grown os hw).2, rfl, rfl⟩

theorem f61_tiny_tl {H : Heap} {p : Option Addr} {n c : Nat} (h1 : n ≤ 1) (lb : Array Value) :
    HT Tryz.prog 61 [.iface 111 (.slice p n c), .func (.func 72) #[] lb] H fun v H' => v = .tuple #[] ∧ H' = H := by
  have hK : Lib.swapperK n Tryz.t29 10 = n + 1 := by
    rcases Nat.eq_zero_or_pos n with h | h
    · subst h; simp [Lib.swapperK]
    · obtain rfl : n = 1 := by omega
      simp [Lib.swapperK]
  refine ⟨enters_of Tryz.func61 (by kernel_rfl) rfl, fun w hw => ?_⟩
  have key := Any.sort_Slice_tiny Tryz.sortSlice6 111 29 Tryz.t111 Tryz.t29 (by kernel_rfl) (by kernel_rfl) (by kernel_rfl) (by kernel_rfl) 10 (fun _ => by kernel_rfl) p n c h1 (110 + n) (by
    rw [hK]
    rcases Nat.eq_zero_or_pos n with h | h
    · subst h; kernel_rfl
    · obtain rfl : n = 1 := by omega
      kernel_rfl) (.func 72) #[] lb w
  refine key.mono ?_
  rintro e w' ⟨rfl, os, rfl⟩
  exact ⟨_, H, rfl, ⟨rfl, rfl, rfl⟩, (grown os hw).1, (grown os hw).2, rfl, rfl⟩

def Tl.cs (x : Int) : List Value := [.int .u32 x]
theorem Tl.size (x : Int) : (Tl.cs x).length = 1 := rfl
abbrev Tls (H : Heap) (p : Option Addr) (n c : Nat) (xs : List Int) : Prop := OwnL H 29 1 Tl.cs p n c xs

theorem swapTl (n : Nat) (h2 : 2 ≤ n) : Lib.swapperK n Tryz.t29 10 = 6 := by
  have a : Tryz.t29.hasPointers = false := by kernel_rfl
  have b : Tryz.t29.bytes = 4 := by kernel_rfl
  have c : (n == 0) = false := by simp; omega
  have d : (n == 1) = false := by simp; omega
  simp [Lib.swapperK, a, b, c, d]

def ltI (x y : Int) : Bool := decide (x < y)

theorem swo_ltI : SWO ltI where
  irrefl x := by simp [ltI]
  trans x y z h1 h2 := by simp [ltI] at *; omega
  ntrans x y z h1 h2 := by simp [ltI] at *; omega

/-- sort.Slice of the timelines, two or more. -/
theorem f61_tl2 {H : Heap} {p : Option Addr} {n c lb : Nat} {xs : List Int} (hn : n < 2 ^ 34) (h2 : 2 ≤ n) (ho : Tls H p n c xs) (hl : H lb = some (.cells #[.slice p n c] 111 (0, 0))) :
    HT Tryz.prog 61 [.iface 111 (.slice p n c), .func (.func 72) #[] #[.pointer (some ⟨lb, 0, none⟩)]] H fun v H' =>
      v = .tuple #[] ∧ ∃ ys, ys.Perm xs ∧ Tls H' p n c ys ∧ (∀ b, (∀ a, p = some a → a.block ≠ b) → H' b = H b) := by
  refine ⟨enters_of Tryz.func61 (by kernel_rfl) rfl, fun w hw => ?_⟩
  have hlen := ho.len
  obtain ⟨b, o, rfl⟩ := ho.isSome (by omega)
  have hbb : ∃ arr, H b = some (.cells arr 29 (0, 0)) := by
    obtain ⟨b', o', arr, hp, hb, _⟩ := ho.at (i := 0) (by omega)
    simp at hp; obtain ⟨rfl, rfl⟩ := hp; exact ⟨arr, hb⟩
  obtain ⟨arr, hb⟩ := hbb
  have hne : lb ≠ b := by
    intro he; subst he; rw [hl] at hb; simp at hb
  have hgb := hw _ _ hb
  have hgl := hw _ _ hl
  have hblt : b < w.heap.size := (Array.getElem?_eq_some_iff.1 hgb).1
  have hllt : lb < w.heap.size := (Array.getElem?_eq_some_iff.1 hgl).1
  have ho' : OwnL H 29 1 (fun x => [Value.int .u32 x]) (some ⟨b, o, none⟩) n c (xs.toArray).toList := ho
  have hHK := holdsK_own Tl.size ho' hw
  have hH := holds_K (Value.int .u32) w b o xs.toArray hHK
  have hds : xs.toArray.size = n := by simp [hlen]
  have hBs : w.cell? ⟨lb, 0, none⟩ = some (.slice (some ⟨b, o, none⟩) xs.toArray.size c) := by
    rw [hds]; simp [World.cell?, hgl]
  have hless : LessReads Tryz.prog 72 #[.pointer (some ⟨lb, 0, none⟩)] (Value.int .u32) ltI b o xs.toArray.size w := by
    intro m os dk hs i j hi hj
    have e : sortWorld (Value.int .u32) w b o m dk os = putRow (Value.int .u32) (grow (Sort.ahead w m) os) b o dk := by
      unfold sortWorld; rw [putRow_grow _ (Sort.ahead w m) _ b o _ hblt]
    have hHg : Holds (Value.int .u32) (grow (Sort.ahead w m) os) b o xs.toArray := holds_grow _ _ _ b o _ hblt (holds_ahead _ _ _ _ _ _ hH)
    refine less72 b o c lb xs.toArray.size _ (fun t => dk[t]!) ?_ (fun t ht => ?_) i j hi hj (by omega)
    · rw [e, cell?_putRow_other _ _ b o dk _ (Or.inl (by exact hne)), cell?_grow _ _ _ (by exact hllt)]; exact hBs
    · rw [e]; exact cell?_putRow _ _ b o xs.toArray dk hHg hs t (by omega)
  have key := Any.sort_Slice_sorted Tryz.sortSlice6 111 29 Tryz.t111 Tryz.t29 (by kernel_rfl) (by kernel_rfl) (by kernel_rfl) (by kernel_rfl) 10 (fun _ => by kernel_rfl) (by kernel_rfl) (fun _ => by kernel_rfl) (Value.int .u32) (fun _ => rfl)
    ltI swo_ltI 72 #[.pointer (some ⟨lb, 0, none⟩)] (enters_of Tryz.func72 (by kernel_rfl) rfl) b o c xs.toArray (by omega) (by omega) 115 (by rw [swapTl _ (by omega)]; kernel_rfl) true
    (fun args W => run_callFunc_extern Tryz.func115 (by kernel_rfl) (by kernel_rfl) (by kernel_rfl) (e := Extern.ReflectliteSwapper.swap true) (by kernel_rfl) args W) w hless hH hblt
  rw [hds] at key
  refine key.mono ?_
  rintro e w' ⟨rfl, d', m, os, hp, hs, rfl⟩
  rw [← hds] at hp
  rw [putRow_K]
  obtain ⟨H', hwr, hsat, hfr, hown⟩ := sat_sorted Tl.size ho' hw hp.1 m os
  exact ⟨_, H', rfl, ⟨rfl, rfl, rfl⟩, hsat, hfr, rfl, d'.toList, perm_toList hp, hown, fun b' hb' => hwr.other (fun he => hb' _ rfl he.symm)⟩

/-- sort.Slice of the manifests. -/
theorem f61_man {H : Heap} {p : Option Addr} {n c lb : Nat} {xs : List Man} (hn : n < 2 ^ 34) (ho : Mans H p n c xs) (hl : H lb = some (.cells #[.slice p n c] 92 (0, 0))) :
    HT Tryz.prog 61 [.iface 92 (.slice p n c), .func (.func 62) #[] #[.pointer (some ⟨lb, 0, none⟩)]] H fun v H' =>
      v = .tuple #[] ∧ ∃ ys, ys.Perm xs ∧ Mans H' p n c ys ∧ (∀ b, (∀ a, p = some a → a.block ≠ b) → H' b = H b) := by
  by_cases h2 : 2 ≤ n
  · exact f61_man2 hn h2 ho hl
  · exact (f61_tiny_man (by omega) _).mono fun v H' ⟨h1, h2⟩ => by
      subst h2
      exact ⟨h1, xs, List.Perm.refl _, ho, fun _ _ => rfl⟩

theorem f61_tl {H : Heap} {p : Option Addr} {n c lb : Nat} {xs : List Int} (hn : n < 2 ^ 34) (ho : Tls H p n c xs) (hl : H lb = some (.cells #[.slice p n c] 111 (0, 0))) :
    HT Tryz.prog 61 [.iface 111 (.slice p n c), .func (.func 72) #[] #[.pointer (some ⟨lb, 0, none⟩)]] H fun v H' =>
      v = .tuple #[] ∧ ∃ ys, ys.Perm xs ∧ Tls H' p n c ys ∧ (∀ b, (∀ a, p = some a → a.block ≠ b) → H' b = H b) := by
  by_cases h2 : 2 ≤ n
  · exact f61_tl2 hn h2 ho hl
  · exact (f61_tiny_tl (by omega) _).mono fun v H' ⟨h1, h2⟩ => by
      subst h2
      exact ⟨h1, xs, List.Perm.refl _, ho, fun _ _ => rfl⟩

end Go.Proofs.Qxb6500694aGreatDoor
