/-
  THE ENGINE, PART F: places in a function's body.
-/
import Derived.Test.Qxb6500695aGreatFmtEngE
namespace Go.Eng
open Go

/-- The stack at a place of the body: 0, 1: a sequence's first, second half; 2: into a block; 3: at a loop's head; 4: into a loop's body; 5, 6: a test's two ways. -/
def stackAt (c : Code) (k : List Item) : List Nat → List Item
  | [] => .code c :: k
  | 0 :: p => match c with | .seq a b => stackAt a (.code b :: k) p | _ => []
  | 1 :: p => match c with | .seq _ b => stackAt b k p | _ => []
  | 2 :: p => match c with | .block id b => stackAt b (.inBlock id :: k) p | _ => []
  | 3 :: _ => match c with | .loop b => .inLoop b :: k | _ => []
  | 4 :: p => match c with | .loop b => stackAt b (.inLoop b :: k) p | _ => []
  | 5 :: p => match c with | .cond _ a _ => stackAt a k p | _ => []
  | 6 :: p => match c with | .cond _ _ b => stackAt b k p | _ => []
  | _ :: _ => []

def place (F : Func) (p : List Nat) : List Item :=
  match F.body with
  | some c => stackAt c [] p
  | none => []

def expectL : Tags → Loc → List Value → List Value
  | t :: ts, loc, v :: vs => (match t with
      | none => v
      | some (j, off) => match loc[j]? with
        | some (b, _, _) => .pointer (some ⟨b, off, none⟩)
        | none => v) :: expectL ts loc vs
  | _, _, _ => []

def okTags (tags : Tags) (loc : Loc) : Bool := tags.all fun t => match t with | none => true | some (j, _) => decide (j < loc.length)

theorem expectL_get {loc : Loc} : ∀ {tags : Tags} {tmps : List Value} {s j off : Nat}, expectL tags loc tmps = tmps → tags.getD s none = some (j, off) → j < loc.length →
    tags.length = tmps.length → ∃ b T cs, loc[j]? = some (b, T, cs) ∧ tmps.getD s undef = .pointer (some ⟨b, off, none⟩)
  | [], _, _, _, _, _, h, _, _ => by simp at h
  | t :: ts, [], _, _, _, _, _, _, h => by simp at h
  | t :: ts, v :: vs, s, j, off, he, h, hj, hl => by
    simp only [expectL, List.cons.injEq] at he
    cases s with
    | zero =>
      simp at h
      subst h
      have := he.1
      have hg : loc[j]? = some loc[j] := by simp [hj]
      simp only [hg] at this
      exact ⟨_, _, _, hg, by simpa using this.symm⟩
    | succ s =>
      have := expectL_get (s := s) he.2 (by simpa using h) hj (by simpa using hl)
      simpa using this

theorem tagOk_of {tags : Tags} {loc : Loc} {tmps : List Value} (he : expectL tags loc tmps = tmps) (ho : okTags tags loc = true) (hl : tags.length = tmps.length) : TagOk tags tmps loc := by
  intro s j off hs
  refine expectL_get he hs ?_ hl
  unfold okTags at ho
  rw [List.all_eq_true] at ho
  have hlt : s < tags.length := by
    rcases Nat.lt_or_ge s tags.length with h | h
    · exact h
    · simp [h] at hs
  have := ho tags[s] (List.getElem_mem hlt)
  have h2 : tags[s] = some (j, off) := by simpa [hlt] using hs
  rw [h2] at this
  simpa using this

theorem of_plan {P : Program} {fn : FuncId} {F : Func} {R : Value → Heap → Prop} (hf : P.funcs[fn]? = some F) (hm : P.follows .mixedOrders = true)
    (n : Nat) (pl : List (Nat × List Nat)) (tags : Tags) {todo : List Item} {tmps : List Value} {loc : Loc} {h : Heap} {X : Prop} (h1 : expectL tags loc tmps = tmps)
    (h2 : okTags tags loc = true) (h3 : tags.length = tmps.length) (he : X = exec P fn F R n pl none todo tmps tags loc h) (H : X) : RT P fn todo tmps loc h R :=
  exec_sound hf hm n pl none todo tmps tags loc h (he ▸ H) h3 (tagOk_of h1 h2 h3)

theorem call_of_plan {P : Program} {fn : FuncId} {F : Func} {R : Value → Heap → Prop} (hf : P.funcs[fn]? = some F) (hm : P.follows .mixedOrders = true)
    (hn : (F.name == "runtime.NumGoroutine") = false) (n : Nat) (pl : List (Nat × List Nat)) (tags : Tags) {args : List Value} {h : Heap} {X : Prop} {c : Code} (hb : F.body = some c)
    (h1 : expectL tags [] (args ++ List.replicate (F.ntmps - args.length) undef) = args ++ List.replicate (F.ntmps - args.length) undef) (h2 : okTags tags [] = true)
    (h3 : tags.length = (args ++ List.replicate (F.ntmps - args.length) undef).length)
    (he : X = exec P fn F R n pl none [.code c] (args ++ List.replicate (F.ntmps - args.length) undef) tags [] h) (H : X) : HT P fn args h R :=
  HT.of_RT hf hb hn (exec_sound hf hm n pl none _ _ tags [] h (he ▸ H) h3 (tagOk_of h1 h2 h3))

end Go.Eng
