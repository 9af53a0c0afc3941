/-
  PIECES OF A SCRIPT, in plain Lean (chapter 3, H2): what Cut answers.
-/
import Derived.Test.YtpoammapjmddfaaDoorSpec
namespace Go.Proofs.YtpoammapjmddfaaDoor

def isChange (m : Mark) : Bool := !(m.sign == 32)
/-- is mark k within n of one that takes or puts? -/
def inAt (s : List Mark) (n : Int) (k : Nat) : Bool := (List.range s.length).any fun i => (s[i]?.any isChange) && decide ((k : Int) ≤ i + n) && decide ((i : Int) ≤ k + n)
/-- a mark more in the last hunk -/
def pushLast (out : List Hunk) (m : Mark) : List Hunk :=
  match out.getLast? with
  | some h => out.dropLast ++ [{ h with marks := h.marks ++ [m] }]
  | none => out
/-- one step: the hunks so far, whether the mark ahead was in one, how many old and new lines stand ahead -/
def cutStep (out : List Hunk) (was inn : Bool) (before after : Nat) (m : Mark) : List Hunk :=
  if inn then pushLast (if was then out else out ++ [⟨before, after, []⟩]) m else out
def cutTo (s : List Mark) (n : Int) : Nat → List Hunk
  | 0 => []
  | k + 1 => match s[k]? with
    | some m => cutStep (cutTo s n k) (decide (0 < k) && inAt s n (k - 1)) (inAt s n k) (oldN (s.take k)) (newN (s.take k)) m
    | none => cutTo s n k
def cutOf (s : List Mark) (n : Int) : List Hunk := cutTo s n s.length
def cutFault (s : List Mark) (n : Int) : Int :=
  if scriptFault s ≠ 0 then scriptFault s else if n < 0 ∨ 1000 < n then 1 else if 60 < oldN s ∨ 60 < newN s then 3 else 0
end Go.Proofs.YtpoammapjmddfaaDoor
