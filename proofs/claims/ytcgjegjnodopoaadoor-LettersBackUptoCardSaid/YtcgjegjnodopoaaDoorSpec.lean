/-
  WHAT THE FUNCTIONS OF THE LAYERS 1 TO 4 COMPUTE, in plain Lean: lines, scripts, hunks. No program in sight.
-/
import GoSem.Core.Value
namespace Go.Proofs.YtcgjegjnodopoaaDoor

structure Mark where
  sign : Int
  text : ByteArray
  deriving DecidableEq
structure Hunk where
  old : Int
  new : Int
  marks : List Mark
  deriving DecidableEq
structure File where
  path : ByteArray
  lines : List ByteArray
  deriving DecidableEq
structure Change where
  what : Int
  path : ByteArray
  hunks : List Hunk
  deriving DecidableEq
structure Mail where
  sender : ByteArray
  subject : ByteArray
  ident : ByteArray
  body : List UInt8
  deriving DecidableEq

/-- the first of some faults that is one (0 is none) -/
def firstOf {α : Type} (f : α → Int) : List α → Int
  | [] => 0
  | x :: r => if f x = 0 then firstOf f r else f x

theorem firstOf_zero {α : Type} (f : α → Int) : ∀ l : List α, firstOf f l = 0 ↔ ∀ x ∈ l, f x = 0
  | [] => by simp [firstOf]
  | x :: r => by
    simp only [firstOf, List.mem_cons, forall_eq_or_imp]
    by_cases h : f x = 0
    · simp [h, firstOf_zero f r]
    · simp [h]

def hasNl (s : ByteArray) : Bool := s.data.toList.contains 10
def lineFault (s : ByteArray) : Int := if hasNl s then 2 else if 80 < s.size then 3 else 0
def linesFault (l : List ByteArray) : Int := if 60 < l.length then 3 else firstOf lineFault l
def markFault (m : Mark) : Int := if m.sign ≠ 32 ∧ m.sign ≠ 45 ∧ m.sign ≠ 43 then 1 else lineFault m.text
def scriptFault (s : List Mark) : Int := if 120 < s.length then 3 else firstOf markFault s

/-- the lines of a script that have not a sign -/
def those (s : List Mark) (no : Int) : List ByteArray := (s.filter fun m => m.sign ≠ no).map (·.text)
def oldOf (s : List Mark) : List ByteArray := those s 43
def newOf (s : List Mark) : List ByteArray := those s 45
def changes (s : List Mark) : Nat := (s.filter fun m => m.sign ≠ 32).length

/-- how far it is from lines to lines -/
def far : List ByteArray → List ByteArray → Nat
  | [], b => b.length
  | x :: a, [] => (x :: a).length
  | x :: a, y :: b => if x = y then far a b else 1 + min (far a (y :: b)) (far (x :: a) b)
termination_by a b => a.length + b.length

/-- the script of the fewest: keep, take, put -/
def script : List ByteArray → List ByteArray → List Mark
  | [], [] => []
  | x :: a, [] => ⟨45, x⟩ :: script a []
  | [], y :: b => ⟨43, y⟩ :: script [] b
  | x :: a, y :: b =>
    if x = y then ⟨32, x⟩ :: script a b
    else if far a (y :: b) + 1 = far (x :: a) (y :: b) then ⟨45, x⟩ :: script a (y :: b)
    else ⟨43, y⟩ :: script (x :: a) b
termination_by a b => a.length + b.length

/-! ### hunks -/
def oldN (s : List Mark) : Nat := (those s 43).length
def newN (s : List Mark) : Nat := (those s 45).length
def hasChange (s : List Mark) : Bool := s.any fun m => m.sign ≠ 32
/-- a hunk behind others that end at a line and put so many more -/
def oneFault (h : Hunk) (fin more : Int) : Int :=
  if scriptFault h.marks ≠ 0 then scriptFault h.marks
  else if hasChange h.marks = false then 4
  else if h.old < 0 ∨ 60 < h.old ∨ h.new < 0 ∨ 60 < h.new ∨ 60 < h.old + oldN h.marks ∨ 60 < h.new + newN h.marks then 1
  else if h.old < fin ∨ h.new ≠ h.old + more then 2
  else 0
/-- from a number on: the number of the first that is wrong, and how -/
def hunksGo : Nat → Int → Int → List Hunk → Nat × Int
  | _, _, _, [] => (0, 0)
  | i, fin, more, h :: r => if oneFault h fin more = 0 then hunksGo (i + 1) (h.old + oldN h.marks) (more + newN h.marks - oldN h.marks) r else (i, oneFault h fin more)
def hunksFault (l : List Hunk) : Nat × Int := if 60 < l.length then (0, 3) else hunksGo 0 0 0 l
def turnMark (m : Mark) : Mark := ⟨if m.sign = 45 then 43 else if m.sign = 43 then 45 else m.sign, m.text⟩
def turnHunk (h : Hunk) : Hunk := ⟨h.new, h.old, h.marks.map turnMark⟩
end Go.Proofs.YtcgjegjnodopoaaDoor
