/-
  PARTS: GENERAL LAWS ON WORLDS AND DATA: which blocks a call may have changed ('Chg'), and what a row of cells reads as ('Dat'). No program in sight.; WHAT THE FUNCTIONS OF THE LAYERS 1 TO 4 COMPUTE, in plain Lean: lines, scripts, hunks. No program in sight.; WHAT A ROW OF CELLS READS AS: 'Dat', for the types of this program. No program in sight.; FROM A LAW's WALK TO ITS STATEMENT: how the arguments read ('Opens'), and what is to be said behind the call ('post_law').; WHAT THE CARDS WANT WHERE strconv's AND utf8's TABLES ALONE ARE LISTED (no errors.errorType, no strconv errors): a world that meets the condition. In the place of XCard, XCardT, XCardG.; HOW ARGUMENTS READ: files, changes, and a struct that is an argument by itself.; THE WALKS OF LAYER 1: One, Check, Texts.; WHICH IS WHICH, in plain Lean: what the program chooses is what the document chooses, and none is cheaper. Rows of costs; `left`: which columns are left.; COLUMNS LEFT AS BITS of a small number.; THE LEAST COSTS BY SETS OF COLUMNS, in plain Lean: bounds; how a set's is come by.; OF ITSELF EACH IS ITSELF, in plain Lean (RangeSelf): costs that are 0 from corner to corner.; TEXTS AS LINES, PATHS, in plain Lean (chapter 1).
-/
import Derived.WalkKit
import Derived.Deep.Draws
import GoSem.Core.Value
import Derived.Test.YtgabchhplmncnaaDoorRows
import Derived.ProofKit
import Derived.OpenShut
import Derived.JoinedCond
import Derived.Deep.Slices
import Derived.Deep.Strs
import Derived.Test.YtgabchhplmncnaaDoorCards
import Derived.Test.YtgabchhplmncnaaDoorTie
import Derived.Test.YtgabchhplmncnaaDoorShelf
import Derived.Deep.DeepHandedRow
import Derived.LaidLaws
import Derived.LaidHandle
import Derived.ChangeMaps5
import Derived.ChangeSame
import Derived.WalkLawsBesides
import Derived.WalkSpells
import Derived.Deep.QuietTactic
import Derived.BigQuiet
import Derived.Lib.Hide
import Init
import Derived.Lib.Split
namespace Go.Proofs.YtgabchhplmncnaaDoor
open Go.RowKit

/-- From w to w' only blocks of O have changed, and new ones have come. -/
structure Chg (O : Nat → Prop) (w w' : World) : Prop where
  os : w'.os = w.os
  tape : w'.tape = w.tape
  output : w'.output = w.output
  size : w.heap.size ≤ w'.heap.size
  block : ∀ k, k < w.heap.size → ¬ O k → w'.heap[k]? = w.heap[k]?

/-- no block -/
def Never : Nat → Prop := fun _ => False
/-- the blocks from B on -/
def From (B : Nat) : Nat → Prop := fun k => B ≤ k
/-- the blocks below B -/
def Old (B : Nat) : Nat → Prop := fun k => k < B
/-- the block of a slice value -/
def OwnB (v : Value) : Nat → Prop := fun k => v.ownBlock = some k

theorem Chg.refl (O : Nat → Prop) (w : World) : Chg O w w := ⟨rfl, rfl, rfl, Nat.le_refl _, fun _ _ _ => rfl⟩
theorem Chg.trans {O : Nat → Prop} {a b c : World} (h : Chg O a b) (k : Chg O b c) : Chg O a c :=
  ⟨k.os.trans h.os, k.tape.trans h.tape, k.output.trans h.output, Nat.le_trans h.size k.size,
    fun i hi ho => (k.block i (Nat.lt_of_lt_of_le hi h.size) ho).trans (h.block i hi ho)⟩
theorem Chg.mono {O O' : Nat → Prop} {w w' : World} (h : Chg O w w') (hO : ∀ k, k < w.heap.size → O k → O' k) : Chg O' w w' :=
  ⟨h.os, h.tape, h.output, h.size, fun k hk hn => h.block k hk (fun ho => hn (hO k hk ho))⟩
/-- a second step may change what is new since the first world -/
theorem Chg.trans' {O O' : Nat → Prop} {a b c : World} (h : Chg O a b) (k : Chg O' b c) (hO : ∀ i, i < a.heap.size → O' i → O i) : Chg O a c :=
  ⟨k.os.trans h.os, k.tape.trans h.tape, k.output.trans h.output, Nat.le_trans h.size k.size,
    fun i hi ho => (k.block i (Nat.lt_of_lt_of_le hi h.size) (fun hx => ho (hO i hi hx))).trans (h.block i hi ho)⟩
theorem Chg.drew {O : Nat → Prop} {a w : World} (h : Chg O a w) : Chg O a w.drew := ⟨h.os, h.tape, h.output, h.size, h.block⟩
theorem Chg.drewN {O : Nat → Prop} {a w : World} (h : Chg O a w) (n : Nat) : Chg O a (w.drewN n) := ⟨h.os, h.tape, h.output, h.size, h.block⟩
theorem Chg.alloc {O : Nat → Prop} {a w : World} (h : Chg O a w) (o : Obj) : Chg O a (w.alloc o) :=
  ⟨h.os, h.tape, h.output, Nat.le_trans h.size (by simp), fun k hk hn => by rw [Below.heap_alloc _ _ _ (Nat.lt_of_lt_of_le hk h.size)]; exact h.block k hk hn⟩
theorem Chg.setCell {O : Nat → Prop} {a w : World} (h : Chg O a w) {p : Addr} (hp : a.heap.size ≤ p.block ∨ O p.block) (u : Value) : Chg O a (w.setCell p u) :=
  ⟨h.os, h.tape, h.output, by simpa [World.setCell] using h.size, fun k hk hn => by
    rw [Below.heap_setCell _ _ _ _ (by rintro rfl; rcases hp with hp | hp; · omega
                                       · exact hn hp)]
    exact h.block k hk hn⟩
theorem Chg.of_grown {w w' : World} {row : Option Nat} (h : w.grownBy w' row) : Chg (fun k => row = some k) w w' :=
  ⟨h.os, h.tape, h.output, h.size, fun k hk hn => h.block k hk (fun e => hn e.symm)⟩
theorem Chg.of_below {w w' : World} (h : Below w.heap.size w w') : Chg Never w w' :=
  ⟨h.os, h.tape, h.output, h.size, fun k hk _ => h.block k hk⟩
theorem Chg.never {w w' : World} (h : Chg Never w w') : Below w.heap.size w w' :=
  ⟨h.os, h.tape, h.output, h.size, fun k hk => h.block k hk (fun x => x)⟩
theorem Chg.cell {O : Nat → Prop} {w w' : World} (h : Chg O w w') {p : Addr} {v : Value} (hc : w.cell? p = some v) (hp : ¬ O p.block) : w'.cell? p = some v := by
  have hlt := World.block_lt_of_cell? w p hc
  rw [← hc]; exact World.cell?_of_block (h.block _ hlt hp)
theorem Chg.cellNever {w w' : World} (h : Chg Never w w') {p : Addr} {v : Value} (hc : w.cell? p = some v) : w'.cell? p = some v := h.cell hc (fun x => x)
theorem Chg.frozen {O : Nat → Prop} {w w' : World} (h : Chg O w w') {p : Addr} (hlt : p.block < w.heap.size) (hp : ¬ O p.block) : w'.frozen? p = w.frozen? p :=
  World.frozen?_of_block (h.block _ hlt hp)
end Go.Proofs.YtgabchhplmncnaaDoor
namespace Go.Proofs.YtgabchhplmncnaaDoor

structure Mark where
  sign : Int
  text : ByteArray
  deriving DecidableEq
structure Hunk where
  old : Int
  new : Int
  marks : List Mark
  deriving DecidableEq
structure File where
  path : ByteArray
  lines : List ByteArray
  deriving DecidableEq
structure Change where
  what : Int
  path : ByteArray
  hunks : List Hunk
  deriving DecidableEq
structure Mail where
  sender : ByteArray
  subject : ByteArray
  ident : ByteArray
  body : List UInt8
  deriving DecidableEq

/-- the first of some faults that is one (0 is none) -/
def firstOf {α : Type} (f : α → Int) : List α → Int
  | [] => 0
  | x :: r => if f x = 0 then firstOf f r else f x

theorem firstOf_zero {α : Type} (f : α → Int) : ∀ l : List α, firstOf f l = 0 ↔ ∀ x ∈ l, f x = 0
  | [] => by simp [firstOf]
  | x :: r => by
    simp only [firstOf, List.mem_cons, forall_eq_or_imp]
    by_cases h : f x = 0
    · simp [h, firstOf_zero f r]
    · simp [h]

def hasNl (s : ByteArray) : Bool := s.data.toList.contains 10
def lineFault (s : ByteArray) : Int := if hasNl s then 2 else if 80 < s.size then 3 else 0
def linesFault (l : List ByteArray) : Int := if 60 < l.length then 3 else firstOf lineFault l
def markFault (m : Mark) : Int := if m.sign ≠ 32 ∧ m.sign ≠ 45 ∧ m.sign ≠ 43 then 1 else lineFault m.text
def scriptFault (s : List Mark) : Int := if 120 < s.length then 3 else firstOf markFault s

/-- the lines of a script that have not a sign -/
def those (s : List Mark) (no : Int) : List ByteArray := (s.filter fun m => m.sign ≠ no).map (·.text)
def oldOf (s : List Mark) : List ByteArray := those s 43
def newOf (s : List Mark) : List ByteArray := those s 45
def changes (s : List Mark) : Nat := (s.filter fun m => m.sign ≠ 32).length

/-- how far it is from lines to lines -/
def far : List ByteArray → List ByteArray → Nat
  | [], b => b.length
  | x :: a, [] => (x :: a).length
  | x :: a, y :: b => if x = y then far a b else 1 + min (far a (y :: b)) (far (x :: a) b)
termination_by a b => a.length + b.length

/-- the script of the fewest: keep, take, put -/
def script : List ByteArray → List ByteArray → List Mark
  | [], [] => []
  | x :: a, [] => ⟨45, x⟩ :: script a []
  | [], y :: b => ⟨43, y⟩ :: script [] b
  | x :: a, y :: b =>
    if x = y then ⟨32, x⟩ :: script a b
    else if far a (y :: b) + 1 = far (x :: a) (y :: b) then ⟨45, x⟩ :: script a (y :: b)
    else ⟨43, y⟩ :: script (x :: a) b
termination_by a b => a.length + b.length

/-! ### hunks -/
def oldN (s : List Mark) : Nat := (those s 43).length
def newN (s : List Mark) : Nat := (those s 45).length
def hasChange (s : List Mark) : Bool := s.any fun m => m.sign ≠ 32
/-- a hunk behind others that end at a line and put so many more -/
def oneFault (h : Hunk) (fin more : Int) : Int :=
  if scriptFault h.marks ≠ 0 then scriptFault h.marks
  else if hasChange h.marks = false then 4
  else if h.old < 0 ∨ 60 < h.old ∨ h.new < 0 ∨ 60 < h.new ∨ 60 < h.old + oldN h.marks ∨ 60 < h.new + newN h.marks then 1
  else if h.old < fin ∨ h.new ≠ h.old + more then 2
  else 0
/-- from a number on: the number of the first that is wrong, and how -/
def hunksGo : Nat → Int → Int → List Hunk → Nat × Int
  | _, _, _, [] => (0, 0)
  | i, fin, more, h :: r => if oneFault h fin more = 0 then hunksGo (i + 1) (h.old + oldN h.marks) (more + newN h.marks - oldN h.marks) r else (i, oneFault h fin more)
def hunksFault (l : List Hunk) : Nat × Int := if 60 < l.length then (0, 3) else hunksGo 0 0 0 l
def turnMark (m : Mark) : Mark := ⟨if m.sign = 45 then 43 else if m.sign = 43 then 45 else m.sign, m.text⟩
def turnHunk (h : Hunk) : Hunk := ⟨h.new, h.old, h.marks.map turnMark⟩
end Go.Proofs.YtgabchhplmncnaaDoor
namespace Go.Proofs.YtgabchhplmncnaaDoor
open Go.RowKit

/-- 'rd w O cs x': the cells cs read as x in the world w, by way of no block of O. -/
class Dat (α : Type) where
  n : Nat
  rd : World → (Nat → Prop) → List Value → α → Prop
  bulk : α → Nat
  pos : 0 < n
  len : ∀ {w O cs x}, rd w O cs x → cs.length = n
  one : ∀ {w O cs x}, rd w O cs x → ∀ u ∈ cs, u.oneCell' = true
  keep : ∀ {w w' : World} {O O' O'' : Nat → Prop} {cs x}, rd w O cs x → Chg O' w w' → (∀ k, k < w.heap.size → O' k → O k) → (∀ k, k < w.heap.size → O'' k → O k) → rd w' O'' cs x

/-- what a value (of a slot) reads as -/
def Rdv {α : Type} [Dat α] (w : World) (O : Nat → Prop) (v : Value) (x : α) : Prop := Dat.rd w O [v] x

theorem Dat.never {α : Type} [Dat α] {w w' : World} {O : Nat → Prop} {cs : List Value} {x : α} (h : Dat.rd w O cs x) (hc : Chg Never w w') : Dat.rd w' O cs x :=
  Dat.keep h hc (fun _ _ h => h.elim) (fun _ _ h => h)
theorem Rdv.never {α : Type} [Dat α] {w w' : World} {O : Nat → Prop} {v : Value} {x : α} (h : Rdv w O v x) (hc : Chg Never w w') : Rdv w' O v x := Dat.never h hc
theorem Rdv.keep {α : Type} [Dat α] {w w' : World} {O O' O'' : Nat → Prop} {v : Value} {x : α} (h : Rdv w O v x) (hc : Chg O' w w') (h1 : ∀ k, k < w.heap.size → O' k → O k) (h2 : ∀ k, k < w.heap.size → O'' k → O k) : Rdv w' O'' v x := Dat.keep h hc h1 h2
theorem Rdv.sub {α : Type} [Dat α] {w : World} {O O' : Nat → Prop} {v : Value} {x : α} (h : Rdv w O v x) (h2 : ∀ k, k < w.heap.size → O' k → O k) : Rdv w O' v x := Dat.keep h (Chg.refl Never w) (fun _ _ h => h.elim) h2

/-- a number of 64 bits -/
def I64 (x : Int) : Prop := -9223372036854775808 ≤ x ∧ x ≤ 9223372036854775807
instance : Dat Int where
  n := 1
  rd _ _ cs x := cs = [.int .i64 x] ∧ I64 x
  bulk _ := 1
  pos := by decide
  len := by rintro _ _ _ _ ⟨rfl, _⟩; rfl
  one := by rintro _ _ _ _ ⟨rfl, _⟩ u hu; simp at hu; subst hu; rfl
  keep := by intro _ _ _ _ _ _ _ h _ _ _; exact h
instance : Dat Bool where
  n := 1
  rd _ _ cs x := cs = [.bool x]
  bulk _ := 1
  pos := by decide
  len := by rintro _ _ _ _ rfl; rfl
  one := by rintro _ _ _ _ rfl u hu; simp at hu; subst hu; rfl
  keep := by intro _ _ _ _ _ _ _ h _ _ _; exact h
instance : Dat UInt8 where
  n := 1
  rd _ _ cs x := cs = [.int .u8 x.toNat]
  bulk _ := 1
  pos := by decide
  len := by rintro _ _ _ _ rfl; rfl
  one := by rintro _ _ _ _ rfl u hu; simp at hu; subst hu; rfl
  keep := by intro _ _ _ _ _ _ _ h _ _ _; exact h
instance : Dat ByteArray where
  n := 1
  rd _ _ cs x := cs = [.string x] ∧ x.size ≤ maxLen
  bulk x := x.size + 1
  pos := by decide
  len := by rintro _ _ _ _ ⟨rfl, _⟩; rfl
  one := by rintro _ _ _ _ ⟨rfl, _⟩ u hu; simp at hu; subst hu; rfl
  keep := by intro _ _ _ _ _ _ _ h _ _ _; exact h
instance : Dat Mark where
  n := 2
  rd _ _ cs m := cs = [.int .u8 m.sign, .string m.text] ∧ 0 ≤ m.sign ∧ m.sign < 256 ∧ m.text.size ≤ maxLen
  bulk m := m.text.size + 3
  pos := by decide
  len := by rintro _ _ _ _ ⟨rfl, _⟩; rfl
  one := by rintro _ _ _ _ ⟨rfl, _⟩ u hu; simp at hu; rcases hu with rfl | rfl <;> rfl
  keep := by intro _ _ _ _ _ _ _ h _ _ _; exact h

/-- the cells of element number i of a row that begins at ⟨b, off⟩ -/
def CellsAt (w : World) (b off : Nat) (es : List Value) : Prop := ∀ (j : Nat) (u : Value), es[j]? = some u → w.cell? ⟨b, off + j, none⟩ = some u

theorem CellsAt.lt {w : World} {b off : Nat} {es : List Value} (h : CellsAt w b off es) (hn : 0 < es.length) : b < w.heap.size :=
  World.block_lt_of_cell? w ⟨b, off + 0, none⟩ (h 0 es[0] (by simp [hn]))
theorem CellsAt.keep {w w' : World} {O : Nat → Prop} {b off : Nat} {es : List Value} (h : CellsAt w b off es) (hc : Chg O w w') (hb : ¬ O b) : CellsAt w' b off es :=
  fun j u hj => hc.cell (p := ⟨b, off + j, none⟩) (h j u hj) hb

/-- a slice's elements -/
def Elems {α : Type} [Dat α] (w : World) (O : Nat → Prop) (a : Option Addr) (l : List α) : Prop :=
  ∀ (i : Nat) (x : α), l[i]? = some x → ∃ b off es, a = some ⟨b, off, none⟩ ∧ ¬ O b ∧ CellsAt w b (off + i * Dat.n α) es ∧ Dat.rd w O es x

theorem Elems.keep {α : Type} [Dat α] {w w' : World} {O O' O'' : Nat → Prop} {a : Option Addr} {l : List α} (h : Elems w O a l) (hc : Chg O' w w') (h1 : ∀ k, k < w.heap.size → O' k → O k) (h2 : ∀ k, k < w.heap.size → O'' k → O k) : Elems w' O'' a l := by
  intro i x hx
  obtain ⟨b, off, es, ha, hb, hcs, hr⟩ := h i x hx
  have hlt := hcs.lt (by rw [Dat.len hr]; exact Dat.pos (α := α))
  exact ⟨b, off, es, ha, fun hb' => hb (h2 b hlt hb'), hcs.keep hc (fun hb' => hb (h1 b hlt hb')), Dat.keep hr hc h1 h2⟩

instance {α : Type} [Dat α] : Dat (List α) where
  n := 1
  rd w O cs l := ∃ a cap, cs = [.slice a l.length cap] ∧ l.length ≤ cap ∧ cap ≤ maxLen ∧ Elems w O a l
  bulk l := (l.map Dat.bulk).sum + 1
  pos := by decide
  len := by rintro _ _ _ _ ⟨a, cap, rfl, _⟩; rfl
  one := by rintro _ _ _ _ ⟨a, cap, rfl, _⟩ u hu; simp at hu; subst hu; rfl
  keep := by
    rintro w w' O O' O'' cs l ⟨a, cap, rfl, h1, h2, h3⟩ hc k1 k2
    exact ⟨a, cap, rfl, h1, h2, h3.keep hc k1 k2⟩

instance : Dat Hunk where
  n := 3
  rd w O cs h := ∃ v, cs = [.int .i64 h.old, .int .i64 h.new, v] ∧ Dat.rd w O [v] h.marks
  bulk h := Dat.bulk h.marks + 3
  pos := by decide
  len := by rintro _ _ _ _ ⟨v, rfl, _⟩; rfl
  one := by
    rintro _ _ _ _ ⟨v, rfl, hv⟩ u hu
    simp only [List.mem_cons, List.not_mem_nil, or_false] at hu
    rcases hu with rfl | rfl | rfl
    · rfl
    · rfl
    · exact Dat.one hv _ (by simp)
  keep := by
    rintro w w' O O' O'' cs l ⟨v, rfl, h⟩ hc k1 k2
    exact ⟨v, rfl, Dat.keep h hc k1 k2⟩
instance : Dat File where
  n := 2
  rd w O cs h := ∃ v, cs = [.string h.path, v] ∧ h.path.size ≤ maxLen ∧ Dat.rd w O [v] h.lines
  bulk h := h.path.size + Dat.bulk h.lines + 2
  pos := by decide
  len := by rintro _ _ _ _ ⟨v, rfl, _⟩; rfl
  one := by
    rintro _ _ _ _ ⟨v, rfl, _, hv⟩ u hu
    simp only [List.mem_cons, List.not_mem_nil, or_false] at hu
    rcases hu with rfl | rfl
    · rfl
    · exact Dat.one hv _ (by simp)
  keep := by
    rintro w w' O O' O'' cs l ⟨v, rfl, hp, h⟩ hc k1 k2
    exact ⟨v, rfl, hp, Dat.keep h hc k1 k2⟩
instance : Dat Change where
  n := 3
  rd w O cs h := ∃ v, cs = [.int .i64 h.what, .string h.path, v] ∧ h.path.size ≤ maxLen ∧ Dat.rd w O [v] h.hunks
  bulk h := h.path.size + Dat.bulk h.hunks + 3
  pos := by decide
  len := by rintro _ _ _ _ ⟨v, rfl, _⟩; rfl
  one := by
    rintro _ _ _ _ ⟨v, rfl, _, hv⟩ u hu
    simp only [List.mem_cons, List.not_mem_nil, or_false] at hu
    rcases hu with rfl | rfl | rfl
    · rfl
    · rfl
    · exact Dat.one hv _ (by simp)
  keep := by
    rintro w w' O O' O'' cs l ⟨v, rfl, hp, h⟩ hc k1 k2
    exact ⟨v, rfl, hp, Dat.keep h hc k1 k2⟩
instance : Dat Mail where
  n := 4
  rd w O cs m := ∃ v, cs = [.string m.sender, .string m.subject, .string m.ident, v] ∧ m.sender.size ≤ maxLen ∧ m.subject.size ≤ maxLen ∧ m.ident.size ≤ maxLen ∧ Dat.rd w O [v] m.body
  bulk m := m.sender.size + m.subject.size + m.ident.size + Dat.bulk m.body + 4
  pos := by decide
  len := by rintro _ _ _ _ ⟨v, rfl, _⟩; rfl
  one := by
    rintro _ _ _ _ ⟨v, rfl, _, _, _, hv⟩ u hu
    simp only [List.mem_cons, List.not_mem_nil, or_false] at hu
    rcases hu with rfl | rfl | rfl | rfl
    · rfl
    · rfl
    · rfl
    · exact Dat.one hv _ (by simp)
  keep := by
    rintro w w' O O' O'' cs l ⟨v, rfl, h1, h2, h3, h⟩ hc k1 k2
    exact ⟨v, rfl, h1, h2, h3, Dat.keep h hc k1 k2⟩
instance : Dat (Int × Int) where
  n := 2
  rd _ _ cs x := cs = [.int .i64 x.1, .int .i64 x.2]
  bulk _ := 3
  pos := by decide
  len := by rintro _ _ _ _ rfl; rfl
  one := by rintro _ _ _ _ rfl u hu; simp at hu; rcases hu with rfl | rfl <;> rfl
  keep := by intro _ _ _ _ _ _ _ h _ _ _; exact h

theorem rdv_slice {α : Type} [Dat α] {w : World} {O : Nat → Prop} {v : Value} {l : List α} (h : Rdv w O v l) : ∃ a cap, v = .slice a l.length cap ∧ l.length ≤ cap ∧ cap ≤ maxLen ∧ Elems w O a l := by
  obtain ⟨a, cap, e, h1⟩ := h
  simp only [List.cons.injEq, and_true] at e
  exact ⟨a, cap, e, h1⟩
theorem rdv_nil {α : Type} [Dat α] (w : World) (O : Nat → Prop) : Rdv w O (.slice none 0 0) ([] : List α) :=
  ⟨none, 0, rfl, Nat.le_refl _, Nat.zero_le _, fun i x h => by simp at h⟩

/-! ### a slice that the call itself builds -/
/-- v owns its row, whose elements read as l (by way of no block of O, and not of its own row) -/
def Own {α : Type} [Dat α] (e : TypeId) (w : World) (O : Nat → Prop) (v : Value) (l : List α) : Prop :=
  ∃ xs, w.ownsRow 0 e (Dat.n α) v l.length xs ∧ (∀ k, v.ownBlock = some k → ¬ O k) ∧
    ∀ (i : Nat) (x : α), l[i]? = some x → Dat.rd w (fun k => O k ∨ v.ownBlock = some k) ((xs.drop (i * Dat.n α)).take (Dat.n α)) x

theorem own_nil {α : Type} [Dat α] (e : TypeId) (w : World) (O : Nat → Prop) : Own e w O (.slice none 0 0) ([] : List α) :=
  ⟨[], World.ownsRow_nil _ _ _ _, fun k h => by simp [Value.ownBlock] at h, fun i x h => by simp at h⟩

/-! ### an element's cells, in the walk's spelling -/
theorem elems_str {w : World} {O : Nat → Prop} {a : Option Addr} {l : List ByteArray} (h : Elems w O a l) {i : Nat} {x : ByteArray} (hx : l[i]? = some x) :
    ∃ b off, a = some ⟨b, off, none⟩ ∧ ¬ O b ∧ b < w.heap.size ∧ w.cell? ⟨b, off + i, none⟩ = some (.string x) ∧ x.size ≤ maxLen := by
  obtain ⟨b, off, es, ha, hb, hcs, rfl, hs⟩ := h i x hx
  refine ⟨b, off, ha, hb, hcs.lt (by simp), ?_, hs⟩
  have := hcs 0 (.string x) rfl
  simpa [Dat.n] using this
theorem elems_mark {w : World} {O : Nat → Prop} {a : Option Addr} {l : List Mark} (h : Elems w O a l) {i : Nat} {x : Mark} (hx : l[i]? = some x) :
    ∃ b off, a = some ⟨b, off, none⟩ ∧ ¬ O b ∧ b < w.heap.size ∧ w.cell? ⟨b, off + i * 2, none⟩ = some (.int .u8 x.sign) ∧ w.cell? ⟨b, off + i * 2 + 1, none⟩ = some (.string x.text) ∧ 0 ≤ x.sign ∧ x.sign < 256 ∧ x.text.size ≤ maxLen := by
  obtain ⟨b, off, es, ha, hb, hcs, rfl, hs⟩ := h i x hx
  refine ⟨b, off, ha, hb, hcs.lt (by simp), ?_, ?_, hs⟩
  · simpa [Dat.n] using hcs 0 _ rfl
  · simpa [Dat.n] using hcs 1 _ rfl

/-! ### slice literals -/
def RdAll {α : Type} [Dat α] (w : World) : List Value → List α → Prop
  | _, [] => True
  | cs, x :: l => Dat.rd w Never (cs.take (Dat.n α)) x ∧ RdAll w (cs.drop (Dat.n α)) l
theorem rdAll_get {α : Type} [Dat α] {w : World} : ∀ (l : List α) (cs : List Value), RdAll w cs l → ∀ (i : Nat) (x : α), l[i]? = some x → Dat.rd w Never ((cs.drop (i * Dat.n α)).take (Dat.n α)) x
  | [], _, _, i, x, hx => by simp at hx
  | y :: l, cs, h, 0, x, hx => by
    simp only [List.getElem?_cons_zero, Option.some.injEq] at hx
    subst hx
    simpa using h.1
  | y :: l, cs, h, i + 1, x, hx => by
    have := rdAll_get l _ h.2 i x (by simpa using hx)
    rw [List.drop_drop] at this
    rwa [show (i + 1) * Dat.n α = Dat.n α + i * Dat.n α by rw [Nat.succ_mul, Nat.add_comm]]
/-- a slice literal -/
theorem rdv_lit {α : Type} [Dat α] {w : World} {g : Nat} {e : TypeId} {cs : List Value} {l : List α} {n : Nat} (h : w.heap[g]? = some (.cells cs.toArray e (0, 0))) (hn : n = l.length) (hm : n ≤ 1000) (hr : RdAll w cs l) :
    Rdv w Never (.slice (some ⟨g, 0, none⟩) n n) l := by
  subst hn
  refine ⟨some ⟨g, 0, none⟩, l.length, rfl, Nat.le_refl _, by unfold maxLen; omega, ?_⟩
  intro i x hx
  have hr' := rdAll_get l cs hr i x hx
  refine ⟨g, 0, _, rfl, fun h => h, ?_, hr'⟩
  intro j u hj
  rw [List.getElem?_take] at hj
  split at hj
  · rw [List.getElem?_drop] at hj
    simp only [World.cell?, h]
    simpa using hj
  · cases hj
end Go.Proofs.YtgabchhplmncnaaDoor
namespace Go.Proofs.YtgabchhplmncnaaDoor
open Go.ChangeShapes Go.WideShapes Go.ChangeAt Go.RowKit

theorem own : ownKnob Tryd.prog.godebug = none := by kernel_rfl
theorem laidOut : laidOutB Tryd.prog = true := by kernel_rfl

theorem trodAll_stays {H : Type} {enc : TypeId × Value → H} {P : Program} (hl : laidOutB P = true) {W W' : World} : ∀ (ts : List TypeId) (vs : List Value) (ds : List (DataW H)) (ps : List MemPlace),
    (∀ t ∈ ts, P.readableRec t = true ∧ t < P.types.size) → DataW.TrodAll enc P W 0 (fun _ => true) true ts vs ds ps → (∀ x ∈ ps, W.sameAt W' x) → (∀ x ∈ ps, x.block < W.heap.size) →
    DataW.TrodAll enc P W' 0 (fun b => decide (b < W.heap.size)) true ts vs ds ps
  | [], [], [], ps, _, h, _, _ => h
  | t :: ts, v :: vs, d :: ds, ps, ht, h, h1, h2 => by
    obtain ⟨p, q, hp, hq, rfl⟩ := h
    refine ⟨p, q, ?_, ?_, rfl⟩
    · exact WideElems.Trod_stays hl (ht t (List.mem_cons_self ..)).1 (ht t (List.mem_cons_self ..)).2 hp (fun x hx => h1 x (List.mem_append_left _ hx)) (fun x hx => by simpa using h2 x (List.mem_append_left _ hx))
    · exact trodAll_stays hl ts vs ds q (fun t' h' => ht t' (List.mem_cons_of_mem _ h')) hq (fun x hx => h1 x (List.mem_append_right _ hx)) (fun x hx => h2 x (List.mem_append_right _ hx))
  | [], [], _ :: _, _, _, h, _, _ => h.elim
  | [], _ :: _, _, _, _, h, _, _ => h.elim
  | _ :: _, [], _, _, _, h, _, _ => h.elim
  | _ :: _, _ :: _, [], _, _, h, _, _ => h.elim

/-- what a law's row says behind the call, where the walk answered true and changed nothing that was there -/
theorem post_law {H : Type} {enc : TypeId × Value → H} {P : Program} {f : Func} {s : ChangeSpec} {W W' : World} {args : Array Value} {ds gs : List (DataW H)} {before : List MemPlace} {tb : TypeId}
    (hW : DataW.Whole enc P f.params.toList s.vars false W args.toList ds gs before) (hvars : s.vars = []) (hres : f.resultTypes = #[tb]) (htb : P.underlying tb = some .bool)
    (hfn : s.fn H ds = { results := [.lit (.bool true)], args := ds }) (hl : laidOutB P = true) (hread : ∀ t ∈ f.params.toList, P.readableRec t = true ∧ t < P.types.size) (hc : Chg Never W W') :
    s.post enc P f false true false false W args (.bool true) W' := by
  have hlt := hW.lt
  have hb : Below W.heap.size W W' := hc.never
  obtain ⟨p, q, h1, h2, h3, h4, h5⟩ := id hW
  rw [hvars] at h2
  have hgs : gs = [] ∧ q = [] := by
    cases gs with
    | nil => exact ⟨rfl, h2⟩
    | cons g gs => exact h2.elim
  obtain ⟨rfl, rfl⟩ := hgs
  rw [List.append_nil] at h3
  subst h3
  refine ⟨ds, [], before, [], before, [], hW, ?_, ?_, ?_, ?_, fun h => by cases h⟩
  · rw [List.append_nil, hfn, hres]
    exact ⟨[], [], ⟨1, by simp [DataW.trod, htb, Value.cells]⟩, rfl, rfl⟩
  · rw [List.append_nil, hfn]
    exact trodAll_stays hl _ _ _ _ hread h1 (fun x hx => hb.same (hlt x hx)) hlt
  · rw [hvars, List.append_nil, hfn]; rfl
  · exact hb.frame _

/-! ### how arguments read -/
def Opens (P : Program) (t : TypeId) (α : Type) [Dat α] : Prop :=
  ∀ (H : Type) (enc : TypeId × Value → H) (w : World) (base : Nat) (spare : Nat → Bool) (held : Bool) (fuel : Nat) (cs : List Value) (d : DataW H) (ps : List MemPlace),
    DataW.trod enc P w base spare held fuel t cs = some (d, ps) → ∃ x : α, Dat.rd w Never cs x ∧ Dat.bulk x ≤ Rows.uptoBulk d

theorem opens_string {P : Program} {t : TypeId} (ht : P.underlying t = some .string) : Opens P t ByteArray := by
  intro H enc w base spare held fuel cs d ps h
  obtain ⟨s, rfl, hx, hs⟩ := DataW.trod_string ht h
  simp only [Prod.mk.injEq] at hx
  obtain ⟨rfl, rfl⟩ := hx
  refine ⟨s, ⟨rfl, hs⟩, ?_⟩
  show s.size + 1 ≤ Rows.uptoBulk (.lit (.string s.data.toList))
  simp only [Rows.uptoBulk]
  rw [Array.length_toList]
  exact Nat.le_refl _
theorem i64_of_wf {n : Int} (h : (Lit.int .i64 n).wf = true) : I64 n := bounds_i64 h
theorem u8_of_wf {n : Int} (h : (Lit.int .u8 n).wf = true) : 0 ≤ n ∧ n < 256 := by
  have := bounds_u8 h
  omega
theorem opens_int {P : Program} {t : TypeId} (ht : P.underlying t = some (.int .i64)) : Opens P t Int := by
  intro H enc w base spare held fuel cs d ps h
  obtain ⟨n, rfl, hx, hw⟩ := DataW.trod_int ht h
  simp only [Prod.mk.injEq] at hx
  obtain ⟨rfl, rfl⟩ := hx
  exact ⟨n, ⟨rfl, i64_of_wf hw⟩, by simp [Dat.bulk, Rows.uptoBulk]⟩
theorem opens_byte {P : Program} {t : TypeId} (ht : P.underlying t = some (.int .u8)) : Opens P t UInt8 := by
  intro H enc w base spare held fuel cs d ps h
  obtain ⟨n, rfl, hx, hw⟩ := DataW.trod_int ht h
  simp only [Prod.mk.injEq] at hx
  obtain ⟨rfl, rfl⟩ := hx
  have hn := u8_of_wf hw
  refine ⟨UInt8.ofNat n.toNat, ?_, by simp [Dat.bulk, Rows.uptoBulk]⟩
  show [Value.int .u8 n] = [Value.int .u8 _]
  have : ((UInt8.ofNat n.toNat).toNat : Int) = n := by
    rw [UInt8.toNat_ofNat']; omega
  rw [this]

theorem addr_add {a : Addr} (h : a.spot = none) (k : Nat) : a.add k = ⟨a.block, a.off + k, none⟩ := by
  cases a
  simp only at h
  subst h
  unfold Addr.add
  split <;> simp_all
theorem spot_of_cell {w : World} {a : Addr} {v : Value} (h : w.cell? a = some v) : a.spot = none := by
  unfold World.cell? at h
  split at h
  · by_cases hs : a.spot.isSome = true
    · simp [hs] at h
    · simpa using hs
  · simp at h

theorem opens_slice {P : Program} {t e : TypeId} {α : Type} [Dat α] (ht : P.underlying t = some (.slice e)) (hn : P.cellsOf e = Dat.n α) (he : Opens P e α) : Opens P t (List α) := by
  intro H enc w base spare held fuel cs d ps h
  rcases Deep.open_slice ht h with ⟨rfl, hx⟩ | ⟨a, len, cap, m, n, D, Pl, rfl, hb, hl, hm, hmm, hx, hel⟩
  · simp only [Prod.mk.injEq] at hx
    obtain ⟨rfl, rfl⟩ := hx
    exact ⟨[], ⟨none, 0, rfl, Nat.le_refl _, Nat.zero_le _, fun i x hi => by simp at hi⟩, by simp [Dat.bulk, Rows.uptoBulk]⟩
  · simp only [Prod.mk.injEq] at hx
    obtain ⟨rfl, rfl⟩ := hx
    have hlm : len ≤ m := by rw [hmm]; split <;> omega
    have hpos := Dat.pos (α := α)
    have key : ∀ k, k ≤ len → ∃ l : List α, l.length = k ∧ Elems w Never (some a) l ∧ (l.map Dat.bulk).sum ≤ Rows.uptoBulkAll ((List.range k).map D) := by
      intro k
      induction k with
      | zero => intro _; exact ⟨[], rfl, fun i x hi => by simp at hi, by simp [Rows.uptoBulkAll]⟩
      | succ k ih =>
        intro hk
        obtain ⟨l, h1, h2, h3⟩ := ih (by omega)
        obtain ⟨es, hes, htr⟩ := hel k (by omega)
        obtain ⟨x, hx, hbx⟩ := he H enc w base spare held n es (D k) (Pl k) htr
        obtain ⟨hbase, hlen, hcell⟩ := World.cells?_some hes
        refine ⟨l ++ [x], by simp [h1], ?_, ?_⟩
        · intro i y hy
          rcases Nat.lt_or_ge i l.length with hi | hi
          · rw [List.getElem?_append_left hi] at hy
            exact h2 i y hy
          · have e : i = k := by
              have := (List.getElem?_eq_some_iff.1 hy).1
              simp at this
              omega
            subst e
            rw [List.getElem?_append_right hi, h1] at hy
            simp at hy
            subst hy
            obtain ⟨es0, hes0, _⟩ := hel 0 (by omega)
            obtain ⟨_, hlen0, hcell0⟩ := World.cells?_some hes0
            have hsp : a.spot = none := by
              have := hcell0 0 (by rw [hn]; exact hpos)
              rw [List.getElem?_eq_getElem (by rw [hlen0, hn]; exact hpos)] at this
              have h' : w.cell? a = some (es0[0]'(by rw [hlen0, hn]; exact hpos)) := by simpa [Addr.add] using this
              exact spot_of_cell h'
            refine ⟨a.block, a.off, es, ?_, fun h => h, ?_, hx⟩
            · cases a; simp_all
            · intro j u hj
              have hjl := (List.getElem?_eq_some_iff.1 hj).1
              have := hcell j (by omega)
              rw [addr_add hsp, addr_add rfl, hn] at this
              rw [this, hj]
        · rw [List.range_succ, List.map_append, List.map_append, List.sum_append]
          have e1 : ∀ (p q : List (DataW H)), Rows.uptoBulkAll (p ++ q) = Rows.uptoBulkAll p + Rows.uptoBulkAll q := by
            intro p q
            induction p with
            | nil => simp [Rows.uptoBulkAll]
            | cons z p ih => simp only [List.cons_append, Rows.uptoBulkAll, ih]; omega
          rw [e1]
          simp only [List.map_cons, List.map_nil, List.sum_cons, List.sum_nil, Rows.uptoBulkAll]
          omega
    obtain ⟨l, h1, h2, h3⟩ := key len (Nat.le_refl _)
    refine ⟨l, ⟨some a, cap, by rw [h1], by omega, hm, h2⟩, ?_⟩
    simp only [Dat.bulk, Rows.uptoBulk]
    omega

theorem one_of_len {cs : List Value} (h : cs.length = 1) : ∃ c, cs = [c] := by
  match cs, h with
  | [c], _ => exact ⟨c, rfl⟩
theorem opens_mark {P : Program} {t : TypeId} {f0 f1 : Field} (ht : P.underlying t = some (.struct #[f0, f1])) (hc : P.cellsOf t = 2) (o0 : f0.offset = 0) (o1 : f1.offset = 1) (k0 : P.cellsOf f0.type = 1) (k1 : P.cellsOf f1.type = 1)
    (h0 : P.underlying f0.type = some (.int .u8)) (h1 : P.underlying f1.type = some .string) : Opens P t Mark := by
  intro H enc w base spare held fuel cs d ps h
  obtain ⟨y0, y1, n, hx, hl, e0, e1⟩ := trod_struct2 ht h
  rw [hc] at hl
  match cs, hl with
  | [c0, c1], _ =>
    rw [o0, k0] at e0
    rw [o1, k1] at e1
    obtain ⟨m, m1, m2, m3⟩ := DataW.trod_int h0 e0
    obtain ⟨s, s1, s2, s3⟩ := DataW.trod_string h1 e1
    simp at m1 s1
    subst m1 s1 m2 s2
    simp only [Prod.mk.injEq] at hx
    obtain ⟨rfl, rfl⟩ := hx
    have hm := u8_of_wf m3
    refine ⟨⟨m, s⟩, ⟨rfl, hm.1, hm.2, s3⟩, ?_⟩
    show s.size + 3 ≤ Rows.uptoBulk (.agg [.lit (.int .u8 m), .lit (.string s.data.toList)])
    simp only [Rows.uptoBulk, Rows.uptoBulkAll]
    rw [Array.length_toList]
    show s.size + 3 ≤ 1 + (s.size + 1 + 0) + 1
    omega
theorem opens_hunk {P : Program} {t : TypeId} {f0 f1 f2 : Field} (ht : P.underlying t = some (.struct #[f0, f1, f2])) (hc : P.cellsOf t = 3) (o0 : f0.offset = 0) (o1 : f1.offset = 1) (o2 : f2.offset = 2) (k0 : P.cellsOf f0.type = 1) (k1 : P.cellsOf f1.type = 1) (k2 : P.cellsOf f2.type = 1)
    (h0 : P.underlying f0.type = some (.int .i64)) (h1 : P.underlying f1.type = some (.int .i64)) (h2 : Opens P f2.type (List Mark)) : Opens P t Hunk := by
  intro H enc w base spare held fuel cs d ps h
  obtain ⟨y0, y1, y2, n, hx, hl, e0, e1, e2⟩ := Deep.trod_struct3 ht h
  rw [hc] at hl
  match cs, hl with
  | [c0, c1, c2], _ =>
    rw [o0, k0] at e0
    rw [o1, k1] at e1
    rw [o2, k2] at e2
    obtain ⟨m, m1, m2, m3⟩ := DataW.trod_int h0 e0
    obtain ⟨s, s1, s2, s3⟩ := DataW.trod_int h1 e1
    simp at m1 s1 e2
    subst m1 s1 m2 s2
    obtain ⟨l, hl1, hl2⟩ := h2 H enc w base spare held n [c2] y2.1 y2.2 e2
    simp only [Prod.mk.injEq] at hx
    obtain ⟨rfl, rfl⟩ := hx
    refine ⟨⟨m, s, l⟩, ⟨c2, rfl, hl1⟩, ?_⟩
    show Dat.bulk l + 3 ≤ Rows.uptoBulk (.agg [.lit (.int .i64 m), .lit (.int .i64 s), y2.1])
    simp only [Rows.uptoBulk, Rows.uptoBulkAll]
    omega

theorem opens_strs : Opens Tryd.prog 51 (List ByteArray) := opens_slice Tryd.underlying51 (by kernel_rfl) (opens_string Tryd.underlying9)
theorem opens_ints : Opens Tryd.prog 36 (List Int) := opens_slice Tryd.underlying36 (by kernel_rfl) (opens_int Tryd.underlying3)
theorem opens_rows : Opens Tryd.prog 42 (List (List Int)) := opens_slice Tryd.underlying42 (by kernel_rfl) opens_ints
theorem opens_bytes : Opens Tryd.prog 66 (List UInt8) := opens_slice Tryd.underlying66 (by kernel_rfl) (opens_byte Tryd.underlying5)
theorem opens_marks : Opens Tryd.prog 48 (List Mark) := opens_slice Tryd.underlying48 (by kernel_rfl) (opens_mark Tryd.underlying61 (by kernel_rfl) rfl rfl (by kernel_rfl) (by kernel_rfl) Tryd.underlying5 Tryd.underlying9)
theorem opens_hunks : Opens Tryd.prog 23 (List Hunk) := opens_slice Tryd.underlying23 (by kernel_rfl) (opens_hunk Tryd.underlying50 (by kernel_rfl) rfl rfl rfl (by kernel_rfl) (by kernel_rfl) (by kernel_rfl) Tryd.underlying3 Tryd.underlying3 opens_marks)

/-- the condition of the second form: the bulk of what comes in -/
theorem small_of {H : Type} {l : List (DataW H)} (hk : Rows.uptoSmall H l = true) : Rows.uptoBulkAll l ≤ 1048576 := of_decide_eq_true hk
end Go.Proofs.YtgabchhplmncnaaDoor
namespace Go.Proofs.YtgabchhplmncnaaDoor
open Go.ChangeShapes Go.WideShapes Go.ChangeAt Go.RowKit

abbrev listedG : List (String × DataW Unit) := [("math/bits.deBruijn32tab", Rows.laid_math_bits_deBruijn32tab), ("math/bits.deBruijn64tab", Rows.laid_math_bits_deBruijn64tab), ("internal/strconv.uint64pow10", Rows.laid_internal_strconv_uint64pow10), ("unicode/utf8.acceptRanges", Rows.laid_unicode_utf8_acceptRanges), ("unicode/utf8.first", Rows.laid_unicode_utf8_first)]
theorem maxlen_of {W : World} (h : W.ShapedOpen Tryd.prog) : ∃ m, W.cell? ⟨0, 0, none⟩ = some (.int .i64 m) := Go.Proofs.cell_of_shapedOpen_int (zero := #[.int .i64 0]) (t := 3) h (of_decide_eq_true (by kernel_rfl)) (by kernel_rfl) rfl (by kernel_rfl) (by kernel_rfl) Tryd.underlying3
def litOf : DataW Unit → List Value
  | .lit (.int k n) => [.int k n]
  | _ => []
def cellOf : DataW Unit → List Value
  | .agg es => es.flatMap litOf
  | d => litOf d
def tableOf : DataW Unit → List Value
  | .agg ds => ds.flatMap cellOf
  | d => litOf d
def setTable (w : World) (g : Nat) (cs : List Value) : World :=
  { w with heap := w.heap.modify g fun
      | .cells _ t frozen => .cells cs.toArray t frozen
      | o => o }
noncomputable def laidWorldG (os : Os) : World := setTable (setTable (setTable (setTable (setTable (World.holding Tryd.prog os ⟨#[], #[], []⟩) 2 (tableOf Rows.laid_unicode_utf8_acceptRanges)) 1 (tableOf Rows.laid_unicode_utf8_first)) 4 (tableOf Rows.laid_math_bits_deBruijn32tab)) 5 (tableOf Rows.laid_math_bits_deBruijn64tab)) 3 (tableOf Rows.laid_internal_strconv_uint64pow10)
theorem laidWorldG_met (os : Os) (args : Array Value) : laidMetH Tryd.prog listedG ((laidWorldG os).forCall (fun _ _ => 0) ⟨#[], args, []⟩).memory :=
  (laidMet_of_run' 8 (by kernel_rfl) (by kernel_rfl) : laidMet Tryd.prog listedG _)
end Go.Proofs.YtgabchhplmncnaaDoor
namespace Go.Proofs.YtgabchhplmncnaaDoor
open Go.ChangeShapes Go.WideShapes Go.ChangeAt Go.RowKit

theorem opens_file {P : Program} {t : TypeId} {f0 f1 : Field} (ht : P.underlying t = some (.struct #[f0, f1])) (hc : P.cellsOf t = 2) (o0 : f0.offset = 0) (o1 : f1.offset = 1) (k0 : P.cellsOf f0.type = 1) (k1 : P.cellsOf f1.type = 1)
    (h0 : P.underlying f0.type = some .string) (h1 : Opens P f1.type (List ByteArray)) : Opens P t File := by
  intro H enc w base spare held fuel cs d ps h
  obtain ⟨y0, y1, n, hx, hl, e0, e1⟩ := trod_struct2 ht h
  rw [hc] at hl
  match cs, hl with
  | [c0, c1], _ =>
    rw [o0, k0] at e0
    rw [o1, k1] at e1
    obtain ⟨s, s1, s2, s3⟩ := DataW.trod_string h0 e0
    simp at s1 e1
    subst s1 s2
    obtain ⟨l, hl1, hl2⟩ := h1 H enc w base spare held n [c1] y1.1 y1.2 e1
    simp only [Prod.mk.injEq] at hx
    obtain ⟨rfl, rfl⟩ := hx
    refine ⟨⟨s, l⟩, ⟨c1, rfl, s3, hl1⟩, ?_⟩
    show s.size + Dat.bulk l + 2 ≤ Rows.uptoBulk (.agg [.lit (.string s.data.toList), y1.1])
    simp only [Rows.uptoBulk, Rows.uptoBulkAll]
    rw [Array.length_toList]
    show s.size + Dat.bulk l + 2 ≤ s.size + 1 + (Rows.uptoBulk y1.1 + 0) + 1
    omega
theorem opens_change {P : Program} {t : TypeId} {f0 f1 f2 : Field} (ht : P.underlying t = some (.struct #[f0, f1, f2])) (hc : P.cellsOf t = 3) (o0 : f0.offset = 0) (o1 : f1.offset = 1) (o2 : f2.offset = 2) (k0 : P.cellsOf f0.type = 1) (k1 : P.cellsOf f1.type = 1) (k2 : P.cellsOf f2.type = 1)
    (h0 : P.underlying f0.type = some (.int .i64)) (h1 : P.underlying f1.type = some .string) (h2 : Opens P f2.type (List Hunk)) : Opens P t Change := by
  intro H enc w base spare held fuel cs d ps h
  obtain ⟨y0, y1, y2, n, hx, hl, e0, e1, e2⟩ := Deep.trod_struct3 ht h
  rw [hc] at hl
  match cs, hl with
  | [c0, c1, c2], _ =>
    rw [o0, k0] at e0
    rw [o1, k1] at e1
    rw [o2, k2] at e2
    obtain ⟨m, m1, m2, m3⟩ := DataW.trod_int h0 e0
    obtain ⟨s, s1, s2, s3⟩ := DataW.trod_string h1 e1
    simp at m1 s1 e2
    subst m1 s1 m2 s2
    obtain ⟨l, hl1, hl2⟩ := h2 H enc w base spare held n [c2] y2.1 y2.2 e2
    simp only [Prod.mk.injEq] at hx
    obtain ⟨rfl, rfl⟩ := hx
    refine ⟨⟨m, s, l⟩, ⟨c2, rfl, s3, hl1⟩, ?_⟩
    show s.size + Dat.bulk l + 3 ≤ Rows.uptoBulk (.agg [.lit (.int .i64 m), .lit (.string s.data.toList), y2.1])
    simp only [Rows.uptoBulk, Rows.uptoBulkAll]
    rw [Array.length_toList]
    show s.size + Dat.bulk l + 3 ≤ 1 + (s.size + 1 + (Rows.uptoBulk y2.1 + 0)) + 1
    omega

theorem opens_achange : Opens Tryd.prog 25 Change := opens_change Tryd.underlying25 (by kernel_rfl) rfl rfl rfl (by kernel_rfl) (by kernel_rfl) (by kernel_rfl) Tryd.underlying3 Tryd.underlying9 opens_hunks
theorem opens_changes : Opens Tryd.prog 26 (List Change) := opens_slice Tryd.underlying26 (by kernel_rfl) opens_achange
theorem opens_series : Opens Tryd.prog 22 (List (List Change)) := opens_slice Tryd.underlying22 (by kernel_rfl) opens_changes
theorem opens_ahunk : Opens Tryd.prog 50 Hunk := opens_hunk Tryd.underlying50 (by kernel_rfl) rfl rfl rfl (by kernel_rfl) (by kernel_rfl) (by kernel_rfl) Tryd.underlying3 Tryd.underlying3 opens_marks

/-- a struct that is an argument by itself -/
theorem open_agg {P : Program} {t : TypeId} {fs : Array Field} {α : Type} [Dat α] (ht : P.underlying t = some (.struct fs)) (ho : Opens P t α) {H : Type} {enc : TypeId × Value → H} {w w' : World} {r} {base base' : Nat} {spare : Nat → Bool} {held : Bool} {v : Value} {d : DataW H} {ps : List MemPlace}
    (hv : Value.okWide P w' r base' t v) (h : DataW.Trod enc P w base spare held t v d ps) : ∃ (x : α) (cs : List Value), v = .agg cs.toArray ∧ Dat.rd w Never cs x ∧ Dat.bulk x ≤ Rows.uptoBulk d := by
  obtain ⟨cs, rfl, _⟩ := okWide_struct ht hv
  obtain ⟨u, k⟩ := h
  obtain ⟨x, hx, hb⟩ := ho H enc w base spare held u _ d ps k
  exact ⟨x, cs.toList, by simp, by simpa [Value.cells] using hx, hb⟩
end Go.Proofs.YtgabchhplmncnaaDoor
namespace Go.Proofs.YtgabchhplmncnaaDoor
open Go.RowKit

def errV (k : Int) : Value := if k = 0 then .nilIface else .iface 33 (.int .i64 k)
theorem errV_zero : errV 0 = .nilIface := rfl
theorem errV_pos {k : Int} (h : k ≠ 0) : errV k = .iface 33 (.int .i64 k) := by simp [errV, h]

theorem indexByte_nonneg (l : List UInt8) (c : UInt8) : decide (0 ≤ Lib.indexByte l c) = l.contains c := by
  have key : ∀ l : List UInt8, -1 ≤ Lib.indexByte l c ∧ (0 ≤ Lib.indexByte l c ↔ c ∈ l) := by
    intro l
    induction l with
    | nil => simp [Lib.indexByte]
    | cons b l ih =>
      obtain ⟨i1, i2⟩ := ih
      simp only [Lib.indexByte]
      by_cases hb : b = c
      · simp [hb]
      · by_cases hm : Lib.indexByte l c = -1
        · have : c ∉ l := fun h => by have := i2.2 h; omega
          simp [hb, hm, this, Ne.symm hb]
        · have : c ∈ l := i2.1 (by omega)
          simp [hb, hm, this]
          omega
  have := (key l).2
  by_cases hm : c ∈ l
  · simp [hm, this.2 hm]
  · have hn : ¬ 0 ≤ Lib.indexByte l c := fun h => hm (this.1 h)
    simp [hm, hn]
theorem hasNl_index (s : ByteArray) : decide (0 ≤ Lib.indexByte s.data.toList 10) = hasNl s := indexByte_nonneg _ _
theorem drop_eq {α : Type} {l : List α} {k : Nat} {x : α} (h : l[k]? = some x) : l.drop k = x :: l.drop (k + 1) := by
  obtain ⟨hk, hx⟩ := List.getElem?_eq_some_iff.1 h
  rw [List.drop_eq_getElem_cons hk, hx]

theorem one_any (s : ByteArray) (w : World) (hs : s.size ≤ maxLen) :
    Calls Tryd.prog 60 #[.string s] w fun e w' => e = .returned (errV (lineFault s)) ∧ w = w' := by
  unfold maxLen at hs
  by_cases h1 : hasNl s = true
  · go_enter Tryd.func60, Tryd.ntmps60
    go_wp2_with (go_at_call 67; refine (Tryd.strings_Contains_one _ _ _).mono ?_; rintro e w' ⟨rfl, rfl⟩; rw [hasNl_index, h1])
    go_ret
    exact ⟨by simp [lineFault, h1, errV], rfl⟩
  · have h1' : hasNl s = false := by simpa using h1
    by_cases h2 : 80 < s.size
    · go_enter Tryd.func60, Tryd.ntmps60
      go_wp2_with (go_at_call 67; refine (Tryd.strings_Contains_one _ _ _).mono ?_; rintro e w' ⟨rfl, rfl⟩; rw [hasNl_index, h1'])
      go_ret
      exact ⟨by simp [lineFault, h1', h2, errV], rfl⟩
    · go_enter Tryd.func60, Tryd.ntmps60
      go_wp2_with (go_at_call 67; refine (Tryd.strings_Contains_one _ _ _).mono ?_; rintro e w' ⟨rfl, rfl⟩; rw [hasNl_index, h1'])
      go_ret
      exact ⟨by simp [lineFault, h1', h2, errV], rfl⟩

theorem take_same {α : Type} {l m : List α} {k : Nat} {x : α} (h : l.take k = m.take k) (hx : l[k]? = some x) (hy : m[k]? = some x) : l.take (k + 1) = m.take (k + 1) := by
  rw [List.take_add_one, List.take_add_one, h, hx, hy]
theorem ne_of_get {α : Type} {l m : List α} {k : Nat} {x y : α} (hx : l[k]? = some x) (hy : m[k]? = some y) (h : x ≠ y) : l ≠ m := by
  rintro rfl
  rw [hx] at hy
  exact h (Option.some.inj hy)
theorem str_beq_false {x y : ByteArray} (h : x ≠ y) : (x.toList == y.toList) = false := by
  rw [ByteArray.toList_eq, ByteArray.toList_eq]
  refine beq_eq_false_iff_ne.2 (fun e => h ?_)
  have := Array.toList_inj.1 e
  cases x; cases y; simp_all

end Go.Proofs.YtgabchhplmncnaaDoor
namespace Go.Proofs.YtgabchhplmncnaaDoor

def delC (left : Nat → Bool) (k : Nat) : Nat → Bool := fun j => left j && j != k
/-- the least of what is left below k; -1 for none -/
def minGo (f : Nat → Int) (left : Nat → Bool) : Nat → Int
  | 0 => -1
  | k + 1 => if left k = true ∧ (minGo f left k < 0 ∨ f k < minGo f left k) then f k else minGo f left k
def outGo (f : Nat → Int) (g : Nat → List Int) (left : Nat → Bool) : Nat → List Int
  | 0 => []
  | k + 1 => if left k = true ∧ (minGo f left k < 0 ∨ f k < minGo f left k) then (k : Int) :: g k else outGo f g left k
/-- the least cost of rows of the columns left -/
def bestS : List (List Int) → (Nat → Bool) → Int
  | [], _ => 0
  | row :: rest, left => minGo (fun k => row.getD k 0 + bestS rest (delC left k)) left row.length
/-- what the program chooses -/
def chooseS : List (List Int) → (Nat → Bool) → List Int
  | [], _ => []
  | row :: rest, left => match (List.range row.length).find? (fun k => left k && row.getD k 0 + bestS rest (delC left k) == bestS (row :: rest) left) with
    | none => chooseS rest left
    | some k => (k : Int) :: chooseS rest (delC left k)
/-- what the document chooses -/
def refOut : List (List Int) → (Nat → Bool) → List Int
  | [], _ => []
  | row :: rest, left => outGo (fun k => row.getD k 0 + bestS rest (delC left k)) (fun k => refOut rest (delC left k)) left row.length
/-- how many are left below n -/
def cntL (left : Nat → Bool) : Nat → Nat
  | 0 => 0
  | n + 1 => cntL left n + (if left n = true then 1 else 0)

theorem cnt_del_out (left : Nat → Bool) {k : Nat} : ∀ (n : Nat), n ≤ k → cntL (delC left k) n = cntL left n
  | 0, _ => rfl
  | n + 1, h => by
    rw [cntL, cntL, cnt_del_out left n (by omega)]
    have : delC left k n = left n := by unfold delC; rw [show (n != k) = true by simp; omega, Bool.and_true]
    rw [this]
theorem cnt_del (left : Nat → Bool) {k : Nat} (hk : left k = true) : ∀ (n : Nat), k < n → cntL (delC left k) n + 1 = cntL left n
  | 0, h => absurd h (by omega)
  | n + 1, h => by
    rw [cntL, cntL]
    by_cases e : k = n
    · subst e
      rw [cnt_del_out left k (Nat.le_refl _), if_pos hk, if_neg (by unfold delC; simp)]
    · have : delC left k n = left n := by unfold delC; rw [show (n != k) = true by simp; omega, Bool.and_true]
      rw [this, ← cnt_del left hk n (by omega)]
      omega
theorem cnt_some {left : Nat → Bool} : ∀ {n : Nat}, 0 < cntL left n → ∃ j, j < n ∧ left j = true
  | 0, h => absurd h (by simp [cntL])
  | n + 1, h => by
    rw [cntL] at h
    by_cases e : left n = true
    · exact ⟨n, by omega, e⟩
    · rw [if_neg e] at h
      obtain ⟨j, q, r⟩ := cnt_some (n := n) (by omega)
      exact ⟨j, by omega, r⟩
theorem del_left {left : Nat → Bool} {k j : Nat} (h : delC left k j = true) : left j = true ∧ j ≠ k := by
  unfold delC at h
  simpa using h

theorem min_none {f : Nat → Int} {left : Nat → Bool} : ∀ {k : Nat}, (∀ j, j < k → left j = false) → minGo f left k = -1
  | 0, _ => rfl
  | k + 1, h => by
    rw [minGo, if_neg (by rw [h k (by omega)]; simp), min_none fun j q => h j (by omega)]
/-- the least is one of them, the first such; the choice is its -/
theorem min_first {f : Nat → Int} {left : Nat → Bool} (g : Nat → List Int) : ∀ {k : Nat}, (∀ j, j < k → left j = true → 0 ≤ f j) → (∃ j, j < k ∧ left j = true) →
    ∃ j, j < k ∧ left j = true ∧ minGo f left k = f j ∧ (∀ i, i < k → left i = true → f j ≤ f i) ∧ (∀ i, i < j → left i = true → f j < f i) ∧ outGo f g left k = (j : Int) :: g j
  | 0, _, h => by obtain ⟨j, q, _⟩ := h; omega
  | k + 1, hp, h => by
    by_cases hex : ∃ j, j < k ∧ left j = true
    · obtain ⟨j, q1, q2, q3, q4, q5, q6⟩ := min_first g (fun i q => hp i (by omega)) hex
      have hj := hp j (by omega) q2
      by_cases ht : left k = true ∧ f k < f j
      · refine ⟨k, by omega, ht.1, ?_, fun i qi li => ?_, fun i qi li => ?_, ?_⟩
        · rw [minGo, if_pos ⟨ht.1, .inr (by rw [q3]; exact ht.2)⟩]
        · by_cases e : i = k
          · subst e; exact Int.le_refl _
          · have := q4 i (by omega) li
            have := ht.2
            omega
        · have := q4 i qi li
          have := ht.2
          omega
        · rw [outGo, if_pos ⟨ht.1, .inr (by rw [q3]; exact ht.2)⟩]
      · have hn : ¬ (left k = true ∧ (minGo f left k < 0 ∨ f k < minGo f left k)) := by
          rintro ⟨a, b⟩
          rw [q3] at b
          rcases b with b | b
          · omega
          · exact ht ⟨a, b⟩
        refine ⟨j, by omega, q2, by rw [minGo, if_neg hn, q3], fun i qi li => ?_, q5, by rw [outGo, if_neg hn, q6]⟩
        by_cases e : i = k
        · subst e
          exact Int.not_lt.1 fun l => ht ⟨li, l⟩
        · exact q4 i (by omega) li
    · have hnone : ∀ j, j < k → left j = false := fun j q => by
        cases e : left j with
        | false => rfl
        | true => exact absurd ⟨j, q, e⟩ hex
      have hk : left k = true := by
        obtain ⟨j, q, l⟩ := h
        by_cases e : j = k
        · rw [← e]; exact l
        · rw [hnone j (by omega)] at l; cases l
      have hm : left k = true ∧ (minGo f left k < 0 ∨ f k < minGo f left k) := ⟨hk, .inl (by rw [min_none hnone]; decide)⟩
      refine ⟨k, by omega, hk, by rw [minGo, if_pos hm], fun i qi li => ?_, fun i qi li => ?_, by rw [outGo, if_pos hm]⟩
      · by_cases e : i = k
        · subst e; exact Int.le_refl _
        · rw [hnone i (by omega)] at li; cases li
      · rw [hnone i qi] at li; cases li

/-- rows that may be -/
def SqOk (n : Nat) (rows : List (List Int)) : Prop := ∀ row ∈ rows, row.length = n ∧ ∀ c ∈ row, 0 ≤ c
theorem sq_tail {n : Nat} {row : List Int} {rest : List (List Int)} (h : SqOk n (row :: rest)) : SqOk n rest := fun r hr => h r (List.mem_cons_of_mem _ hr)
theorem sq_at {n : Nat} {row : List Int} {rest : List (List Int)} (h : SqOk n (row :: rest)) (k : Nat) : 0 ≤ row.getD k 0 := by
  rw [List.getD_eq_getElem?_getD]
  cases e : row[k]? with
  | none => exact Int.le_refl _
  | some c => exact (h row (List.mem_cons_self ..)).2 c (List.mem_of_getElem? e)
theorem best_pos {n : Nat} : ∀ {rows : List (List Int)} {left : Nat → Bool}, SqOk n rows → rows.length ≤ cntL left n → 0 ≤ bestS rows left
  | [], _, _, _ => Int.le_refl _
  | row :: rest, left, h, hc => by
    have hl : row.length = n := (h row (List.mem_cons_self ..)).1
    simp only [List.length_cons] at hc
    have hp : ∀ j, j < row.length → left j = true → 0 ≤ row.getD j 0 + bestS rest (delC left j) := fun j q l => by
      have := sq_at h j
      have := best_pos (rows := rest) (left := delC left j) (sq_tail h) (by have := cnt_del left l n (by omega); omega)
      omega
    obtain ⟨j, q1, q2, q3, _⟩ := min_first (fun _ => []) hp (by rw [hl]; exact cnt_some (by omega))
    rw [bestS, q3]
    exact hp j q1 q2
/-- the step: the first column that is as cheap as can be -/
theorem best_step {n : Nat} {row : List Int} {rest : List (List Int)} {left : Nat → Bool} (h : SqOk n (row :: rest)) (hc : rest.length + 1 ≤ cntL left n) :
    ∃ j, j < n ∧ left j = true ∧ bestS (row :: rest) left = row.getD j 0 + bestS rest (delC left j) ∧ rest.length ≤ cntL (delC left j) n
      ∧ (∀ i, i < n → left i = true → bestS (row :: rest) left ≤ row.getD i 0 + bestS rest (delC left i))
      ∧ chooseS (row :: rest) left = (j : Int) :: chooseS rest (delC left j) ∧ refOut (row :: rest) left = (j : Int) :: refOut rest (delC left j) := by
  have hl : row.length = n := (h row (List.mem_cons_self ..)).1
  have hp : ∀ j, j < row.length → left j = true → 0 ≤ row.getD j 0 + bestS rest (delC left j) := fun j q l => by
    have := sq_at h j
    have := best_pos (rows := rest) (left := delC left j) (sq_tail h) (by have := cnt_del left l n (by omega); omega)
    omega
  obtain ⟨j, q1, q2, q3, q4, q5, q6⟩ := min_first (fun k => refOut rest (delC left k)) hp (by rw [hl]; exact cnt_some (by omega))
  have e : bestS (row :: rest) left = row.getD j 0 + bestS rest (delC left j) := by rw [bestS, q3]
  refine ⟨j, by omega, q2, e, by have := cnt_del left q2 n (by omega); omega, fun i qi li => by rw [e]; exact q4 i (by omega) li, ?_, by rw [refOut, q6]⟩
  have hf : (List.range row.length).find? (fun k => left k && row.getD k 0 + bestS rest (delC left k) == bestS (row :: rest) left) = some j := by
    rw [List.find?_range_eq_some]
    refine ⟨by rw [q2, e]; simp, List.mem_range.2 q1, fun i qi => ?_⟩
    cases li : left i with
    | false => rfl
    | true =>
      have := q5 i qi li
      rw [e]
      simp only [Bool.true_and, Bool.not_eq_true', beq_eq_false_iff_ne, ne_eq]
      omega
  rw [chooseS, hf]
/-- what the program chooses is what the document chooses -/
theorem choose_ref {n : Nat} : ∀ {rows : List (List Int)} {left : Nat → Bool}, SqOk n rows → rows.length ≤ cntL left n → chooseS rows left = refOut rows left
  | [], _, _, _ => rfl
  | row :: rest, left, h, hc => by
    obtain ⟨j, _, _, _, q4, _, q6, q7⟩ := best_step h (by simpa using hc)
    rw [q6, q7, choose_ref (sq_tail h) q4]
theorem choose_len {n : Nat} : ∀ {rows : List (List Int)} {left : Nat → Bool}, SqOk n rows → rows.length ≤ cntL left n → (chooseS rows left).length = rows.length
  | [], _, _, _ => rfl
  | row :: rest, left, h, hc => by
    obtain ⟨j, _, _, _, q4, _, q6, _⟩ := best_step h (by simpa using hc)
    rw [q6, List.length_cons, choose_len (sq_tail h) q4, List.length_cons]

/-! ### a choice's cost -/
/-- the sum of a choice: none if a column is none or was there -/
def costGo (n : Nat) : List (List Int) → List Int → List Int → Int → Option Int
  | _, [], _, s => some s
  | [], _ :: _, _, _ => none
  | row :: rest, k :: m, seen, s => if k < 0 ∨ (n : Int) ≤ k ∨ k ∈ seen then none else costGo n rest m (seen ++ [k]) (s + row.getD k.toNat 0)
def Seen (n : Nat) (left : Nat → Bool) (seen : List Int) : Prop := ∀ k, k < n → (left k = true ↔ (k : Int) ∉ seen)
theorem seen_del {n : Nat} {left : Nat → Bool} {seen : List Int} (h : Seen n left seen) (j : Nat) : Seen n (delC left j) (seen ++ [(j : Int)]) := fun k hk => by
  unfold delC
  have := h k hk
  simp only [Bool.and_eq_true, bne_iff_ne, ne_eq, List.mem_append, List.mem_singleton, not_or, this]
  exact ⟨fun ⟨a, b⟩ => ⟨a, by omega⟩, fun ⟨a, b⟩ => ⟨a, by omega⟩⟩
/-- none is cheaper -/
theorem cost_ge {n : Nat} : ∀ {rows : List (List Int)} {m seen : List Int} {left : Nat → Bool} {s t : Int}, SqOk n rows → rows.length ≤ cntL left n → rows.length = m.length → Seen n left seen →
    costGo n rows m seen s = some t → s + bestS rows left ≤ t
  | [], [], _, _, s, t, _, _, _, _, h => by
    rw [costGo] at h
    injection h with h
    rw [bestS]; omega
  | [], _ :: _, _, _, _, _, _, _, hl, _, _ => by simp at hl
  | _ :: _, [], _, _, _, _, _, _, hl, _, _ => by simp at hl
  | row :: rest, k :: m, seen, left, s, t, hs, hc, hl, hseen, h => by
    rw [costGo] at h
    by_cases hb : k < 0 ∨ (n : Int) ≤ k ∨ k ∈ seen
    · rw [if_pos hb] at h; cases h
    · rw [if_neg hb] at h
      obtain ⟨j, rfl⟩ : ∃ j : Nat, k = j := ⟨k.toNat, by omega⟩
      have hj : j < n := by omega
      have hlj : left j = true := (hseen j hj).2 fun q => hb (.inr (.inr q))
      obtain ⟨_, _, _, _, _, q, _⟩ := best_step hs (by simpa using hc)
      have q := q j hj hlj
      have := cost_ge (sq_tail hs) (by have := cnt_del left hlj n hj; simp at hc; omega) (by simpa using hl) (seen_del hseen j) h
      rw [show ((j : Int)).toNat = j from rfl] at this
      omega
/-- what is chosen costs the least -/
theorem cost_choose {n : Nat} : ∀ {rows : List (List Int)} {seen : List Int} {left : Nat → Bool} {s : Int}, SqOk n rows → rows.length ≤ cntL left n → Seen n left seen →
    costGo n rows (chooseS rows left) seen s = some (s + bestS rows left)
  | [], _, _, s, _, _, _ => by rw [chooseS, costGo, bestS, Int.add_zero]
  | row :: rest, seen, left, s, hs, hc, hseen => by
    obtain ⟨j, q1, q2, q3, q4, _, q6, _⟩ := best_step hs (by simpa using hc)
    rw [q6, costGo, if_neg (by
      rintro (e | e | e)
      · omega
      · omega
      · exact (hseen j q1).1 q2 e), cost_choose (sq_tail hs) q4 (seen_del hseen j), q3, show ((j : Int)).toNat = j from rfl]
    congr 1; omega

/-! ### a row that is dearer for all columns -/
def addRow : List (List Int) → Nat → Int → List (List Int)
  | [], _, _ => []
  | row :: rest, 0, b => row.map (· + b) :: rest
  | row :: rest, r + 1, b => row :: addRow rest r b
theorem add_len : ∀ (rows : List (List Int)) (r : Nat) (b : Int), (addRow rows r b).length = rows.length
  | [], _, _ => rfl
  | _ :: _, 0, _ => rfl
  | _ :: rest, r + 1, b => by rw [addRow, List.length_cons, List.length_cons, add_len rest r b]
theorem sq_add {n : Nat} {b : Int} (hb : 0 ≤ b) : ∀ {rows : List (List Int)} (r : Nat), SqOk n rows → SqOk n (addRow rows r b)
  | [], _, h => h
  | row :: rest, 0, h => fun x hx => by
    rcases List.mem_cons.1 hx with rfl | hx
    · refine ⟨by rw [List.length_map]; exact (h row (List.mem_cons_self ..)).1, fun c hc => ?_⟩
      obtain ⟨d, hd, rfl⟩ := List.mem_map.1 hc
      have := (h row (List.mem_cons_self ..)).2 d hd
      show 0 ≤ d + b
      omega
    · exact h x (List.mem_cons_of_mem _ hx)
  | row :: rest, r + 1, h => fun x hx => by
    rcases List.mem_cons.1 hx with rfl | hx
    · exact h x (List.mem_cons_self ..)
    · exact sq_add hb r (sq_tail h) x hx
theorem min_add {f g : Nat → Int} {left : Nat → Bool} {b : Int} (hb : 0 ≤ b) : ∀ {k : Nat}, (∀ j, j < k → left j = true → 0 ≤ f j ∧ g j = f j + b) →
    (∀ j, j < k → left j = false) ∨ (0 ≤ minGo f left k ∧ minGo g left k = minGo f left k + b)
  | 0, _ => .inl fun j q => by omega
  | k + 1, h => by
    cases e : left k with
    | false =>
      rcases min_add hb (k := k) fun j q => h j (by omega) with q | ⟨q1, q2⟩
      · refine .inl fun j hj => ?_
        by_cases i : j = k
        · rw [i]; exact e
        · exact q j (by omega)
      · right
        rw [minGo, minGo, if_neg (by rw [e]; simp), if_neg (by rw [e]; simp)]
        exact ⟨q1, q2⟩
    | true =>
      right
      obtain ⟨p1, p2⟩ := h k (by omega) e
      rcases min_add hb (k := k) fun j q => h j (by omega) with q | ⟨q1, q2⟩
      · rw [minGo, minGo, min_none q, min_none q, if_pos ⟨e, .inl (by decide)⟩, if_pos ⟨e, .inl (by decide)⟩]
        exact ⟨p1, p2⟩
      · rw [minGo, minGo]
        by_cases t : f k < minGo f left k
        · rw [if_pos ⟨e, .inr t⟩, if_pos ⟨e, .inr (by omega)⟩]
          exact ⟨p1, p2⟩
        · rw [if_neg (by rintro ⟨_, u | u⟩ <;> omega), if_neg (by rintro ⟨_, u | u⟩ <;> omega)]
          exact ⟨q1, q2⟩
theorem getD_add {row : List Int} {b : Int} {k : Nat} (h : k < row.length) : (row.map (· + b)).getD k 0 = row.getD k 0 + b := by
  rw [List.getD_eq_getElem?_getD, List.getD_eq_getElem?_getD, List.getElem?_map, List.getElem?_eq_getElem h]; rfl
theorem best_add {n : Nat} {b : Int} (hb : 0 ≤ b) : ∀ {rows : List (List Int)} {r : Nat} {left : Nat → Bool}, SqOk n rows → rows.length ≤ cntL left n → r < rows.length →
    bestS (addRow rows r b) left = bestS rows left + b
  | [], _, _, _, _, h => by simp at h
  | row :: rest, 0, left, hs, hc, _ => by
    have hl : row.length = n := (hs row (List.mem_cons_self ..)).1
    simp only [List.length_cons] at hc
    rw [addRow, bestS, bestS, List.length_map]
    rcases min_add (f := fun k => row.getD k 0 + bestS rest (delC left k)) (g := fun k => (row.map (· + b)).getD k 0 + bestS rest (delC left k)) (left := left) hb (k := row.length) (fun j q l => by
        have := sq_at hs j
        have := best_pos (rows := rest) (left := delC left j) (sq_tail hs) (by have := cnt_del left l n (by omega); omega)
        refine ⟨by omega, ?_⟩
        show (row.map (· + b)).getD j 0 + _ = _
        rw [getD_add q]; omega) with q | ⟨_, q⟩
    · obtain ⟨j, q1, q2⟩ := cnt_some (left := left) (n := n) (by omega)
      rw [q j (by omega)] at q2; cases q2
    · exact q
  | row :: rest, r + 1, left, hs, hc, hr => by
    have hl : row.length = n := (hs row (List.mem_cons_self ..)).1
    simp only [List.length_cons] at hc hr
    rw [addRow, bestS, bestS]
    rcases min_add (f := fun k => row.getD k 0 + bestS rest (delC left k)) (g := fun k => row.getD k 0 + bestS (addRow rest r b) (delC left k)) (left := left) hb (k := row.length) (fun j q l => by
        have hd := cnt_del left l n (by omega)
        have := sq_at hs j
        have := best_pos (rows := rest) (left := delC left j) (sq_tail hs) (by omega)
        refine ⟨by omega, ?_⟩
        show row.getD j 0 + bestS (addRow rest r b) (delC left j) = _
        rw [best_add hb (sq_tail hs) (by omega) (by omega)]; omega) with q | ⟨_, q⟩
    · obtain ⟨j, q1, q2⟩ := cnt_some (left := left) (n := n) (by omega)
      rw [q j (by omega)] at q2; cases q2
    · exact q
theorem find_same {p q : Nat → Bool} : ∀ {l : List Nat}, (∀ k ∈ l, p k = q k) → l.find? p = l.find? q
  | [], _ => rfl
  | a :: r, h => by
    rw [List.find?_cons, List.find?_cons, h a (List.mem_cons_self ..), find_same fun k hk => h k (List.mem_cons_of_mem _ hk)]
/-- the same is chosen -/
theorem choose_add {n : Nat} {b : Int} (hb : 0 ≤ b) : ∀ {rows : List (List Int)} {r : Nat} {left : Nat → Bool}, SqOk n rows → rows.length ≤ cntL left n → r < rows.length →
    chooseS (addRow rows r b) left = chooseS rows left
  | [], _, _, _, _, h => by simp at h
  | row :: rest, 0, left, hs, hc, hr => by
    have hl : row.length = n := (hs row (List.mem_cons_self ..)).1
    have e := best_add hb hs hc hr
    rw [addRow] at e ⊢
    rw [chooseS, chooseS, e, List.length_map]
    rw [find_same (q := fun k => left k && row.getD k 0 + bestS rest (delC left k) == bestS (row :: rest) left) fun k hk => by
      rw [getD_add (List.mem_range.1 hk)]
      congr 1
      rw [Bool.eq_iff_iff, beq_iff_eq, beq_iff_eq]; omega]
  | row :: rest, r + 1, left, hs, hc, hr => by
    have hl : row.length = n := (hs row (List.mem_cons_self ..)).1
    have e := best_add hb hs hc hr
    rw [addRow] at e ⊢
    simp only [List.length_cons] at hc hr
    obtain ⟨j, q1, q2, q3, q4, _, q6, _⟩ := best_step hs hc
    rw [chooseS, e, find_same (q := fun k => left k && row.getD k 0 + bestS rest (delC left k) == bestS (row :: rest) left) fun k hk => by
      cases l : left k with
      | false => rfl
      | true =>
        have hd := cnt_del left l n (by rw [← hl]; exact List.mem_range.1 hk)
        rw [best_add hb (sq_tail hs) (by omega) (by omega)]
        simp only [Bool.true_and]
        rw [Bool.eq_iff_iff, beq_iff_eq, beq_iff_eq]; omega]
    rw [chooseS] at q6 ⊢
    cases hf : (List.range row.length).find? (fun k => left k && row.getD k 0 + bestS rest (delC left k) == bestS (row :: rest) left) with
    | none =>
      exfalso
      rw [List.find?_eq_none] at hf
      exact hf j (List.mem_range.2 (by omega)) (by rw [q2, q3]; simp)
    | some k =>
      have hk := List.find?_some hf
      have hkm := List.mem_range.1 (List.mem_of_find?_eq_some hf)
      simp only [Bool.and_eq_true] at hk
      have hd := cnt_del left hk.1 n (by omega)
      simp only
      rw [choose_add hb (sq_tail hs) (by omega) (by omega)]
end Go.Proofs.YtgabchhplmncnaaDoor
namespace Go.Proofs.YtgabchhplmncnaaDoor
def bitsOf (s : Nat) : Nat → Bool := fun k => s.testBit k
theorem bit_del_small : ∀ s, s < 256 → ∀ k, k < 8 → s.testBit k = true → ∀ j, j < 8 → (s - 2 ^ k).testBit j = (s.testBit j && j != k) := by decide +kernel
theorem low_small : ∀ s, s < 256 → 0 < s → cntL (bitsOf (s &&& (s - 1))) 8 + 1 = cntL (bitsOf s) 8 ∧ s &&& (s - 1) < s := by decide +kernel
theorem bits_le {s k : Nat} (h : s.testBit k = true) : 2 ^ k ≤ s := Nat.ge_two_pow_of_testBit h
theorem bits_del {s k : Nat} (hs : s < 256) (hk : k < 8) (h : bitsOf s k = true) : bitsOf (s - 2 ^ k) = delC (bitsOf s) k := by
  funext j
  unfold bitsOf delC
  by_cases hj : j < 8
  · exact bit_del_small s hs k hk h j hj
  · show (s - 2 ^ k).testBit j = (s.testBit j && j != k)
    have h1 : s < 2 ^ j := Nat.lt_of_lt_of_le hs (Nat.pow_le_pow_right (n := 2) (by decide) (show 8 ≤ j by omega))
    rw [Nat.testBit_lt_two_pow h1, Nat.testBit_lt_two_pow (Nat.lt_of_le_of_lt (Nat.sub_le _ _) h1)]; rfl
theorem bits_full (n k : Nat) : bitsOf (2 ^ n - 1) k = decide (k < n) := Nat.testBit_two_pow_sub_one n k
theorem cnt_full (n : Nat) : ∀ (k : Nat), k ≤ n → cntL (bitsOf (2 ^ n - 1)) k = k
  | 0, _ => rfl
  | k + 1, h => by rw [cntL, cnt_full n k (by omega), if_pos (by rw [bits_full]; simp; omega)]
theorem cnt_beyond {s n : Nat} (h : s < 2 ^ n) : ∀ (k : Nat), n ≤ k → cntL (bitsOf s) k = cntL (bitsOf s) n
  | 0, q => by rw [show n = 0 by omega]
  | k + 1, q => by
    by_cases e : n = k + 1
    · rw [e]
    · rw [cntL, cnt_beyond h k (by omega), if_neg]; · rfl
      unfold bitsOf
      rw [Nat.testBit_lt_two_pow (Nat.lt_of_lt_of_le h (Nat.pow_le_pow_right (n := 2) (by decide) (show n ≤ k by omega)))]
      decide
theorem cnt_zero (n : Nat) : cntL (bitsOf 0) n = 0 := by
  induction n with
  | zero => rfl
  | succ n ih => rw [cntL, ih, if_neg (by unfold bitsOf; simp)]
theorem cnt_pos {s : Nat} (h : s < 256) (h0 : 0 < s) : 0 < cntL (bitsOf s) 8 := by have := (low_small s h h0).1; omega
theorem bits_end {s n k : Nat} (h : s < 2 ^ n) (hk : bitsOf s k = true) : k < n := by
  have := bits_le hk
  exact Nat.not_le.1 fun q => by
    have := Nat.pow_le_pow_right (n := 2) (by decide) q
    omega
end Go.Proofs.YtgabchhplmncnaaDoor
namespace Go.Proofs.YtgabchhplmncnaaDoor

/-- rows that may be, with bounded costs -/
def SqBd (n : Nat) (rows : List (List Int)) : Prop := ∀ row ∈ rows, row.length = n ∧ ∀ c ∈ row, 0 ≤ c ∧ c ≤ 100000
theorem SqBd.ok {n : Nat} {rows : List (List Int)} (h : SqBd n rows) : SqOk n rows := fun r hr => ⟨(h r hr).1, fun c hc => ((h r hr).2 c hc).1⟩
theorem SqBd.drop {n : Nat} {rows : List (List Int)} (h : SqBd n rows) (k : Nat) : SqBd n (rows.drop k) := fun r hr => h r (List.mem_of_mem_drop hr)
theorem SqBd.tail {n : Nat} {row : List Int} {rest : List (List Int)} (h : SqBd n (row :: rest)) : SqBd n rest := fun r hr => h r (List.mem_cons_of_mem _ hr)
theorem SqBd.at {n : Nat} {row : List Int} {rest : List (List Int)} (h : SqBd n (row :: rest)) (k : Nat) : 0 ≤ row.getD k 0 ∧ row.getD k 0 ≤ 100000 := by
  rw [List.getD_eq_getElem?_getD]
  cases e : row[k]? with
  | none => exact ⟨Int.le_refl _, by decide⟩
  | some c => exact (h row (List.mem_cons_self ..)).2 c (List.mem_of_getElem? e)
theorem best_le {n : Nat} : ∀ {rows : List (List Int)} {left : Nat → Bool}, SqBd n rows → rows.length ≤ cntL left n → 0 ≤ bestS rows left ∧ bestS rows left ≤ 100000 * rows.length
  | [], _, _, _ => ⟨Int.le_refl _, Int.le_refl _⟩
  | row :: rest, left, h, hc => by
    obtain ⟨j, _, _, q3, q4, _⟩ := best_step h.ok (by simpa using hc)
    have h1 := h.at j
    have h2 := best_le (left := delC left j) h.tail q4
    rw [q3, List.length_cons]
    omega
theorem cnt_le (left : Nat → Bool) : ∀ n, cntL left n ≤ n
  | 0 => Nat.le_refl _
  | n + 1 => by have := cnt_le left n; rw [cntL]; split <;> omega
/-- how many columns a set has -/
def cntN (s : Nat) : Nat := cntL (bitsOf s) 8
/-- the least cost of a set of columns for the last rows -/
def bestN (rows : List (List Int)) (s : Nat) : Int := bestS (rows.drop (rows.length - cntN s)) (bitsOf s)
theorem cntN_le {s n : Nat} (h : s < 2 ^ n) (hn : n ≤ 8) : cntN s ≤ n := by
  unfold cntN
  rw [cnt_beyond h 8 hn]
  exact cnt_le _ _
theorem cntN_zero : cntN 0 = 0 := cnt_zero 8
theorem cntN_full {n : Nat} (hn : n ≤ 8) : cntN (2 ^ n - 1) = n := by
  unfold cntN
  rw [cnt_beyond (n := n) (by have := Nat.two_pow_pos n; omega) 8 hn, cnt_full n n (Nat.le_refl _)]
theorem pow_small {s n : Nat} (h : s < 2 ^ n) (hn : n ≤ 8) : s < 256 := Nat.lt_of_lt_of_le h (Nat.pow_le_pow_right (n := 2) (by decide) hn)
theorem cntN_pos {s : Nat} (h : s < 256) (h0 : 0 < s) : 0 < cntN s := cnt_pos h h0
theorem cntN_low {s : Nat} (h : s < 256) (h0 : 0 < s) : cntN (s &&& (s - 1)) + 1 = cntN s ∧ s &&& (s - 1) < s := low_small s h h0
theorem cntN_del {s k : Nat} (h : s < 256) (hk : k < 8) (hb : bitsOf s k = true) : cntN (s - 2 ^ k) + 1 = cntN s ∧ 2 ^ k ≤ s := by
  unfold cntN
  rw [bits_del h hk hb]
  exact ⟨cnt_del (bitsOf s) hb 8 hk, bits_le hb⟩
theorem bestN_zero (rows : List (List Int)) : bestN rows 0 = 0 := by
  unfold bestN
  rw [cntN_zero, Nat.sub_zero, List.drop_length]; rfl
/-- a set with a column less: what the rows behind cost -/
theorem bestN_del {rows : List (List Int)} {s k r : Nat} (h : s < 256) (hk : k < 8) (hb : bitsOf s k = true) (hr : r + cntN s = rows.length) : bestN rows (s - 2 ^ k) = bestS (rows.drop (r + 1)) (delC (bitsOf s) k) := by
  have := (cntN_del h hk hb).1
  unfold bestN
  rw [bits_del h hk hb, show rows.length - cntN (s - 2 ^ k) = r + 1 by omega]
/-- and what they cost at most -/
theorem bestN_bd {rows : List (List Int)} {s : Nat} (hq : SqBd rows.length rows) (hn : rows.length ≤ 8) (h : s < 2 ^ rows.length) : 0 ≤ bestN rows s ∧ bestN rows s ≤ 800000 := by
  have hc := cntN_le h hn
  have := best_le (left := bitsOf s) (hq.drop (rows.length - cntN s)) (by rw [List.length_drop]; unfold cntN at *; rw [cnt_beyond h 8 hn] at hc ⊢; omega)
  unfold bestN
  rw [List.length_drop] at this
  omega
theorem bestN_step {rows : List (List Int)} {row : List Int} {s r : Nat} (hr : r + cntN s = rows.length) (hx : rows[r]? = some row) : bestN rows s = minGo (fun k => row.getD k 0 + bestS (rows.drop (r + 1)) (delC (bitsOf s) k)) (bitsOf s) row.length := by
  unfold bestN
  rw [show rows.length - cntN s = r by omega]
  obtain ⟨hk, e⟩ := List.getElem?_eq_some_iff.1 hx
  rw [List.drop_eq_getElem_cons hk, e, bestS]
/-! ### the numbers' bits -/
theorem tb_and : ∀ s, s < 256 → ∀ k, k < 8 → (s / 2 ^ k) % 2 = (if s.testBit k = true then 1 else 0) := by decide +kernel
end Go.Proofs.YtgabchhplmncnaaDoor
namespace Go.Proofs.YtgabchhplmncnaaDoor

/-- from column i on: each row's own is left and costs nothing -/
def Diag (n : Nat) : Nat → List (List Int) → Prop
  | i, [] => i = n
  | i, row :: rest => i < n ∧ row.getD i 0 = 0 ∧ Diag n (i + 1) rest
theorem best_diag {n : Nat} : ∀ {rows : List (List Int)} {i : Nat} {left : Nat → Bool}, SqOk n rows → Diag n i rows → rows.length ≤ cntL left n → (∀ k, k < n → i ≤ k → left k = true) → bestS rows left = 0
  | [], _, _, _, _, _, _ => rfl
  | row :: rest, i, left, hs, hd, hc, hl => by
    obtain ⟨hi, h0, hd⟩ := hd
    have hli := hl i hi (Nat.le_refl _)
    have hcd := cnt_del left hli n hi
    simp only [List.length_cons] at hc
    obtain ⟨j, _, _, _, _, h5, _⟩ := best_step hs hc
    have h1 := h5 i hi hli
    have h2 := best_diag (left := delC left i) (sq_tail hs) hd (by omega) (fun k hk hik => by
      unfold delC
      rw [hl k hk (by omega)]; simp; omega)
    have h3 := best_pos hs (by simpa using hc)
    rw [h0, h2] at h1
    omega
theorem choose_diag {n : Nat} : ∀ {rows : List (List Int)} {i : Nat} {left : Nat → Bool}, SqOk n rows → Diag n i rows → rows.length ≤ cntL left n → (∀ k, k < n → (left k = true ↔ i ≤ k)) →
    chooseS rows left = (List.range' i rows.length).map fun (k : Nat) => (k : Int)
  | [], _, _, _, _, _, _ => rfl
  | row :: rest, i, left, hs, hd, hc, hl => by
    have hd0 := hd
    obtain ⟨hi, h0, hd⟩ := hd
    have hli := (hl i hi).2 (Nat.le_refl _)
    have hcd := cnt_del left hli n hi
    have hlen : row.length = n := (hs row (List.mem_cons_self ..)).1
    have hb := best_diag hs hd0 hc fun k hk q => (hl k hk).2 q
    simp only [List.length_cons] at hc
    have hl2 : ∀ k, k < n → (delC left i k = true ↔ i + 1 ≤ k) := fun k hk => by
      have := hl k hk
      unfold delC
      simp only [Bool.and_eq_true, bne_iff_ne, ne_eq, this]
      omega
    have hr := best_diag (left := delC left i) (sq_tail hs) hd (by omega) fun k hk q => (hl2 k hk).2 q
    have hf : (List.range row.length).find? (fun k => left k && row.getD k 0 + bestS rest (delC left k) == bestS (row :: rest) left) = some i := by
      rw [List.find?_range_eq_some]
      refine ⟨by rw [hli, h0, hr, hb]; rfl, List.mem_range.2 (by omega), fun j hj => ?_⟩
      have : left j = false := by
        cases e : left j with
        | false => rfl
        | true => exact absurd ((hl j (by omega)).1 e) (by omega)
      rw [this]; rfl
    rw [chooseS, hf]
    simp only
    rw [choose_diag (sq_tail hs) hd (by omega) hl2, List.length_cons, List.range'_succ, List.map_cons]
end Go.Proofs.YtgabchhplmncnaaDoor
namespace Go.Proofs.YtgabchhplmncnaaDoor

def toB (x : List UInt8) : ByteArray := ⟨x.toArray⟩
theorem toB_data (x : List UInt8) : (toB x).data.toList = x := by simp [toB]
theorem toB_of (s : ByteArray) : toB s.data.toList = s := by cases s; simp [toB]
theorem toB_inj {x y : List UInt8} (h : toB x = toB y) : x = y := by rw [← toB_data x, ← toB_data y, h]
theorem toB_append (x y : List UInt8) : toB (x ++ y) = toB x ++ toB y := by
  apply ByteArray.ext
  simp [toB, ByteArray.data_append]
theorem bytes_append (s t : ByteArray) : (s ++ t).data.toList = s.data.toList ++ t.data.toList := by simp [ByteArray.data_append]

theorem map_toB : ∀ l : List ByteArray, l.map (toB ∘ fun x => x.data.toList) = l
  | [] => rfl
  | x :: l => by rw [List.map_cons, map_toB l]; rfl
/-- what stands between separators -/
def parts (d : UInt8) : List UInt8 → List (List UInt8)
  | [] => [[]]
  | c :: r => if c = d then [] :: parts d r else (c :: (parts d r).headD []) :: (parts d r).tail
theorem parts_ne (d : UInt8) : ∀ s, parts d s ≠ []
  | [] => by simp [parts]
  | c :: r => by rw [parts]; split <;> simp
theorem parts_sep (d : UInt8) (r : List UInt8) : parts d (d :: r) = [] :: parts d r := by rw [parts, if_pos rfl]
theorem parts_other {d c : UInt8} (h : c ≠ d) {r h' : List UInt8} {t : List (List UInt8)} (e : parts d r = h' :: t) : parts d (c :: r) = (c :: h') :: t := by
  rw [parts, if_neg h, e]; rfl
theorem parts_cut {d : UInt8} : ∀ {a : List UInt8} (r : List UInt8), (∀ x ∈ a, x ≠ d) → parts d (a ++ d :: r) = a :: parts d r
  | [], r, _ => parts_sep d r
  | c :: _a, r, h => parts_other (h c (List.mem_cons_self ..)) (parts_cut r (fun x hx => h x (List.mem_cons_of_mem _ hx)))
theorem parts_none {d : UInt8} : ∀ {a : List UInt8}, (∀ x ∈ a, x ≠ d) → parts d a = [a]
  | [], _ => rfl
  | c :: _a, h => parts_other (h c (List.mem_cons_self ..)) (parts_none (fun x hx => h x (List.mem_cons_of_mem _ hx)))
theorem parts_snoc (d : UInt8) : ∀ s, parts d (s ++ [d]) = parts d s ++ [[]]
  | [] => by rw [List.nil_append, parts_sep]; rfl
  | c :: r => by
    by_cases h : c = d
    · subst h
      rw [List.cons_append, parts_sep, parts_sep, parts_snoc, List.cons_append]
    · obtain ⟨h', t, e⟩ := List.exists_cons_of_ne_nil (parts_ne d r)
      rw [List.cons_append, parts_other h e, parts_other (h' := h') (t := t ++ [[]]) h (by rw [parts_snoc, e]; rfl), List.cons_append]
theorem parts_last {d : UInt8} {c : UInt8} (hc : c ≠ d) : ∀ s, (parts d (s ++ [c])).getLast? ≠ some []
  | [] => by rw [List.nil_append, parts_none (by simpa using hc)]; simp
  | x :: r => by
    obtain ⟨h', t, e⟩ := List.exists_cons_of_ne_nil (parts_ne d (r ++ [c]))
    have ih := parts_last hc r
    by_cases h : x = d
    · subst h
      rw [List.cons_append, parts_sep, e, List.getLast?_cons_cons, ← e]
      exact ih
    · rw [List.cons_append, parts_other h e]
      rw [e] at ih
      cases t with
      | nil => simp
      | cons y t => rw [List.getLast?_cons_cons] at ih ⊢; exact ih
theorem parts_flat (d : UInt8) : ∀ s, ((parts d s).dropLast.map fun x => x ++ [d]).flatten ++ ((parts d s).getLast?.getD []) = s
  | [] => by simp [parts]
  | c :: r => by
    obtain ⟨h', t, e⟩ := List.exists_cons_of_ne_nil (parts_ne d r)
    have ih := parts_flat d r
    rw [e] at ih
    by_cases h : c = d
    · subst h
      rw [parts_sep, e, List.dropLast_cons_of_ne_nil (by simp), List.getLast?_cons_cons]
      simp only [List.map_cons, List.flatten_cons, List.nil_append, List.cons_append]
      rw [ih]
    · rw [parts_other h e]
      cases t with
      | nil =>
        simp only [List.dropLast_singleton, List.map_nil, List.flatten_nil, List.nil_append, List.getLast?_singleton, Option.getD_some] at ih ⊢
        rw [ih]
      | cons y t =>
        simp only [List.dropLast_cons_of_ne_nil (l := y :: t) (by simp), List.getLast?_cons_cons, List.map_cons, List.flatten_cons, List.cons_append] at ih ⊢
        rw [ih]
theorem split_parts (d : UInt8) : ∀ s, Lib.split s [d] = parts d s
  | [] => by
    have : Lib.index [] [d] = -1 := rfl
    unfold Lib.split
    rw [Lib.count_miss this]; rfl
  | c :: r => by
    have ih := split_parts d r
    by_cases h : c = d
    · subst h
      have e : Lib.index (c :: r) [c] = (0 : Nat) := by rw [Lib.index_one]; simp [Lib.indexByte]
      unfold Lib.split at ih ⊢
      rw [Lib.count_hit (by simp) e, parts_sep, Nat.add_comm, Lib.splitK, if_neg (by rw [e]; decide), e]
      simp only [Int.toNat_natCast, Nat.zero_add, List.take_zero, List.length_cons, List.length_nil, List.drop_succ_cons, List.drop_zero]
      rw [ih]
    · have e : Lib.index (c :: r) [d] = if Lib.index r [d] == -1 then -1 else Lib.index r [d] + 1 := by
        rw [Lib.index_one, Lib.index_one, Lib.indexByte, if_neg (by simpa using h)]
      by_cases hm : Lib.index r [d] = -1
      · have e2 : Lib.index (c :: r) [d] = -1 := by rw [e, hm]; rfl
        unfold Lib.split at ih ⊢
        rw [Lib.count_miss hm] at ih
        rw [Lib.count_miss e2]
        exact (parts_other h ih.symm).symm
      · have hge := Lib.index_ge r [d]
        obtain ⟨i, hi⟩ : ∃ i : Nat, Lib.index r [d] = i := ⟨(Lib.index r [d]).toNat, by omega⟩
        have e2 : Lib.index (c :: r) [d] = ((i + 1 : Nat) : Int) := by
          rw [e, if_neg (by simpa using hm), hi]; rfl
        unfold Lib.split at ih ⊢
        rw [Lib.count_hit (by simp) hi, Nat.add_comm, Lib.splitK, if_neg (by rw [hi]; simp), hi] at ih
        rw [Lib.count_hit (by simp) e2, Nat.add_comm, Lib.splitK, if_neg (by rw [e2]; intro hh; have := eq_of_beq hh; omega), e2]
        simp only [Int.toNat_natCast, List.length_cons, List.length_nil] at ih ⊢
        rw [parts_other h ih.symm]
        rfl
theorem splitB_parts (d : UInt8) (s : ByteArray) : Lib.splitB ⟨#[d]⟩ 0 (Lib.countB s ⟨#[d]⟩) s = (parts d s.data.toList).map toB := by
  have e := Lib.splitB_data ⟨#[d]⟩ 0 (Lib.countB s ⟨#[d]⟩) s
  have e2 : Lib.splitK [d] 0 (Lib.countB s ⟨#[d]⟩) s.data.toList = parts d s.data.toList := split_parts d _
  have e3 : ((Lib.splitB ⟨#[d]⟩ 0 (Lib.countB s ⟨#[d]⟩) s).map (·.data.toList)).map toB = Lib.splitB ⟨#[d]⟩ 0 (Lib.countB s ⟨#[d]⟩) s := by
    rw [List.map_map]
    exact map_toB _
  rw [← e3, e]
  congr 1

/-! ### texts -/
def joinL (l : List ByteArray) : List UInt8 := (l.map fun x => x.data.toList ++ [10]).flatten
def joinOf (l : List ByteArray) : ByteArray := toB (joinL l)
def joinR (l : List ByteArray) : ByteArray := if linesFault l = 0 then joinOf l else ByteArray.empty
def linesOf (s : ByteArray) : List ByteArray := (parts 10 s.data.toList).dropLast.map toB
def splitFault (s : ByteArray) : Int := if (parts 10 s.data.toList).getLast? = some [] then linesFault (linesOf s) else 5
def splitR (s : ByteArray) : List ByteArray := if splitFault s = 0 then linesOf s else []

theorem hasNl_not {s : ByteArray} (h : hasNl s = false) : ∀ x ∈ s.data.toList, x ≠ 10 := by
  intro x hx e
  subst e
  unfold hasNl at h
  rw [List.contains_eq_mem, decide_eq_false_iff_not] at h
  exact h hx
theorem joinL_nil : joinL [] = [] := rfl
theorem joinL_cons (x : ByteArray) (l : List ByteArray) : joinL (x :: l) = x.data.toList ++ 10 :: joinL l := by simp [joinL]
theorem joinL_append (l m : List ByteArray) : joinL (l ++ m) = joinL l ++ joinL m := by simp [joinL]
theorem parts_join : ∀ l : List ByteArray, (∀ x ∈ l, hasNl x = false) → parts 10 (joinL l) = l.map (·.data.toList) ++ [[]]
  | [], _ => rfl
  | x :: l, h => by
    rw [joinL_cons, parts_cut _ (hasNl_not (h x (List.mem_cons_self ..))), parts_join l (fun y hy => h y (List.mem_cons_of_mem _ hy))]
    rfl
theorem linesOf_join {l : List ByteArray} (h : ∀ x ∈ l, hasNl x = false) : linesOf (joinOf l) = l := by
  unfold linesOf joinOf
  rw [toB_data, parts_join l h, List.dropLast_concat, List.map_map]
  exact map_toB l
theorem lineFault_nl {x : ByteArray} (h : lineFault x = 0) : hasNl x = false := by
  unfold lineFault at h
  by_cases e : hasNl x = true
  · rw [if_pos e] at h; cases h
  · simpa using e
theorem split_join {l : List ByteArray} (h : linesFault l = 0) : splitFault (joinOf l) = 0 ∧ splitR (joinOf l) = l := by
  have hl : ∀ x ∈ l, hasNl x = false := by
    unfold linesFault at h
    by_cases e : 60 < l.length
    · rw [if_pos e] at h; cases h
    · rw [if_neg e, firstOf_zero] at h
      exact fun x hx => lineFault_nl (h x hx)
  have e1 : splitFault (joinOf l) = 0 := by
    unfold splitFault
    rw [if_pos (by unfold joinOf; rw [toB_data, parts_join l hl]; simp), linesOf_join hl]
    exact h
  exact ⟨e1, by unfold splitR; rw [if_pos e1, linesOf_join hl]⟩
theorem join_lines {s : ByteArray} (h : (parts 10 s.data.toList).getLast? = some []) : joinOf (linesOf s) = s := by
  unfold joinOf joinL linesOf
  have := parts_flat 10 s.data.toList
  rw [h] at this
  simp only [Option.getD_some, List.append_nil] at this
  rw [List.map_map]
  have e : ((fun x : ByteArray => x.data.toList ++ [10]) ∘ toB) = fun x => x ++ [10] := by
    funext x
    simp [toB_data]
  rw [e, this, toB_of]
theorem join_split {s : ByteArray} (h : splitFault s = 0) : linesFault (splitR s) = 0 ∧ joinOf (splitR s) = s := by
  have h' := h
  unfold splitFault at h'
  by_cases e : (parts 10 s.data.toList).getLast? = some []
  · rw [if_pos e] at h'
    unfold splitR
    rw [if_pos h]
    exact ⟨h', join_lines e⟩
  · rw [if_neg e] at h'; cases h'
theorem splitFault_empty : splitFault ByteArray.empty = 0 := by decide
theorem splitR_empty : splitR ByteArray.empty = [] := by decide

/-! ### paths -/
def letterB (c : UInt8) : Bool := decide (97 ≤ c.toNat) && decide (c.toNat ≤ 122) || decide (48 ≤ c.toNat) && decide (c.toNat ≤ 57) || decide (c.toNat = 46) || decide (c.toNat = 45)
def nameOk (x : List UInt8) : Bool := !(x == []) && !(x == [46]) && !(x == [46, 46]) && x.all letterB
def pathFault (s : ByteArray) : Int := if 20 < s.size then 3 else if (parts 47 s.data.toList).all nameOk then 0 else 5
end Go.Proofs.YtgabchhplmncnaaDoor
