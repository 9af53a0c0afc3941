/-
  PARTS: GENERAL LAWS ON WORLDS AND DATA: which blocks a call may have changed ('Chg'), and what a row of cells reads as ('Dat'). No program in sight.; WHAT THE FUNCTIONS OF THE LAYERS 1 TO 4 COMPUTE, in plain Lean: lines, scripts, hunks. No program in sight.; WHAT A ROW OF CELLS READS AS: 'Dat', for the types of this program. No program in sight.; FROM A LAW's WALK TO ITS STATEMENT: how the arguments read ('Opens'), and what is to be said behind the call ('post_law').; THE WALKS OF LAYER 1: One, Check, Texts.; errors.As AT AN Errno, and plain.Told: of nil OK, of an Errno it.; WHAT ALL CARDS OF A DOOR SEAT WANT: the listed variable's cell, a world that meets the condition.; WHAT THE CARDS WANT WHERE utf8's TABLES ARE LISTED: the variables' cells, a world that meets the condition.; THE PACKAGE VARIABLES that strconv and strings read, as the walks want them.; WHAT THE CARDS WANT WHERE strconv's TABLES AND ERRORS ARE LISTED: the variables' cells, a world that meets the condition.; THE ERRORS' CELLS OF strconv AT A CALL.; WHAT THE CARDS WANT WHERE strconv's TABLES AND ERRORS AND errors.errorType ARE LISTED.; WHAT THE CARDS WANT WHERE strconv's TABLES AND errors.errorType ARE LISTED (no strconv errors).; HOW ARGUMENTS READ: files, changes, and a struct that is an argument by itself.; WHICH IS WHICH, in plain Lean: what the program chooses is what the document chooses, and none is cheaper. Rows of costs; `left`: which columns are left.; COLUMNS LEFT AS BITS of a small number.; THE LEAST COSTS BY SETS OF COLUMNS, in plain Lean: bounds; how a set's is come by.; OF ITSELF EACH IS ITSELF, in plain Lean (RangeSelf): costs that are 0 from corner to corner.; TEXTS AS LINES, PATHS, in plain Lean (chapter 1).; HUNKS AS TEXTS, in plain Lean (chapter 5): numbers, spans, heads; lines written and read.; HUNKS AS TEXTS, in plain Lean (chapter 5): the reader, line by line; what is printed is read, what is read is printed so.; HUNKS AS TEXTS, in plain Lean (chapter 5): whole texts. What is printed is read; what is read is printed so; cut off within the last line it is none.; PATCHES AS TEXTS, in plain Lean (chapter 8): lines written and read.
-/
import Derived.WalkKit
import Derived.Deep.Draws
import GoSem.Core.Value
import Derived.Test.YtgabchhplmncnaaGreatDoorRows
import Derived.ProofKit
import Derived.OpenShut
import Derived.JoinedCond
import Derived.Deep.Slices
import Derived.Deep.Strs
import Derived.Test.YtgabchhplmncnaaGreatDoorShelf
import Derived.WalkLawsBesides
import Derived.WalkSpells
import Derived.Deep.QuietTactic
import Derived.BigQuiet
import Derived.Lib.Hide
import Derived.Stop.Asserts
import Derived.RowKitTokens
import Derived.LaidEql
import Derived.Test.YtgabchhplmncnaaGreatDoorCards
import Derived.Test.YtgabchhplmncnaaGreatDoorTie
import Derived.Deep.DeepHandedRow
import Derived.LaidLaws
import Derived.LaidHandle
import Derived.ChangeMaps5
import Derived.Lib.AppendIntMem
import Derived.Lib.LaidTab
import Derived.LaidSub
import Derived.ChangeSame
import Init
import Derived.Lib.Split
import Derived.Lib.ItoaNum
import Derived.Lib.AtoiTie
namespace Go.Proofs.YtgabchhplmncnaaGreatDoor
open Go.RowKit

/-- From w to w' only blocks of O have changed, and new ones have come. -/
structure Chg (O : Nat → Prop) (w w' : World) : Prop where
  os : w'.os = w.os
  tape : w'.tape = w.tape
  output : w'.output = w.output
  size : w.heap.size ≤ w'.heap.size
  block : ∀ k, k < w.heap.size → ¬ O k → w'.heap[k]? = w.heap[k]?

/-- no block -/
def Never : Nat → Prop := fun _ => False
/-- the blocks from B on -/
def From (B : Nat) : Nat → Prop := fun k => B ≤ k
/-- the blocks below B -/
def Old (B : Nat) : Nat → Prop := fun k => k < B
/-- the block of a slice value -/
def OwnB (v : Value) : Nat → Prop := fun k => v.ownBlock = some k

theorem Chg.refl (O : Nat → Prop) (w : World) : Chg O w w := ⟨rfl, rfl, rfl, Nat.le_refl _, fun _ _ _ => rfl⟩
theorem Chg.trans {O : Nat → Prop} {a b c : World} (h : Chg O a b) (k : Chg O b c) : Chg O a c :=
  ⟨k.os.trans h.os, k.tape.trans h.tape, k.output.trans h.output, Nat.le_trans h.size k.size,
    fun i hi ho => (k.block i (Nat.lt_of_lt_of_le hi h.size) ho).trans (h.block i hi ho)⟩
theorem Chg.mono {O O' : Nat → Prop} {w w' : World} (h : Chg O w w') (hO : ∀ k, k < w.heap.size → O k → O' k) : Chg O' w w' :=
  ⟨h.os, h.tape, h.output, h.size, fun k hk hn => h.block k hk (fun ho => hn (hO k hk ho))⟩
/-- a second step may change what is new since the first world -/
theorem Chg.trans' {O O' : Nat → Prop} {a b c : World} (h : Chg O a b) (k : Chg O' b c) (hO : ∀ i, i < a.heap.size → O' i → O i) : Chg O a c :=
  ⟨k.os.trans h.os, k.tape.trans h.tape, k.output.trans h.output, Nat.le_trans h.size k.size,
    fun i hi ho => (k.block i (Nat.lt_of_lt_of_le hi h.size) (fun hx => ho (hO i hi hx))).trans (h.block i hi ho)⟩
theorem Chg.drew {O : Nat → Prop} {a w : World} (h : Chg O a w) : Chg O a w.drew := ⟨h.os, h.tape, h.output, h.size, h.block⟩
theorem Chg.drewN {O : Nat → Prop} {a w : World} (h : Chg O a w) (n : Nat) : Chg O a (w.drewN n) := ⟨h.os, h.tape, h.output, h.size, h.block⟩
theorem Chg.alloc {O : Nat → Prop} {a w : World} (h : Chg O a w) (o : Obj) : Chg O a (w.alloc o) :=
  ⟨h.os, h.tape, h.output, Nat.le_trans h.size (by simp), fun k hk hn => by rw [Below.heap_alloc _ _ _ (Nat.lt_of_lt_of_le hk h.size)]; exact h.block k hk hn⟩
theorem Chg.setCell {O : Nat → Prop} {a w : World} (h : Chg O a w) {p : Addr} (hp : a.heap.size ≤ p.block ∨ O p.block) (u : Value) : Chg O a (w.setCell p u) :=
  ⟨h.os, h.tape, h.output, by simpa [World.setCell] using h.size, fun k hk hn => by
    rw [Below.heap_setCell _ _ _ _ (by rintro rfl; rcases hp with hp | hp; · omega
                                       · exact hn hp)]
    exact h.block k hk hn⟩
theorem Chg.of_grown {w w' : World} {row : Option Nat} (h : w.grownBy w' row) : Chg (fun k => row = some k) w w' :=
  ⟨h.os, h.tape, h.output, h.size, fun k hk hn => h.block k hk (fun e => hn e.symm)⟩
theorem Chg.of_below {w w' : World} (h : Below w.heap.size w w') : Chg Never w w' :=
  ⟨h.os, h.tape, h.output, h.size, fun k hk _ => h.block k hk⟩
theorem Chg.never {w w' : World} (h : Chg Never w w') : Below w.heap.size w w' :=
  ⟨h.os, h.tape, h.output, h.size, fun k hk => h.block k hk (fun x => x)⟩
theorem Chg.cell {O : Nat → Prop} {w w' : World} (h : Chg O w w') {p : Addr} {v : Value} (hc : w.cell? p = some v) (hp : ¬ O p.block) : w'.cell? p = some v := by
  have hlt := World.block_lt_of_cell? w p hc
  rw [← hc]; exact World.cell?_of_block (h.block _ hlt hp)
theorem Chg.cellNever {w w' : World} (h : Chg Never w w') {p : Addr} {v : Value} (hc : w.cell? p = some v) : w'.cell? p = some v := h.cell hc (fun x => x)
theorem Chg.frozen {O : Nat → Prop} {w w' : World} (h : Chg O w w') {p : Addr} (hlt : p.block < w.heap.size) (hp : ¬ O p.block) : w'.frozen? p = w.frozen? p :=
  World.frozen?_of_block (h.block _ hlt hp)
end Go.Proofs.YtgabchhplmncnaaGreatDoor
namespace Go.Proofs.YtgabchhplmncnaaGreatDoor

structure Mark where
  sign : Int
  text : ByteArray
  deriving DecidableEq
structure Hunk where
  old : Int
  new : Int
  marks : List Mark
  deriving DecidableEq
structure File where
  path : ByteArray
  lines : List ByteArray
  deriving DecidableEq
structure Change where
  what : Int
  path : ByteArray
  hunks : List Hunk
  deriving DecidableEq
structure Mail where
  sender : ByteArray
  subject : ByteArray
  ident : ByteArray
  body : List UInt8
  deriving DecidableEq

/-- the first of some faults that is one (0 is none) -/
def firstOf {α : Type} (f : α → Int) : List α → Int
  | [] => 0
  | x :: r => if f x = 0 then firstOf f r else f x

theorem firstOf_zero {α : Type} (f : α → Int) : ∀ l : List α, firstOf f l = 0 ↔ ∀ x ∈ l, f x = 0
  | [] => by simp [firstOf]
  | x :: r => by
    simp only [firstOf, List.mem_cons, forall_eq_or_imp]
    by_cases h : f x = 0
    · simp [h, firstOf_zero f r]
    · simp [h]

def hasNl (s : ByteArray) : Bool := s.data.toList.contains 10
def lineFault (s : ByteArray) : Int := if hasNl s then 2 else if 80 < s.size then 3 else 0
def markFault (m : Mark) : Int := if m.sign ≠ 32 ∧ m.sign ≠ 45 ∧ m.sign ≠ 43 then 1 else lineFault m.text
def scriptFault (s : List Mark) : Int := if 120 < s.length then 3 else firstOf markFault s

/-- the lines of a script that have not a sign -/
def those (s : List Mark) (no : Int) : List ByteArray := (s.filter fun m => m.sign ≠ no).map (·.text)
def changes (s : List Mark) : Nat := (s.filter fun m => m.sign ≠ 32).length

/-- how far it is from lines to lines -/
def far : List ByteArray → List ByteArray → Nat
  | [], b => b.length
  | x :: a, [] => (x :: a).length
  | x :: a, y :: b => if x = y then far a b else 1 + min (far a (y :: b)) (far (x :: a) b)
termination_by a b => a.length + b.length

/-- the script of the fewest: keep, take, put -/
def script : List ByteArray → List ByteArray → List Mark
  | [], [] => []
  | x :: a, [] => ⟨45, x⟩ :: script a []
  | [], y :: b => ⟨43, y⟩ :: script [] b
  | x :: a, y :: b =>
    if x = y then ⟨32, x⟩ :: script a b
    else if far a (y :: b) + 1 = far (x :: a) (y :: b) then ⟨45, x⟩ :: script a (y :: b)
    else ⟨43, y⟩ :: script (x :: a) b
termination_by a b => a.length + b.length

/-! ### hunks -/
def oldN (s : List Mark) : Nat := (those s 43).length
def newN (s : List Mark) : Nat := (those s 45).length
def hasChange (s : List Mark) : Bool := s.any fun m => m.sign ≠ 32
/-- a hunk behind others that end at a line and put so many more -/
def oneFault (h : Hunk) (fin more : Int) : Int :=
  if scriptFault h.marks ≠ 0 then scriptFault h.marks
  else if hasChange h.marks = false then 4
  else if h.old < 0 ∨ 60 < h.old ∨ h.new < 0 ∨ 60 < h.new ∨ 60 < h.old + oldN h.marks ∨ 60 < h.new + newN h.marks then 1
  else if h.old < fin ∨ h.new ≠ h.old + more then 2
  else 0
/-- from a number on: the number of the first that is wrong, and how -/
def hunksGo : Nat → Int → Int → List Hunk → Nat × Int
  | _, _, _, [] => (0, 0)
  | i, fin, more, h :: r => if oneFault h fin more = 0 then hunksGo (i + 1) (h.old + oldN h.marks) (more + newN h.marks - oldN h.marks) r else (i, oneFault h fin more)
def hunksFault (l : List Hunk) : Nat × Int := if 60 < l.length then (0, 3) else hunksGo 0 0 0 l
end Go.Proofs.YtgabchhplmncnaaGreatDoor
namespace Go.Proofs.YtgabchhplmncnaaGreatDoor
open Go.RowKit

/-- 'rd w O cs x': the cells cs read as x in the world w, by way of no block of O. -/
class Dat (α : Type) where
  n : Nat
  rd : World → (Nat → Prop) → List Value → α → Prop
  bulk : α → Nat
  pos : 0 < n
  len : ∀ {w O cs x}, rd w O cs x → cs.length = n
  one : ∀ {w O cs x}, rd w O cs x → ∀ u ∈ cs, u.oneCell' = true
  keep : ∀ {w w' : World} {O O' O'' : Nat → Prop} {cs x}, rd w O cs x → Chg O' w w' → (∀ k, k < w.heap.size → O' k → O k) → (∀ k, k < w.heap.size → O'' k → O k) → rd w' O'' cs x

/-- what a value (of a slot) reads as -/
def Rdv {α : Type} [Dat α] (w : World) (O : Nat → Prop) (v : Value) (x : α) : Prop := Dat.rd w O [v] x

theorem Dat.never {α : Type} [Dat α] {w w' : World} {O : Nat → Prop} {cs : List Value} {x : α} (h : Dat.rd w O cs x) (hc : Chg Never w w') : Dat.rd w' O cs x :=
  Dat.keep h hc (fun _ _ h => h.elim) (fun _ _ h => h)
theorem Rdv.never {α : Type} [Dat α] {w w' : World} {O : Nat → Prop} {v : Value} {x : α} (h : Rdv w O v x) (hc : Chg Never w w') : Rdv w' O v x := Dat.never h hc
theorem Rdv.keep {α : Type} [Dat α] {w w' : World} {O O' O'' : Nat → Prop} {v : Value} {x : α} (h : Rdv w O v x) (hc : Chg O' w w') (h1 : ∀ k, k < w.heap.size → O' k → O k) (h2 : ∀ k, k < w.heap.size → O'' k → O k) : Rdv w' O'' v x := Dat.keep h hc h1 h2
theorem Rdv.sub {α : Type} [Dat α] {w : World} {O O' : Nat → Prop} {v : Value} {x : α} (h : Rdv w O v x) (h2 : ∀ k, k < w.heap.size → O' k → O k) : Rdv w O' v x := Dat.keep h (Chg.refl Never w) (fun _ _ h => h.elim) h2

/-- a number of 64 bits -/
def I64 (x : Int) : Prop := -9223372036854775808 ≤ x ∧ x ≤ 9223372036854775807
instance : Dat Int where
  n := 1
  rd _ _ cs x := cs = [.int .i64 x] ∧ I64 x
  bulk _ := 1
  pos := by decide
  len := by rintro _ _ _ _ ⟨rfl, _⟩; rfl
  one := by rintro _ _ _ _ ⟨rfl, _⟩ u hu; simp at hu; subst hu; rfl
  keep := by intro _ _ _ _ _ _ _ h _ _ _; exact h
instance : Dat Bool where
  n := 1
  rd _ _ cs x := cs = [.bool x]
  bulk _ := 1
  pos := by decide
  len := by rintro _ _ _ _ rfl; rfl
  one := by rintro _ _ _ _ rfl u hu; simp at hu; subst hu; rfl
  keep := by intro _ _ _ _ _ _ _ h _ _ _; exact h
instance : Dat UInt8 where
  n := 1
  rd _ _ cs x := cs = [.int .u8 x.toNat]
  bulk _ := 1
  pos := by decide
  len := by rintro _ _ _ _ rfl; rfl
  one := by rintro _ _ _ _ rfl u hu; simp at hu; subst hu; rfl
  keep := by intro _ _ _ _ _ _ _ h _ _ _; exact h
instance : Dat ByteArray where
  n := 1
  rd _ _ cs x := cs = [.string x] ∧ x.size ≤ maxLen
  bulk x := x.size + 1
  pos := by decide
  len := by rintro _ _ _ _ ⟨rfl, _⟩; rfl
  one := by rintro _ _ _ _ ⟨rfl, _⟩ u hu; simp at hu; subst hu; rfl
  keep := by intro _ _ _ _ _ _ _ h _ _ _; exact h
instance : Dat Mark where
  n := 2
  rd _ _ cs m := cs = [.int .u8 m.sign, .string m.text] ∧ 0 ≤ m.sign ∧ m.sign < 256 ∧ m.text.size ≤ maxLen
  bulk m := m.text.size + 3
  pos := by decide
  len := by rintro _ _ _ _ ⟨rfl, _⟩; rfl
  one := by rintro _ _ _ _ ⟨rfl, _⟩ u hu; simp at hu; rcases hu with rfl | rfl <;> rfl
  keep := by intro _ _ _ _ _ _ _ h _ _ _; exact h

/-- the cells of element number i of a row that begins at ⟨b, off⟩ -/
def CellsAt (w : World) (b off : Nat) (es : List Value) : Prop := ∀ (j : Nat) (u : Value), es[j]? = some u → w.cell? ⟨b, off + j, none⟩ = some u

theorem CellsAt.lt {w : World} {b off : Nat} {es : List Value} (h : CellsAt w b off es) (hn : 0 < es.length) : b < w.heap.size :=
  World.block_lt_of_cell? w ⟨b, off + 0, none⟩ (h 0 es[0] (by simp [hn]))
theorem CellsAt.keep {w w' : World} {O : Nat → Prop} {b off : Nat} {es : List Value} (h : CellsAt w b off es) (hc : Chg O w w') (hb : ¬ O b) : CellsAt w' b off es :=
  fun j u hj => hc.cell (p := ⟨b, off + j, none⟩) (h j u hj) hb

/-- a slice's elements -/
def Elems {α : Type} [Dat α] (w : World) (O : Nat → Prop) (a : Option Addr) (l : List α) : Prop :=
  ∀ (i : Nat) (x : α), l[i]? = some x → ∃ b off es, a = some ⟨b, off, none⟩ ∧ ¬ O b ∧ CellsAt w b (off + i * Dat.n α) es ∧ Dat.rd w O es x

theorem Elems.keep {α : Type} [Dat α] {w w' : World} {O O' O'' : Nat → Prop} {a : Option Addr} {l : List α} (h : Elems w O a l) (hc : Chg O' w w') (h1 : ∀ k, k < w.heap.size → O' k → O k) (h2 : ∀ k, k < w.heap.size → O'' k → O k) : Elems w' O'' a l := by
  intro i x hx
  obtain ⟨b, off, es, ha, hb, hcs, hr⟩ := h i x hx
  have hlt := hcs.lt (by rw [Dat.len hr]; exact Dat.pos (α := α))
  exact ⟨b, off, es, ha, fun hb' => hb (h2 b hlt hb'), hcs.keep hc (fun hb' => hb (h1 b hlt hb')), Dat.keep hr hc h1 h2⟩

instance {α : Type} [Dat α] : Dat (List α) where
  n := 1
  rd w O cs l := ∃ a cap, cs = [.slice a l.length cap] ∧ l.length ≤ cap ∧ cap ≤ maxLen ∧ Elems w O a l
  bulk l := (l.map Dat.bulk).sum + 1
  pos := by decide
  len := by rintro _ _ _ _ ⟨a, cap, rfl, _⟩; rfl
  one := by rintro _ _ _ _ ⟨a, cap, rfl, _⟩ u hu; simp at hu; subst hu; rfl
  keep := by
    rintro w w' O O' O'' cs l ⟨a, cap, rfl, h1, h2, h3⟩ hc k1 k2
    exact ⟨a, cap, rfl, h1, h2, h3.keep hc k1 k2⟩

instance : Dat Hunk where
  n := 3
  rd w O cs h := ∃ v, cs = [.int .i64 h.old, .int .i64 h.new, v] ∧ Dat.rd w O [v] h.marks
  bulk h := Dat.bulk h.marks + 3
  pos := by decide
  len := by rintro _ _ _ _ ⟨v, rfl, _⟩; rfl
  one := by
    rintro _ _ _ _ ⟨v, rfl, hv⟩ u hu
    simp only [List.mem_cons, List.not_mem_nil, or_false] at hu
    rcases hu with rfl | rfl | rfl
    · rfl
    · rfl
    · exact Dat.one hv _ (by simp)
  keep := by
    rintro w w' O O' O'' cs l ⟨v, rfl, h⟩ hc k1 k2
    exact ⟨v, rfl, Dat.keep h hc k1 k2⟩
instance : Dat File where
  n := 2
  rd w O cs h := ∃ v, cs = [.string h.path, v] ∧ h.path.size ≤ maxLen ∧ Dat.rd w O [v] h.lines
  bulk h := h.path.size + Dat.bulk h.lines + 2
  pos := by decide
  len := by rintro _ _ _ _ ⟨v, rfl, _⟩; rfl
  one := by
    rintro _ _ _ _ ⟨v, rfl, _, hv⟩ u hu
    simp only [List.mem_cons, List.not_mem_nil, or_false] at hu
    rcases hu with rfl | rfl
    · rfl
    · exact Dat.one hv _ (by simp)
  keep := by
    rintro w w' O O' O'' cs l ⟨v, rfl, hp, h⟩ hc k1 k2
    exact ⟨v, rfl, hp, Dat.keep h hc k1 k2⟩
instance : Dat Change where
  n := 3
  rd w O cs h := ∃ v, cs = [.int .i64 h.what, .string h.path, v] ∧ h.path.size ≤ maxLen ∧ Dat.rd w O [v] h.hunks
  bulk h := h.path.size + Dat.bulk h.hunks + 3
  pos := by decide
  len := by rintro _ _ _ _ ⟨v, rfl, _⟩; rfl
  one := by
    rintro _ _ _ _ ⟨v, rfl, _, hv⟩ u hu
    simp only [List.mem_cons, List.not_mem_nil, or_false] at hu
    rcases hu with rfl | rfl | rfl
    · rfl
    · rfl
    · exact Dat.one hv _ (by simp)
  keep := by
    rintro w w' O O' O'' cs l ⟨v, rfl, hp, h⟩ hc k1 k2
    exact ⟨v, rfl, hp, Dat.keep h hc k1 k2⟩
instance : Dat Mail where
  n := 4
  rd w O cs m := ∃ v, cs = [.string m.sender, .string m.subject, .string m.ident, v] ∧ m.sender.size ≤ maxLen ∧ m.subject.size ≤ maxLen ∧ m.ident.size ≤ maxLen ∧ Dat.rd w O [v] m.body
  bulk m := m.sender.size + m.subject.size + m.ident.size + Dat.bulk m.body + 4
  pos := by decide
  len := by rintro _ _ _ _ ⟨v, rfl, _⟩; rfl
  one := by
    rintro _ _ _ _ ⟨v, rfl, _, _, _, hv⟩ u hu
    simp only [List.mem_cons, List.not_mem_nil, or_false] at hu
    rcases hu with rfl | rfl | rfl | rfl
    · rfl
    · rfl
    · rfl
    · exact Dat.one hv _ (by simp)
  keep := by
    rintro w w' O O' O'' cs l ⟨v, rfl, h1, h2, h3, h⟩ hc k1 k2
    exact ⟨v, rfl, h1, h2, h3, Dat.keep h hc k1 k2⟩
instance : Dat (Int × Int) where
  n := 2
  rd _ _ cs x := cs = [.int .i64 x.1, .int .i64 x.2]
  bulk _ := 3
  pos := by decide
  len := by rintro _ _ _ _ rfl; rfl
  one := by rintro _ _ _ _ rfl u hu; simp at hu; rcases hu with rfl | rfl <;> rfl
  keep := by intro _ _ _ _ _ _ _ h _ _ _; exact h

theorem rdv_slice {α : Type} [Dat α] {w : World} {O : Nat → Prop} {v : Value} {l : List α} (h : Rdv w O v l) : ∃ a cap, v = .slice a l.length cap ∧ l.length ≤ cap ∧ cap ≤ maxLen ∧ Elems w O a l := by
  obtain ⟨a, cap, e, h1⟩ := h
  simp only [List.cons.injEq, and_true] at e
  exact ⟨a, cap, e, h1⟩
theorem rdv_nil {α : Type} [Dat α] (w : World) (O : Nat → Prop) : Rdv w O (.slice none 0 0) ([] : List α) :=
  ⟨none, 0, rfl, Nat.le_refl _, Nat.zero_le _, fun i x h => by simp at h⟩

/-! ### a slice that the call itself builds -/
/-- v owns its row, whose elements read as l (by way of no block of O, and not of its own row) -/
def Own {α : Type} [Dat α] (e : TypeId) (w : World) (O : Nat → Prop) (v : Value) (l : List α) : Prop :=
  ∃ xs, w.ownsRow 0 e (Dat.n α) v l.length xs ∧ (∀ k, v.ownBlock = some k → ¬ O k) ∧
    ∀ (i : Nat) (x : α), l[i]? = some x → Dat.rd w (fun k => O k ∨ v.ownBlock = some k) ((xs.drop (i * Dat.n α)).take (Dat.n α)) x

theorem own_nil {α : Type} [Dat α] (e : TypeId) (w : World) (O : Nat → Prop) : Own e w O (.slice none 0 0) ([] : List α) :=
  ⟨[], World.ownsRow_nil _ _ _ _, fun k h => by simp [Value.ownBlock] at h, fun i x h => by simp at h⟩

/-! ### an element's cells, in the walk's spelling -/
theorem elems_str {w : World} {O : Nat → Prop} {a : Option Addr} {l : List ByteArray} (h : Elems w O a l) {i : Nat} {x : ByteArray} (hx : l[i]? = some x) :
    ∃ b off, a = some ⟨b, off, none⟩ ∧ ¬ O b ∧ b < w.heap.size ∧ w.cell? ⟨b, off + i, none⟩ = some (.string x) ∧ x.size ≤ maxLen := by
  obtain ⟨b, off, es, ha, hb, hcs, rfl, hs⟩ := h i x hx
  refine ⟨b, off, ha, hb, hcs.lt (by simp), ?_, hs⟩
  have := hcs 0 (.string x) rfl
  simpa [Dat.n] using this
theorem elems_mark {w : World} {O : Nat → Prop} {a : Option Addr} {l : List Mark} (h : Elems w O a l) {i : Nat} {x : Mark} (hx : l[i]? = some x) :
    ∃ b off, a = some ⟨b, off, none⟩ ∧ ¬ O b ∧ b < w.heap.size ∧ w.cell? ⟨b, off + i * 2, none⟩ = some (.int .u8 x.sign) ∧ w.cell? ⟨b, off + i * 2 + 1, none⟩ = some (.string x.text) ∧ 0 ≤ x.sign ∧ x.sign < 256 ∧ x.text.size ≤ maxLen := by
  obtain ⟨b, off, es, ha, hb, hcs, rfl, hs⟩ := h i x hx
  refine ⟨b, off, ha, hb, hcs.lt (by simp), ?_, ?_, hs⟩
  · simpa [Dat.n] using hcs 0 _ rfl
  · simpa [Dat.n] using hcs 1 _ rfl

/-! ### slice literals -/
def RdAll {α : Type} [Dat α] (w : World) : List Value → List α → Prop
  | _, [] => True
  | cs, x :: l => Dat.rd w Never (cs.take (Dat.n α)) x ∧ RdAll w (cs.drop (Dat.n α)) l
theorem rdAll_get {α : Type} [Dat α] {w : World} : ∀ (l : List α) (cs : List Value), RdAll w cs l → ∀ (i : Nat) (x : α), l[i]? = some x → Dat.rd w Never ((cs.drop (i * Dat.n α)).take (Dat.n α)) x
  | [], _, _, i, x, hx => by simp at hx
  | y :: l, cs, h, 0, x, hx => by
    simp only [List.getElem?_cons_zero, Option.some.injEq] at hx
    subst hx
    simpa using h.1
  | y :: l, cs, h, i + 1, x, hx => by
    have := rdAll_get l _ h.2 i x (by simpa using hx)
    rw [List.drop_drop] at this
    rwa [show (i + 1) * Dat.n α = Dat.n α + i * Dat.n α by rw [Nat.succ_mul, Nat.add_comm]]
/-- a slice literal -/
theorem rdv_lit {α : Type} [Dat α] {w : World} {g : Nat} {e : TypeId} {cs : List Value} {l : List α} {n : Nat} (h : w.heap[g]? = some (.cells cs.toArray e (0, 0))) (hn : n = l.length) (hm : n ≤ 1000) (hr : RdAll w cs l) :
    Rdv w Never (.slice (some ⟨g, 0, none⟩) n n) l := by
  subst hn
  refine ⟨some ⟨g, 0, none⟩, l.length, rfl, Nat.le_refl _, by unfold maxLen; omega, ?_⟩
  intro i x hx
  have hr' := rdAll_get l cs hr i x hx
  refine ⟨g, 0, _, rfl, fun h => h, ?_, hr'⟩
  intro j u hj
  rw [List.getElem?_take] at hj
  split at hj
  · rw [List.getElem?_drop] at hj
    simp only [World.cell?, h]
    simpa using hj
  · cases hj
end Go.Proofs.YtgabchhplmncnaaGreatDoor
namespace Go.Proofs.YtgabchhplmncnaaGreatDoor
open Go.ChangeShapes Go.WideShapes Go.ChangeAt Go.RowKit

theorem own : ownKnob Tryz.prog.godebug = none := by kernel_rfl
theorem laidOut : laidOutB Tryz.prog = true := by kernel_rfl

theorem trodAll_stays {H : Type} {enc : TypeId × Value → H} {P : Program} (hl : laidOutB P = true) {W W' : World} : ∀ (ts : List TypeId) (vs : List Value) (ds : List (DataW H)) (ps : List MemPlace),
    (∀ t ∈ ts, P.readableRec t = true ∧ t < P.types.size) → DataW.TrodAll enc P W 0 (fun _ => true) true ts vs ds ps → (∀ x ∈ ps, W.sameAt W' x) → (∀ x ∈ ps, x.block < W.heap.size) →
    DataW.TrodAll enc P W' 0 (fun b => decide (b < W.heap.size)) true ts vs ds ps
  | [], [], [], ps, _, h, _, _ => h
  | t :: ts, v :: vs, d :: ds, ps, ht, h, h1, h2 => by
    obtain ⟨p, q, hp, hq, rfl⟩ := h
    refine ⟨p, q, ?_, ?_, rfl⟩
    · exact WideElems.Trod_stays hl (ht t (List.mem_cons_self ..)).1 (ht t (List.mem_cons_self ..)).2 hp (fun x hx => h1 x (List.mem_append_left _ hx)) (fun x hx => by simpa using h2 x (List.mem_append_left _ hx))
    · exact trodAll_stays hl ts vs ds q (fun t' h' => ht t' (List.mem_cons_of_mem _ h')) hq (fun x hx => h1 x (List.mem_append_right _ hx)) (fun x hx => h2 x (List.mem_append_right _ hx))
  | [], [], _ :: _, _, _, h, _, _ => h.elim
  | [], _ :: _, _, _, _, h, _, _ => h.elim
  | _ :: _, [], _, _, _, h, _, _ => h.elim
  | _ :: _, _ :: _, [], _, _, h, _, _ => h.elim

/-- what a law's row says behind the call, where the walk answered true and changed nothing that was there -/
theorem post_law {H : Type} {enc : TypeId × Value → H} {P : Program} {f : Func} {s : ChangeSpec} {W W' : World} {args : Array Value} {ds gs : List (DataW H)} {before : List MemPlace} {tb : TypeId}
    (hW : DataW.Whole enc P f.params.toList s.vars false W args.toList ds gs before) (hvars : s.vars = []) (hres : f.resultTypes = #[tb]) (htb : P.underlying tb = some .bool)
    (hfn : s.fn H ds = { results := [.lit (.bool true)], args := ds }) (hl : laidOutB P = true) (hread : ∀ t ∈ f.params.toList, P.readableRec t = true ∧ t < P.types.size) (hc : Chg Never W W') :
    s.post enc P f false true false false W args (.bool true) W' := by
  have hlt := hW.lt
  have hb : Below W.heap.size W W' := hc.never
  obtain ⟨p, q, h1, h2, h3, h4, h5⟩ := id hW
  rw [hvars] at h2
  have hgs : gs = [] ∧ q = [] := by
    cases gs with
    | nil => exact ⟨rfl, h2⟩
    | cons g gs => exact h2.elim
  obtain ⟨rfl, rfl⟩ := hgs
  rw [List.append_nil] at h3
  subst h3
  refine ⟨ds, [], before, [], before, [], hW, ?_, ?_, ?_, ?_, fun h => by cases h⟩
  · rw [List.append_nil, hfn, hres]
    exact ⟨[], [], ⟨1, by simp [DataW.trod, htb, Value.cells]⟩, rfl, rfl⟩
  · rw [List.append_nil, hfn]
    exact trodAll_stays hl _ _ _ _ hread h1 (fun x hx => hb.same (hlt x hx)) hlt
  · rw [hvars, List.append_nil, hfn]; rfl
  · exact hb.frame _

/-! ### how arguments read -/
def Opens (P : Program) (t : TypeId) (α : Type) [Dat α] : Prop :=
  ∀ (H : Type) (enc : TypeId × Value → H) (w : World) (base : Nat) (spare : Nat → Bool) (held : Bool) (fuel : Nat) (cs : List Value) (d : DataW H) (ps : List MemPlace),
    DataW.trod enc P w base spare held fuel t cs = some (d, ps) → ∃ x : α, Dat.rd w Never cs x ∧ Dat.bulk x ≤ Rows.uptoBulk d

theorem u8_of_wf {n : Int} (h : (Lit.int .u8 n).wf = true) : 0 ≤ n ∧ n < 256 := by
  have := bounds_u8 h
  omega
theorem addr_add {a : Addr} (h : a.spot = none) (k : Nat) : a.add k = ⟨a.block, a.off + k, none⟩ := by
  cases a
  simp only at h
  subst h
  unfold Addr.add
  split <;> simp_all
theorem spot_of_cell {w : World} {a : Addr} {v : Value} (h : w.cell? a = some v) : a.spot = none := by
  unfold World.cell? at h
  split at h
  · by_cases hs : a.spot.isSome = true
    · simp [hs] at h
    · simpa using hs
  · simp at h

theorem opens_slice {P : Program} {t e : TypeId} {α : Type} [Dat α] (ht : P.underlying t = some (.slice e)) (hn : P.cellsOf e = Dat.n α) (he : Opens P e α) : Opens P t (List α) := by
  intro H enc w base spare held fuel cs d ps h
  rcases Deep.open_slice ht h with ⟨rfl, hx⟩ | ⟨a, len, cap, m, n, D, Pl, rfl, hb, hl, hm, hmm, hx, hel⟩
  · simp only [Prod.mk.injEq] at hx
    obtain ⟨rfl, rfl⟩ := hx
    exact ⟨[], ⟨none, 0, rfl, Nat.le_refl _, Nat.zero_le _, fun i x hi => by simp at hi⟩, by simp [Dat.bulk, Rows.uptoBulk]⟩
  · simp only [Prod.mk.injEq] at hx
    obtain ⟨rfl, rfl⟩ := hx
    have hlm : len ≤ m := by rw [hmm]; split <;> omega
    have hpos := Dat.pos (α := α)
    have key : ∀ k, k ≤ len → ∃ l : List α, l.length = k ∧ Elems w Never (some a) l ∧ (l.map Dat.bulk).sum ≤ Rows.uptoBulkAll ((List.range k).map D) := by
      intro k
      induction k with
      | zero => intro _; exact ⟨[], rfl, fun i x hi => by simp at hi, by simp [Rows.uptoBulkAll]⟩
      | succ k ih =>
        intro hk
        obtain ⟨l, h1, h2, h3⟩ := ih (by omega)
        obtain ⟨es, hes, htr⟩ := hel k (by omega)
        obtain ⟨x, hx, hbx⟩ := he H enc w base spare held n es (D k) (Pl k) htr
        obtain ⟨hbase, hlen, hcell⟩ := World.cells?_some hes
        refine ⟨l ++ [x], by simp [h1], ?_, ?_⟩
        · intro i y hy
          rcases Nat.lt_or_ge i l.length with hi | hi
          · rw [List.getElem?_append_left hi] at hy
            exact h2 i y hy
          · have e : i = k := by
              have := (List.getElem?_eq_some_iff.1 hy).1
              simp at this
              omega
            subst e
            rw [List.getElem?_append_right hi, h1] at hy
            simp at hy
            subst hy
            obtain ⟨es0, hes0, _⟩ := hel 0 (by omega)
            obtain ⟨_, hlen0, hcell0⟩ := World.cells?_some hes0
            have hsp : a.spot = none := by
              have := hcell0 0 (by rw [hn]; exact hpos)
              rw [List.getElem?_eq_getElem (by rw [hlen0, hn]; exact hpos)] at this
              have h' : w.cell? a = some (es0[0]'(by rw [hlen0, hn]; exact hpos)) := by simpa [Addr.add] using this
              exact spot_of_cell h'
            refine ⟨a.block, a.off, es, ?_, fun h => h, ?_, hx⟩
            · cases a; simp_all
            · intro j u hj
              have hjl := (List.getElem?_eq_some_iff.1 hj).1
              have := hcell j (by omega)
              rw [addr_add hsp, addr_add rfl, hn] at this
              rw [this, hj]
        · rw [List.range_succ, List.map_append, List.map_append, List.sum_append]
          have e1 : ∀ (p q : List (DataW H)), Rows.uptoBulkAll (p ++ q) = Rows.uptoBulkAll p + Rows.uptoBulkAll q := by
            intro p q
            induction p with
            | nil => simp [Rows.uptoBulkAll]
            | cons z p ih => simp only [List.cons_append, Rows.uptoBulkAll, ih]; omega
          rw [e1]
          simp only [List.map_cons, List.map_nil, List.sum_cons, List.sum_nil, Rows.uptoBulkAll]
          omega
    obtain ⟨l, h1, h2, h3⟩ := key len (Nat.le_refl _)
    refine ⟨l, ⟨some a, cap, by rw [h1], by omega, hm, h2⟩, ?_⟩
    simp only [Dat.bulk, Rows.uptoBulk]
    omega

theorem opens_mark {P : Program} {t : TypeId} {f0 f1 : Field} (ht : P.underlying t = some (.struct #[f0, f1])) (hc : P.cellsOf t = 2) (o0 : f0.offset = 0) (o1 : f1.offset = 1) (k0 : P.cellsOf f0.type = 1) (k1 : P.cellsOf f1.type = 1)
    (h0 : P.underlying f0.type = some (.int .u8)) (h1 : P.underlying f1.type = some .string) : Opens P t Mark := by
  intro H enc w base spare held fuel cs d ps h
  obtain ⟨y0, y1, n, hx, hl, e0, e1⟩ := trod_struct2 ht h
  rw [hc] at hl
  match cs, hl with
  | [c0, c1], _ =>
    rw [o0, k0] at e0
    rw [o1, k1] at e1
    obtain ⟨m, m1, m2, m3⟩ := DataW.trod_int h0 e0
    obtain ⟨s, s1, s2, s3⟩ := DataW.trod_string h1 e1
    simp at m1 s1
    subst m1 s1 m2 s2
    simp only [Prod.mk.injEq] at hx
    obtain ⟨rfl, rfl⟩ := hx
    have hm := u8_of_wf m3
    refine ⟨⟨m, s⟩, ⟨rfl, hm.1, hm.2, s3⟩, ?_⟩
    show s.size + 3 ≤ Rows.uptoBulk (.agg [.lit (.int .u8 m), .lit (.string s.data.toList)])
    simp only [Rows.uptoBulk, Rows.uptoBulkAll]
    rw [Array.length_toList]
    show s.size + 3 ≤ 1 + (s.size + 1 + 0) + 1
    omega
theorem opens_hunk {P : Program} {t : TypeId} {f0 f1 f2 : Field} (ht : P.underlying t = some (.struct #[f0, f1, f2])) (hc : P.cellsOf t = 3) (o0 : f0.offset = 0) (o1 : f1.offset = 1) (o2 : f2.offset = 2) (k0 : P.cellsOf f0.type = 1) (k1 : P.cellsOf f1.type = 1) (k2 : P.cellsOf f2.type = 1)
    (h0 : P.underlying f0.type = some (.int .i64)) (h1 : P.underlying f1.type = some (.int .i64)) (h2 : Opens P f2.type (List Mark)) : Opens P t Hunk := by
  intro H enc w base spare held fuel cs d ps h
  obtain ⟨y0, y1, y2, n, hx, hl, e0, e1, e2⟩ := Deep.trod_struct3 ht h
  rw [hc] at hl
  match cs, hl with
  | [c0, c1, c2], _ =>
    rw [o0, k0] at e0
    rw [o1, k1] at e1
    rw [o2, k2] at e2
    obtain ⟨m, m1, m2, m3⟩ := DataW.trod_int h0 e0
    obtain ⟨s, s1, s2, s3⟩ := DataW.trod_int h1 e1
    simp at m1 s1 e2
    subst m1 s1 m2 s2
    obtain ⟨l, hl1, hl2⟩ := h2 H enc w base spare held n [c2] y2.1 y2.2 e2
    simp only [Prod.mk.injEq] at hx
    obtain ⟨rfl, rfl⟩ := hx
    refine ⟨⟨m, s, l⟩, ⟨c2, rfl, hl1⟩, ?_⟩
    show Dat.bulk l + 3 ≤ Rows.uptoBulk (.agg [.lit (.int .i64 m), .lit (.int .i64 s), y2.1])
    simp only [Rows.uptoBulk, Rows.uptoBulkAll]
    omega

theorem opens_marks : Opens Tryz.prog 128 (List Mark) := opens_slice Tryz.underlying128 (by kernel_rfl) (opens_mark Tryz.underlying127 (by kernel_rfl) rfl rfl (by kernel_rfl) (by kernel_rfl) Tryz.underlying5 Tryz.underlying9)
theorem opens_hunks : Opens Tryz.prog 116 (List Hunk) := opens_slice Tryz.underlying116 (by kernel_rfl) (opens_hunk Tryz.underlying130 (by kernel_rfl) rfl rfl rfl (by kernel_rfl) (by kernel_rfl) (by kernel_rfl) Tryz.underlying3 Tryz.underlying3 opens_marks)

end Go.Proofs.YtgabchhplmncnaaGreatDoor
namespace Go.Proofs.YtgabchhplmncnaaGreatDoor
open Go.RowKit

def errV (k : Int) : Value := if k = 0 then .nilIface else .iface 24 (.int .i64 k)
theorem errV_zero : errV 0 = .nilIface := rfl
theorem errV_pos {k : Int} (h : k ≠ 0) : errV k = .iface 24 (.int .i64 k) := by simp [errV, h]

theorem indexByte_nonneg (l : List UInt8) (c : UInt8) : decide (0 ≤ Lib.indexByte l c) = l.contains c := by
  have key : ∀ l : List UInt8, -1 ≤ Lib.indexByte l c ∧ (0 ≤ Lib.indexByte l c ↔ c ∈ l) := by
    intro l
    induction l with
    | nil => simp [Lib.indexByte]
    | cons b l ih =>
      obtain ⟨i1, i2⟩ := ih
      simp only [Lib.indexByte]
      by_cases hb : b = c
      · simp [hb]
      · by_cases hm : Lib.indexByte l c = -1
        · have : c ∉ l := fun h => by have := i2.2 h; omega
          simp [hb, hm, this, Ne.symm hb]
        · have : c ∈ l := i2.1 (by omega)
          simp [hb, hm, this]
          omega
  have := (key l).2
  by_cases hm : c ∈ l
  · simp [hm, this.2 hm]
  · have hn : ¬ 0 ≤ Lib.indexByte l c := fun h => hm (this.1 h)
    simp [hm, hn]
theorem hasNl_index (s : ByteArray) : decide (0 ≤ Lib.indexByte s.data.toList 10) = hasNl s := indexByte_nonneg _ _
theorem drop_eq {α : Type} {l : List α} {k : Nat} {x : α} (h : l[k]? = some x) : l.drop k = x :: l.drop (k + 1) := by
  obtain ⟨hk, hx⟩ := List.getElem?_eq_some_iff.1 h
  rw [List.drop_eq_getElem_cons hk, hx]

theorem one_any (s : ByteArray) (w : World) (hs : s.size ≤ maxLen) :
    Calls Tryz.prog 124 #[.string s] w fun e w' => e = .returned (errV (lineFault s)) ∧ w = w' := by
  unfold maxLen at hs
  by_cases h1 : hasNl s = true
  · go_enter Tryz.func124, Tryz.ntmps124
    go_wp2_with (go_at_call 136; refine (Tryz.strings_Contains_one _ _ _).mono ?_; rintro e w' ⟨rfl, rfl⟩; rw [hasNl_index, h1])
    go_ret
    exact ⟨by simp [lineFault, h1, errV], rfl⟩
  · have h1' : hasNl s = false := by simpa using h1
    by_cases h2 : 80 < s.size
    · go_enter Tryz.func124, Tryz.ntmps124
      go_wp2_with (go_at_call 136; refine (Tryz.strings_Contains_one _ _ _).mono ?_; rintro e w' ⟨rfl, rfl⟩; rw [hasNl_index, h1'])
      go_ret
      exact ⟨by simp [lineFault, h1', h2, errV], rfl⟩
    · go_enter Tryz.func124, Tryz.ntmps124
      go_wp2_with (go_at_call 136; refine (Tryz.strings_Contains_one _ _ _).mono ?_; rintro e w' ⟨rfl, rfl⟩; rw [hasNl_index, h1'])
      go_ret
      exact ⟨by simp [lineFault, h1', h2, errV], rfl⟩

theorem str_beq_false {x y : ByteArray} (h : x ≠ y) : (x.toList == y.toList) = false := by
  rw [ByteArray.toList_eq, ByteArray.toList_eq]
  refine beq_eq_false_iff_ne.2 (fun e => h ?_)
  have := Array.toList_inj.1 e
  cases x; cases y; simp_all

end Go.Proofs.YtgabchhplmncnaaGreatDoor
namespace Go.Proofs.YtgabchhplmncnaaGreatDoor
open Go.RowKit Go.Extern.Stop Go.Stop Go.Extern

/-- the datum of the variable errors.errorType -/
abbrev errT : Value := .iface 240 (.agg #[.pointer (some ⟨9, 28, none⟩)])
abbrev vP (a : Addr) : Value := .agg #[.pointer (some ⟨9, 167, none⟩), .pointer (some a), .int .u64 150]
abbrev vE (a : Addr) : Value := .agg #[.pointer (some ⟨9, 24, none⟩), .pointer (some a), .int .u64 130]
abbrev vEa (a : Addr) : Value := .agg #[.pointer (some ⟨9, 24, none⟩), .pointer (some a), .int .u64 386]
abbrev tP : Value := .agg #[.pointer (some ⟨9, 167, none⟩)]
abbrev tE : Value := .agg #[.pointer (some ⟨9, 24, none⟩)]

theorem as_valueOfP (t : Addr) (w : World) : (ReflectliteValue.unpack (.iface 167 (.pointer (some t)))).run Tryz.prog w
    = .ok (vP ⟨w.heap.size, 0, none⟩) (w.alloc (.cells #[.pointer (some t)] 167)) := by kernel_rfl
theorem as_typeP (a : Addr) (w : World) : (ReflectliteValue.methodAny (ReflectliteValue.valueError "reflectlite.Value.Type" 0) (fun t _ _ _ => ReflectliteType.toType t) #[vP a]).run Tryz.prog w
    = .ok (.iface 240 tP) w := by kernel_rfl
theorem as_kindP (w : World) : ((ReflectliteType.abiMethod fun t => (fun a : Nat => Value.int IntKind.u8 (a : Int)) <$> Rtype.kind t) #[.pointer (some ⟨9, 167, none⟩)]).run Tryz.prog w = .ok (.int .u8 22) w := by kernel_rfl
theorem as_kindE (w : World) : ((ReflectliteType.abiMethod fun t => (fun a : Nat => Value.int IntKind.u8 (a : Int)) <$> Rtype.kind t) #[.pointer (some ⟨9, 24, none⟩)]).run Tryz.prog w = .ok (.int .u8 2) w := by kernel_rfl
theorem as_rlm (z : Sem Value) (f : TypeId → Addr → Nat → Nat → Sem Value) (v : Value) :
    ReflectliteValue.method z f #[v] = (do match ← ReflectliteValue.parts v with | none => z | some (t, a, fl) => f t a fl (fl % 32)) := rfl
theorem as_partsP (a : Addr) (w : World) : (ReflectliteValue.parts (vP a)).run Tryz.prog w = .ok (some (167, a, 150)) w := by kernel_rfl
theorem as_isNilP (a p : Addr) (W : World) (ha : W.cell? a = some (.pointer (some p))) :
    (ReflectliteValue.method (ReflectliteValue.valueError "reflectlite.Value.IsNil" 0) ReflectliteValue.isNil #[vP a]).run Tryz.prog W = .ok (.bool false) W := by
  rw [as_rlm]
  simp only [Sem.run_bind, as_partsP, Result.andThen]
  simp [ReflectliteValue.isNil, loadVar, isAgg, underlying, Tryz.underlying167, ha, Result.andThen]
theorem as_methodKind (h : Value) (w : World) : (Go.method 435 240 (.agg #[h]) "Kind").run Tryz.prog w = .ok (231, h) w := by kernel_rfl
theorem as_elemP (w : World) : (ReflectliteType.method ReflectliteType.elem #[tP]).run Tryz.prog w = .ok (.iface 240 tE) w := by kernel_rfl
theorem as_implE (w : World) : (ReflectliteType.relation "Implements" ReflectliteType.implements_ #[tE, errT]).run Tryz.prog w = .ok (.bool true) w := by kernel_rfl
theorem as_typeOfE (v : Value) (w : World) : (ReflectliteType.typeOf #[.iface 24 v]).run Tryz.prog w = .ok (.iface 240 tE) w := by kernel_rfl
theorem as_assignE (w : World) : (ReflectliteType.relation "AssignableTo" ReflectliteType.assignableTo #[tE, .iface 240 tE]).run Tryz.prog w = .ok (.bool true) w := by kernel_rfl
theorem as_valueOfE (k : Int) (w : World) : (ReflectliteValue.unpack (.iface 24 (.int .i64 k))).run Tryz.prog w
    = .ok (vE ⟨w.heap.size, 0, none⟩) (w.alloc (.cells #[.int .i64 k] 24)) := by kernel_rfl
theorem as_elemOfP (w : World) : (Rtype.elem? 167).run Tryz.prog w = .ok (some 24) w := by kernel_rfl
theorem as_mkE (p : Addr) (w : World) : (ReflectliteValue.mk 24 p ReflectliteValue.flagAddr).run Tryz.prog w = .ok (vEa p) w := by kernel_rfl
theorem as_elemVP (a p : Addr) (W : World) (ha : W.cell? a = some (.pointer (some p))) :
    (ReflectliteValue.method (ReflectliteValue.valueError "reflectlite.Value.Elem" 0) ReflectliteValue.elem #[vP a]).run Tryz.prog W = .ok (vEa p) W := by
  rw [as_rlm]
  simp only [Sem.run_bind, as_partsP, Result.andThen]
  simp [ReflectliteValue.elem, loadVar, isAgg, underlying, Tryz.underlying167, ha, Result.andThen, as_elemOfP, as_mkE]
theorem as_rls (v x : Value) : ReflectliteValue.set #[v, x] = (do
    let (some (dst, a, fl), some (src, b, _)) := (← ReflectliteValue.parts v, ← ReflectliteValue.parts x)
      | unsupported (.noEntry "extern/(internal/reflectlite.Value).Set.zeroValue")
    if fl / ReflectliteValue.flagAddr % 2 == 0 then unsupported (.noEntry "extern/(internal/reflectlite.Value).Set.unaddressable")
    let val ← loadVar src b
    if ← Rtype.directlyAssignable dst src then storeVar dst a val
    else if ← Rtype.implements dst src then
      if (← Rtype.kind src) == 20 then
        match val with
        | .nilIface => unsupported (.noEntry "extern/reflectlite: a nil value of one interface type handed on as a value of another")
        | _ => storeVar dst a val
      else storeVar dst a (.iface src val)
    else panicString ("reflectlite.Set: value of type " ++ (← Rtype.spelt src) ++ " is not assignable to type " ++ (← Rtype.spelt dst))
    pure (.tuple #[])) := rfl
theorem as_partsEa (a : Addr) (w : World) : (ReflectliteValue.parts (vEa a)).run Tryz.prog w = .ok (some (24, a, 386)) w := by kernel_rfl
theorem as_partsE (a : Addr) (w : World) : (ReflectliteValue.parts (vE a)).run Tryz.prog w = .ok (some (24, a, 130)) w := by kernel_rfl
theorem as_directE (w : World) : (Rtype.directlyAssignable 24 24).run Tryz.prog w = .ok true w := by kernel_rfl
theorem as_setE (ta b : Addr) (k : Int) (old : Value) (W : World) (hb : W.cell? b = some (.int .i64 k)) (ht : W.cell? ta = some old) (hf : W.frozen? ta = false) :
    (ReflectliteValue.set #[vEa ta, vE b]).run Tryz.prog W = .ok (.tuple #[]) (W.setCell ta (.int .i64 k)) := by
  rw [as_rls]
  simp only [Sem.run_bind, as_partsEa, as_partsE, Result.andThen]
  simp [ReflectliteValue.flagAddr, loadVar, isAgg, underlying, Tryz.underlying24, hb, Result.andThen, as_directE, storeVar, Value.cells, storeCells, Addr.add]
  rw [run_store Tryz.prog W ta _ _ (by rfl)]
  simp [ht, hf]
theorem as_methodElem (h : Value) (w : World) : (Go.method 435 240 (.agg #[h]) "Elem").run Tryz.prog w = .ok (244, .agg #[h]) w := by kernel_rfl
theorem as_methodImplements (h : Value) (w : World) : (Go.method 435 240 (.agg #[h]) "Implements").run Tryz.prog w = .ok (245, .agg #[h]) w := by kernel_rfl
theorem as_methodAssignableTo (h : Value) (w : World) : (Go.method 435 240 (.agg #[h]) "AssignableTo").run Tryz.prog w = .ok (242, .agg #[h]) w := by kernel_rfl
/-- the worlds of the call -/
abbrev asW1 (w : World) (t : Addr) : World := w.alloc (.cells #[.pointer (some t)] 167)
abbrev asC (w : World) : Obj := .cells #[.pointer (some ⟨9, 167, none⟩), .pointer (some ⟨w.heap.size, 0, none⟩), .int .u64 150] 209
abbrev asW2 (w : World) (t : Addr) : World := (asW1 w t).alloc (asC w)
abbrev asW3 (w : World) (t : Addr) : World := (asW2 w t).alloc (asC w)
abbrev asW4 (w : World) (t : Addr) (k : Int) : World := (asW3 w t).alloc (.cells #[.int .i64 k] 24)

set_option maxRecDepth 100000 in
set_option maxHeartbeats 4000000 in
theorem as_hit (k : Int) (t : Addr) (old : Value) (w : World) (hg : w.cell? ⟨0, 0, none⟩ = some errT) (ht0 : w.cell? t = some old) (hf0 : w.frozen? t = false) :
    Calls Tryz.prog 93 #[.iface 24 (.int .i64 k), .iface 167 (.pointer (some t))] w fun ev w' => ev = .returned (.bool true) ∧ w' = (asW4 w t k).setCell t (.int .i64 k) := by
  have h6 := @run_callFunc_extern Tryz.prog 130 _ (fun args => ReflectliteValue.unpack (args.getD 0 (.tuple #[]))) Tryz.func130 (by kernel_rfl) (by kernel_rfl) (by kernel_rfl) (by kernel_rfl)
  have h7 := @run_callFunc_extern Tryz.prog 131 _ (ReflectliteValue.methodAny (ReflectliteValue.valueError "reflectlite.Value.Type" 0) (fun t _ _ _ => ReflectliteType.toType t)) Tryz.func131 (by kernel_rfl) (by kernel_rfl) (by kernel_rfl) (by kernel_rfl)
  have h8 := @run_callFunc_extern Tryz.prog 132 _ (ReflectliteValue.method (ReflectliteValue.valueError "reflectlite.Value.IsNil" 0) ReflectliteValue.isNil) Tryz.func132 (by kernel_rfl) (by kernel_rfl) (by kernel_rfl) (by kernel_rfl)
  have h27 := @run_callFunc_extern Tryz.prog 231 _ (ReflectliteType.abiMethod fun t => do pure (.int .u8 (← Rtype.kind t))) Tryz.func231 (by kernel_rfl) (by kernel_rfl) (by kernel_rfl) (by kernel_rfl)
  have h37 := @run_callFunc_extern Tryz.prog 244 _ (ReflectliteType.method ReflectliteType.elem) Tryz.func244 (by kernel_rfl) (by kernel_rfl) (by kernel_rfl) (by kernel_rfl)
  have h38 := @run_callFunc_extern Tryz.prog 245 _ (ReflectliteType.relation "Implements" ReflectliteType.implements_) Tryz.func245 (by kernel_rfl) (by kernel_rfl) (by kernel_rfl) (by kernel_rfl)
  have h10 := @run_callFunc_extern Tryz.prog 162 _ ReflectliteType.typeOf Tryz.func162 (by kernel_rfl) (by kernel_rfl) (by kernel_rfl) (by kernel_rfl)
  have h35 := @run_callFunc_extern Tryz.prog 242 _ (ReflectliteType.relation "AssignableTo" ReflectliteType.assignableTo) Tryz.func242 (by kernel_rfl) (by kernel_rfl) (by kernel_rfl) (by kernel_rfl)
  have h11 := @run_callFunc_extern Tryz.prog 163 _ (ReflectliteValue.method (ReflectliteValue.valueError "reflectlite.Value.Elem" 0) ReflectliteValue.elem) Tryz.func163 (by kernel_rfl) (by kernel_rfl) (by kernel_rfl) (by kernel_rfl)
  have h12 := @run_callFunc_extern Tryz.prog 164 _ ReflectliteValue.set Tryz.func164 (by kernel_rfl) (by kernel_rfl) (by kernel_rfl) (by kernel_rfl)
  have tO := as_typeOfE
  have mA := as_methodAssignableTo
  have a25 := as_assignE
  have v25 := as_valueOfE
  have f6 := as_valueOfP
  have f7 := as_typeP
  have mK := as_methodKind
  have mE := as_methodElem
  have mI := as_methodImplements
  have k27 := as_kindP
  have k25 := as_kindE
  have e27 := as_elemP
  have i25 := as_implE
  have n8 := as_isNilP ⟨w.heap.size, 0, none⟩ t (asW2 w t) (by simp)
  have hlt : 0 < w.heap.size := by
    rcases Nat.lt_or_ge 0 w.heap.size with h | h
    · exact h
    · simp [World.cell?, Array.getElem?_eq_none h] at hg
  have hg2 : (asW2 w t).cell? ⟨0, 0, none⟩ = some errT := by
    rw [World.cell?_alloc_lt _ _ ⟨0, 0, none⟩ (by first | (simp; done) | (simp; omega)), World.cell?_alloc_lt _ _ ⟨0, 0, none⟩ hlt]; exact hg
  have htl : t.block < w.heap.size := by
    rcases Nat.lt_or_ge t.block w.heap.size with h | h
    · exact h
    · simp [World.cell?, Array.getElem?_eq_none h] at ht0
  have el := as_elemVP ⟨w.heap.size, 0, none⟩ t (asW3 w t) (by rw [World.cell?_alloc_lt _ _ ⟨w.heap.size, 0, none⟩ (by simp; omega)]; simp)
  have st := as_setE t ⟨w.heap.size + 1 + 1 + 1, 0, none⟩ k old (asW4 w t k)
    (by rw [World.cell?_alloc_at _ _ _ _ (by simp)]; rfl)
    (by rw [World.cell?_alloc_lt _ _ t (by simp; omega), World.cell?_alloc_lt _ _ t (by simp; omega), World.cell?_alloc_lt _ _ t (by simp; omega), World.cell?_alloc_lt _ _ t htl]; exact ht0)
    (by rw [World.frozen?_alloc_old _ _ t (by simp; omega), World.frozen?_alloc_old _ _ t (by simp; omega), World.frozen?_alloc_old _ _ t (by simp; omega), World.frozen?_alloc_old _ _ t (Nat.ne_of_lt htl)]; exact hf0)
  go_enter Tryz.func93, Tryz.ntmps93
  go_wp2
  refine wp_loop_rounds 1 ?_
  rw [rounds_succ]
  go_wp2
  go_ret
  exact ⟨rfl, rfl⟩

/-- from w to w' what was there has stayed, and the type's handle is still there -/
theorem told_hit (k : Int) (w : World) (hg : w.cell? ⟨0, 0, none⟩ = some errT) :
    Calls Tryz.prog 45 #[.iface 24 (.int .i64 k)] w fun e w' => e = .returned (.int .i64 k) ∧ Chg Never w w' := by
  have hlt : 0 < w.heap.size := by
    rcases Nat.lt_or_ge 0 w.heap.size with h | h
    · exact h
    · simp [World.cell?, Array.getElem?_eq_none h] at hg
  have hgA : (w.alloc (.cells #[.int .i64 0] 24)).cell? ⟨0, 0, none⟩ = some errT := by rw [World.cell?_alloc_lt _ _ ⟨0, 0, none⟩ hlt]; exact hg
  have htA : (w.alloc (.cells #[.int .i64 0] 24)).cell? ⟨w.heap.size, 0, none⟩ = some (.int .i64 0) := by simp
  have hfA : (w.alloc (.cells #[.int .i64 0] 24)).frozen? ⟨w.heap.size, 0, none⟩ = false := by simp
  go_enter Tryz.func45, Tryz.ntmps45
  go_wp2_with (go_at_call 93; refine (as_hit k _ (.int .i64 0) _ hgA htA hfA).mono ?_; rintro e w' ⟨rfl, rfl⟩)
  go_ret
  refine ⟨rfl, ?_⟩
  exact (((((Chg.refl Never w).alloc _).alloc _).alloc _).alloc _).alloc _
theorem told_nil (w : World) : Calls Tryz.prog 45 #[.nilIface] w fun e w' => e = .returned (.int .i64 0) ∧ Chg Never w w' := by
  go_enter Tryz.func45, Tryz.ntmps45
  go_wp2
  go_ret
  exact ⟨rfl, Chg.refl _ _⟩
theorem told_any (k : Int) (w : World) (hg : w.cell? ⟨0, 0, none⟩ = some errT) :
    Calls Tryz.prog 45 #[errV k] w fun e w' => e = .returned (.int .i64 k) ∧ Chg Never w w' := by
  by_cases h : k = 0
  · subst h; exact told_nil w
  · rw [errV_pos h]; exact told_hit k w hg
/-- handstitchsame.Error -/
theorem error_any (k e : Int) (w : World) (hg : w.cell? ⟨0, 0, none⟩ = some errT) :
    Calls Tryz.prog 12 #[errV k, .int .i64 e] w fun x w' => x = .returned (.bool (k == e)) ∧ Chg Never w w' := by
  go_enter Tryz.func12, Tryz.ntmps12
  go_wp2_with (go_at_call 45; refine (told_any k _ hg).mono ?_; rintro e w' ⟨rfl, hc⟩)
  go_ret
  exact ⟨rfl, hc⟩
end Go.Proofs.YtgabchhplmncnaaGreatDoor
namespace Go.Proofs.YtgabchhplmncnaaGreatDoor
open Go.ChangeShapes Go.WideShapes Go.ChangeAt Go.RowKit

theorem as_et : Tryz.prog.globalNamed "errors.errorType" = some 0 := by kernel_rfl
theorem as_rt : (Tryz.prog.cutTypes.find? (·.1 == "internal/reflectlite.rtype")).map (·.2) = some 240 := by kernel_rfl
theorem as_oneRow : ((List.range 335).filter fun t => Tryz.prog.rowNamed t [101, 114, 114, 111, 114]) = [28] := by kernel_rfl
theorem as_size : Tryz.prog.types.size = 335 := by kernel_rfl
abbrev listed : List (String × DataW Unit) := [("errors.errorType", Rows.laid_errors_errorType)]

noncomputable def laidWorld (os : Os) : World :=
  let w0 := World.holding Tryz.prog os ⟨#[], #[], []⟩
  { w0 with heap := w0.heap.modify 0 fun
      | .cells _ t frozen => .cells #[errT] t frozen
      | o => o }
end Go.Proofs.YtgabchhplmncnaaGreatDoor
namespace Go.Proofs.YtgabchhplmncnaaGreatDoor
open Go.ChangeShapes Go.WideShapes Go.ChangeAt Go.RowKit

abbrev listedTE : List (String × DataW Unit) := [("unicode/utf8.acceptRanges", Rows.laid_unicode_utf8_acceptRanges), ("errors.errorType", Rows.laid_errors_errorType), ("unicode/utf8.first", Rows.laid_unicode_utf8_first)]
abbrev listedT : List (String × DataW Unit) := [("unicode/utf8.acceptRanges", Rows.laid_unicode_utf8_acceptRanges), ("unicode/utf8.first", Rows.laid_unicode_utf8_first)]
theorem handle_of_laidTE {W : World} (h : laidMetH Tryz.prog listedTE W) : W.cell? ⟨0, 0, none⟩ = some errT := by
  have h' : laidMet Tryz.prog listedT W ∧ handlesMet Tryz.prog listed W := h
  obtain ⟨name, u, ty, e1, e2, e3, e4, e5⟩ := h'.2 _ (List.mem_singleton.2 rfl)
  have en : name = [101, 114, 114, 111, 114] := (Option.some.inj e1).symm
  subst en
  obtain rfl := Option.some.inj (as_rt.symm.trans e2)
  have hm : ty ∈ (List.range 335).filter fun t => Tryz.prog.rowNamed t [101, 114, 114, 111, 114] := List.mem_filter.2 ⟨List.mem_range.2 (by rw [← as_size]; exact e3), e4⟩
  rw [as_oneRow] at hm
  obtain rfl := List.mem_singleton.1 hm
  have hh : typeHandle Tryz.prog 28 = .pointer (some ⟨9, 28, none⟩) := by kernel_rfl
  rw [hh] at e5
  simpa using World.var?_cell as_et e5 0
theorem maxlen_of {W : World} (h : W.ShapedOpen Tryz.prog) : ∃ m, W.cell? ⟨1, 0, none⟩ = some (.int .i64 m) := Go.Proofs.cell_of_shapedOpen_int (zero := #[.int .i64 0]) (t := 3) h (of_decide_eq_true (by kernel_rfl)) (by kernel_rfl) rfl (by kernel_rfl) (by kernel_rfl) Tryz.underlying3

def litOf : DataW Unit → List Value
  | .lit (.int k n) => [.int k n]
  | _ => []
def partOf : DataW Unit → List Value
  | .agg es => es.flatMap litOf
  | d => litOf d
def tableOf : DataW Unit → List Value
  | .agg ds => ds.flatMap partOf
  | d => litOf d
def setTable (w : World) (g : Nat) (cs : List Value) : World :=
  { w with heap := w.heap.modify g fun
      | .cells _ t frozen => .cells cs.toArray t frozen
      | o => o }
noncomputable def laidWorldT (os : Os) : World := setTable (setTable (laidWorld os) 6 (tableOf Rows.laid_unicode_utf8_acceptRanges)) 5 (tableOf Rows.laid_unicode_utf8_first)
end Go.Proofs.YtgabchhplmncnaaGreatDoor
namespace Go.Proofs.YtgabchhplmncnaaGreatDoor
open Go.RowKit Go.Sort

theorem pow_at : Tryz.prog.globalNamed "internal/strconv.uint64pow10" = some 4 := by kernel_rfl
def IsErrV (ev : Value) : Prop := ev = .nilIface ∨ ∃ te pe, ev = .iface te pe
structure Globs (w : World) (m : Int) : Prop where
  ml : w.cell? ⟨1, 0, none⟩ = some (.int .i64 m)
  tab : Lib.TabIs Tryz.prog w "internal/strconv.uint64pow10" .u64 Lib.pow10Tab
  es : ∃ ev, w.cell? ⟨2, 0, none⟩ = some ev ∧ IsErrV ev
  er : ∃ ev, w.cell? ⟨3, 0, none⟩ = some ev ∧ IsErrV ev
theorem tab_keep {O : Nat → Prop} {w w' : World} (h : Lib.TabIs Tryz.prog w "internal/strconv.uint64pow10" .u64 Lib.pow10Tab) (hc : Chg O w w') (hO : ¬ O 4) : Lib.TabIs Tryz.prog w' "internal/strconv.uint64pow10" .u64 Lib.pow10Tab := by
  unfold Lib.TabIs World.var? at *
  rw [pow_at] at h ⊢
  simp only [Option.bind_some] at h ⊢
  have hlt : 4 < w.heap.size := by
    rcases Nat.lt_or_ge 4 w.heap.size with q | q
    · exact q
    · rw [Array.getElem?_eq_none q] at h; cases h
  rw [hc.block _ hlt hO]
  exact h
theorem Globs.keepO {O : Nat → Prop} {w w' : World} {m : Int} (h : Globs w m) (hc : Chg O w w') (hO : ∀ k, k < 9 → ¬ O k) : Globs w' m := by
  obtain ⟨h1, h2, ⟨e1, h3, h4⟩, ⟨e2, h5, h6⟩⟩ := h
  exact ⟨hc.cell h1 (hO _ (by decide)), tab_keep h2 hc (hO _ (by decide)), ⟨e1, hc.cell h3 (hO _ (by decide)), h4⟩, ⟨e2, hc.cell h5 (hO _ (by decide)), h6⟩⟩
theorem Globs.never {w w' : World} {m : Int} (h : Globs w m) (hc : Chg Never w w') : Globs w' m := h.keepO hc (fun _ _ q => q)
end Go.Proofs.YtgabchhplmncnaaGreatDoor
namespace Go.Proofs.YtgabchhplmncnaaGreatDoor
open Go.ChangeShapes Go.WideShapes Go.ChangeAt Go.RowKit

abbrev listedG : List (String × DataW Unit) := [("math/bits.deBruijn32tab", Rows.laid_math_bits_deBruijn32tab), ("math/bits.deBruijn64tab", Rows.laid_math_bits_deBruijn64tab), ("internal/strconv.uint64pow10", Rows.laid_internal_strconv_uint64pow10), ("unicode/utf8.acceptRanges", Rows.laid_unicode_utf8_acceptRanges), ("unicode/utf8.first", Rows.laid_unicode_utf8_first)]
def textOf : DataW Unit → ByteArray
  | .iface _ (.ptr (.agg [.lit (.string s)])) => ⟨s.toArray⟩
  | _ => ⟨#[]⟩
def withErrs (w : World) : World :=
  let n := w.heap.size
  let w1 := setTable (setTable w 3 [.iface 298 (.pointer (some ⟨n, 0, none⟩))]) 2 [.iface 298 (.pointer (some ⟨n + 1, 0, none⟩))]
  { w1 with heap := (w1.heap.push (.cells #[.string (textOf Rows.laid_strconv_ErrRange)] 300 (0, 0))).push (.cells #[.string (textOf Rows.laid_strconv_ErrSyntax)] 300 (0, 0)) }
noncomputable def laidWorldG (os : Os) : World := withErrs (setTable (setTable (setTable (laidWorldT os) 7 (tableOf Rows.laid_math_bits_deBruijn32tab)) 8 (tableOf Rows.laid_math_bits_deBruijn64tab)) 4 (tableOf Rows.laid_internal_strconv_uint64pow10))
theorem laidWorldG_met (os : Os) (args : Array Value) : laidMetH Tryz.prog listedG ((laidWorldG os).forCall (fun _ _ => 0) ⟨#[], args, []⟩).memory :=
  (laidMet_of_run' 8 (by kernel_rfl) (by kernel_rfl) : laidMet Tryz.prog listedG _)
end Go.Proofs.YtgabchhplmncnaaGreatDoor
namespace Go.Proofs.YtgabchhplmncnaaGreatDoor
open Go.ChangeShapes Go.WideShapes Go.ChangeAt Go.RowKit

end Go.Proofs.YtgabchhplmncnaaGreatDoor
namespace Go.Proofs.YtgabchhplmncnaaGreatDoor
open Go.ChangeShapes Go.WideShapes Go.ChangeAt Go.RowKit

def keepT (x : String × DataW Unit) : Bool := x.1 == "unicode/utf8.acceptRanges" || x.1 == "unicode/utf8.first"
end Go.Proofs.YtgabchhplmncnaaGreatDoor
namespace Go.Proofs.YtgabchhplmncnaaGreatDoor
open Go.ChangeShapes Go.WideShapes Go.ChangeAt Go.RowKit

abbrev listedGE : List (String × DataW Unit) := [("math/bits.deBruijn32tab", Rows.laid_math_bits_deBruijn32tab), ("math/bits.deBruijn64tab", Rows.laid_math_bits_deBruijn64tab), ("internal/strconv.uint64pow10", Rows.laid_internal_strconv_uint64pow10), ("unicode/utf8.acceptRanges", Rows.laid_unicode_utf8_acceptRanges), ("errors.errorType", Rows.laid_errors_errorType), ("unicode/utf8.first", Rows.laid_unicode_utf8_first)]
theorem laidWorldG_metL (os : Os) (args : Array Value) : laidMet Tryz.prog listedG ((laidWorldG os).forCall (fun _ _ => 0) ⟨#[], args, []⟩).memory := laidWorldG_met os args
theorem laidWorldGE_met (os : Os) (args : Array Value) : laidMetH Tryz.prog listedGE ((laidWorldG os).forCall (fun _ _ => 0) ⟨#[], args, []⟩).memory :=
  laidMetH_of_parts (laidWorldG_metL os args) (by kernel_rfl)
theorem parts_of_laidGE {W : World} (h : laidMetH Tryz.prog listedGE W) : laidMet Tryz.prog listedG W ∧ handlesMet Tryz.prog listed W := h
theorem keepT_G : listedG.filter keepT = listedT := by
  unfold keepT
  simp [listedG, listedT]
theorem handle_of_laidGE {W : World} (h : laidMetH Tryz.prog listedGE W) : W.cell? ⟨0, 0, none⟩ = some errT := by
  have h1 := laidMet.filter keepT (parts_of_laidGE h).1
  rw [keepT_G] at h1
  exact handle_of_laidTE (show laidMet Tryz.prog listedT W ∧ handlesMet Tryz.prog listed W from ⟨h1, (parts_of_laidGE h).2⟩)
end Go.Proofs.YtgabchhplmncnaaGreatDoor
namespace Go.Proofs.YtgabchhplmncnaaGreatDoor
open Go.ChangeShapes Go.WideShapes Go.ChangeAt Go.RowKit

theorem opens_change {P : Program} {t : TypeId} {f0 f1 f2 : Field} (ht : P.underlying t = some (.struct #[f0, f1, f2])) (hc : P.cellsOf t = 3) (o0 : f0.offset = 0) (o1 : f1.offset = 1) (o2 : f2.offset = 2) (k0 : P.cellsOf f0.type = 1) (k1 : P.cellsOf f1.type = 1) (k2 : P.cellsOf f2.type = 1)
    (h0 : P.underlying f0.type = some (.int .i64)) (h1 : P.underlying f1.type = some .string) (h2 : Opens P f2.type (List Hunk)) : Opens P t Change := by
  intro H enc w base spare held fuel cs d ps h
  obtain ⟨y0, y1, y2, n, hx, hl, e0, e1, e2⟩ := Deep.trod_struct3 ht h
  rw [hc] at hl
  match cs, hl with
  | [c0, c1, c2], _ =>
    rw [o0, k0] at e0
    rw [o1, k1] at e1
    rw [o2, k2] at e2
    obtain ⟨m, m1, m2, m3⟩ := DataW.trod_int h0 e0
    obtain ⟨s, s1, s2, s3⟩ := DataW.trod_string h1 e1
    simp at m1 s1 e2
    subst m1 s1 m2 s2
    obtain ⟨l, hl1, hl2⟩ := h2 H enc w base spare held n [c2] y2.1 y2.2 e2
    simp only [Prod.mk.injEq] at hx
    obtain ⟨rfl, rfl⟩ := hx
    refine ⟨⟨m, s, l⟩, ⟨c2, rfl, s3, hl1⟩, ?_⟩
    show s.size + Dat.bulk l + 3 ≤ Rows.uptoBulk (.agg [.lit (.int .i64 m), .lit (.string s.data.toList), y2.1])
    simp only [Rows.uptoBulk, Rows.uptoBulkAll]
    rw [Array.length_toList]
    show s.size + Dat.bulk l + 3 ≤ 1 + (s.size + 1 + (Rows.uptoBulk y2.1 + 0)) + 1
    omega

theorem opens_achange : Opens Tryz.prog 118 Change := opens_change Tryz.underlying118 (by kernel_rfl) rfl rfl rfl (by kernel_rfl) (by kernel_rfl) (by kernel_rfl) Tryz.underlying3 Tryz.underlying9 opens_hunks
theorem opens_changes : Opens Tryz.prog 57 (List Change) := opens_slice Tryz.underlying57 (by kernel_rfl) opens_achange
theorem opens_series : Opens Tryz.prog 22 (List (List Change)) := opens_slice Tryz.underlying22 (by kernel_rfl) opens_changes
end Go.Proofs.YtgabchhplmncnaaGreatDoor
namespace Go.Proofs.YtgabchhplmncnaaGreatDoor

def delC (left : Nat → Bool) (k : Nat) : Nat → Bool := fun j => left j && j != k
/-- the least of what is left below k; -1 for none -/
def minGo (f : Nat → Int) (left : Nat → Bool) : Nat → Int
  | 0 => -1
  | k + 1 => if left k = true ∧ (minGo f left k < 0 ∨ f k < minGo f left k) then f k else minGo f left k
def outGo (f : Nat → Int) (g : Nat → List Int) (left : Nat → Bool) : Nat → List Int
  | 0 => []
  | k + 1 => if left k = true ∧ (minGo f left k < 0 ∨ f k < minGo f left k) then (k : Int) :: g k else outGo f g left k
/-- the least cost of rows of the columns left -/
def bestS : List (List Int) → (Nat → Bool) → Int
  | [], _ => 0
  | row :: rest, left => minGo (fun k => row.getD k 0 + bestS rest (delC left k)) left row.length
/-- what the program chooses -/
def chooseS : List (List Int) → (Nat → Bool) → List Int
  | [], _ => []
  | row :: rest, left => match (List.range row.length).find? (fun k => left k && row.getD k 0 + bestS rest (delC left k) == bestS (row :: rest) left) with
    | none => chooseS rest left
    | some k => (k : Int) :: chooseS rest (delC left k)
/-- what the document chooses -/
def refOut : List (List Int) → (Nat → Bool) → List Int
  | [], _ => []
  | row :: rest, left => outGo (fun k => row.getD k 0 + bestS rest (delC left k)) (fun k => refOut rest (delC left k)) left row.length
/-- how many are left below n -/
def cntL (left : Nat → Bool) : Nat → Nat
  | 0 => 0
  | n + 1 => cntL left n + (if left n = true then 1 else 0)

theorem cnt_del_out (left : Nat → Bool) {k : Nat} : ∀ (n : Nat), n ≤ k → cntL (delC left k) n = cntL left n
  | 0, _ => rfl
  | n + 1, h => by
    rw [cntL, cntL, cnt_del_out left n (by omega)]
    have : delC left k n = left n := by unfold delC; rw [show (n != k) = true by simp; omega, Bool.and_true]
    rw [this]
theorem cnt_del (left : Nat → Bool) {k : Nat} (hk : left k = true) : ∀ (n : Nat), k < n → cntL (delC left k) n + 1 = cntL left n
  | 0, h => absurd h (by omega)
  | n + 1, h => by
    rw [cntL, cntL]
    by_cases e : k = n
    · subst e
      rw [cnt_del_out left k (Nat.le_refl _), if_pos hk, if_neg (by unfold delC; simp)]
    · have : delC left k n = left n := by unfold delC; rw [show (n != k) = true by simp; omega, Bool.and_true]
      rw [this, ← cnt_del left hk n (by omega)]
      omega
theorem cnt_some {left : Nat → Bool} : ∀ {n : Nat}, 0 < cntL left n → ∃ j, j < n ∧ left j = true
  | 0, h => absurd h (by simp [cntL])
  | n + 1, h => by
    rw [cntL] at h
    by_cases e : left n = true
    · exact ⟨n, by omega, e⟩
    · rw [if_neg e] at h
      obtain ⟨j, q, r⟩ := cnt_some (n := n) (by omega)
      exact ⟨j, by omega, r⟩
theorem del_left {left : Nat → Bool} {k j : Nat} (h : delC left k j = true) : left j = true ∧ j ≠ k := by
  unfold delC at h
  simpa using h

theorem min_none {f : Nat → Int} {left : Nat → Bool} : ∀ {k : Nat}, (∀ j, j < k → left j = false) → minGo f left k = -1
  | 0, _ => rfl
  | k + 1, h => by
    rw [minGo, if_neg (by rw [h k (by omega)]; simp), min_none fun j q => h j (by omega)]
/-- the least is one of them, the first such; the choice is its -/
theorem min_first {f : Nat → Int} {left : Nat → Bool} (g : Nat → List Int) : ∀ {k : Nat}, (∀ j, j < k → left j = true → 0 ≤ f j) → (∃ j, j < k ∧ left j = true) →
    ∃ j, j < k ∧ left j = true ∧ minGo f left k = f j ∧ (∀ i, i < k → left i = true → f j ≤ f i) ∧ (∀ i, i < j → left i = true → f j < f i) ∧ outGo f g left k = (j : Int) :: g j
  | 0, _, h => by obtain ⟨j, q, _⟩ := h; omega
  | k + 1, hp, h => by
    by_cases hex : ∃ j, j < k ∧ left j = true
    · obtain ⟨j, q1, q2, q3, q4, q5, q6⟩ := min_first g (fun i q => hp i (by omega)) hex
      have hj := hp j (by omega) q2
      by_cases ht : left k = true ∧ f k < f j
      · refine ⟨k, by omega, ht.1, ?_, fun i qi li => ?_, fun i qi li => ?_, ?_⟩
        · rw [minGo, if_pos ⟨ht.1, .inr (by rw [q3]; exact ht.2)⟩]
        · by_cases e : i = k
          · subst e; exact Int.le_refl _
          · have := q4 i (by omega) li
            have := ht.2
            omega
        · have := q4 i qi li
          have := ht.2
          omega
        · rw [outGo, if_pos ⟨ht.1, .inr (by rw [q3]; exact ht.2)⟩]
      · have hn : ¬ (left k = true ∧ (minGo f left k < 0 ∨ f k < minGo f left k)) := by
          rintro ⟨a, b⟩
          rw [q3] at b
          rcases b with b | b
          · omega
          · exact ht ⟨a, b⟩
        refine ⟨j, by omega, q2, by rw [minGo, if_neg hn, q3], fun i qi li => ?_, q5, by rw [outGo, if_neg hn, q6]⟩
        by_cases e : i = k
        · subst e
          exact Int.not_lt.1 fun l => ht ⟨li, l⟩
        · exact q4 i (by omega) li
    · have hnone : ∀ j, j < k → left j = false := fun j q => by
        cases e : left j with
        | false => rfl
        | true => exact absurd ⟨j, q, e⟩ hex
      have hk : left k = true := by
        obtain ⟨j, q, l⟩ := h
        by_cases e : j = k
        · rw [← e]; exact l
        · rw [hnone j (by omega)] at l; cases l
      have hm : left k = true ∧ (minGo f left k < 0 ∨ f k < minGo f left k) := ⟨hk, .inl (by rw [min_none hnone]; decide)⟩
      refine ⟨k, by omega, hk, by rw [minGo, if_pos hm], fun i qi li => ?_, fun i qi li => ?_, by rw [outGo, if_pos hm]⟩
      · by_cases e : i = k
        · subst e; exact Int.le_refl _
        · rw [hnone i (by omega)] at li; cases li
      · rw [hnone i qi] at li; cases li

/-- rows that may be -/
def SqOk (n : Nat) (rows : List (List Int)) : Prop := ∀ row ∈ rows, row.length = n ∧ ∀ c ∈ row, 0 ≤ c
theorem sq_tail {n : Nat} {row : List Int} {rest : List (List Int)} (h : SqOk n (row :: rest)) : SqOk n rest := fun r hr => h r (List.mem_cons_of_mem _ hr)
theorem sq_at {n : Nat} {row : List Int} {rest : List (List Int)} (h : SqOk n (row :: rest)) (k : Nat) : 0 ≤ row.getD k 0 := by
  rw [List.getD_eq_getElem?_getD]
  cases e : row[k]? with
  | none => exact Int.le_refl _
  | some c => exact (h row (List.mem_cons_self ..)).2 c (List.mem_of_getElem? e)
theorem best_pos {n : Nat} : ∀ {rows : List (List Int)} {left : Nat → Bool}, SqOk n rows → rows.length ≤ cntL left n → 0 ≤ bestS rows left
  | [], _, _, _ => Int.le_refl _
  | row :: rest, left, h, hc => by
    have hl : row.length = n := (h row (List.mem_cons_self ..)).1
    simp only [List.length_cons] at hc
    have hp : ∀ j, j < row.length → left j = true → 0 ≤ row.getD j 0 + bestS rest (delC left j) := fun j q l => by
      have := sq_at h j
      have := best_pos (rows := rest) (left := delC left j) (sq_tail h) (by have := cnt_del left l n (by omega); omega)
      omega
    obtain ⟨j, q1, q2, q3, _⟩ := min_first (fun _ => []) hp (by rw [hl]; exact cnt_some (by omega))
    rw [bestS, q3]
    exact hp j q1 q2
/-- the step: the first column that is as cheap as can be -/
theorem best_step {n : Nat} {row : List Int} {rest : List (List Int)} {left : Nat → Bool} (h : SqOk n (row :: rest)) (hc : rest.length + 1 ≤ cntL left n) :
    ∃ j, j < n ∧ left j = true ∧ bestS (row :: rest) left = row.getD j 0 + bestS rest (delC left j) ∧ rest.length ≤ cntL (delC left j) n
      ∧ (∀ i, i < n → left i = true → bestS (row :: rest) left ≤ row.getD i 0 + bestS rest (delC left i))
      ∧ chooseS (row :: rest) left = (j : Int) :: chooseS rest (delC left j) ∧ refOut (row :: rest) left = (j : Int) :: refOut rest (delC left j) := by
  have hl : row.length = n := (h row (List.mem_cons_self ..)).1
  have hp : ∀ j, j < row.length → left j = true → 0 ≤ row.getD j 0 + bestS rest (delC left j) := fun j q l => by
    have := sq_at h j
    have := best_pos (rows := rest) (left := delC left j) (sq_tail h) (by have := cnt_del left l n (by omega); omega)
    omega
  obtain ⟨j, q1, q2, q3, q4, q5, q6⟩ := min_first (fun k => refOut rest (delC left k)) hp (by rw [hl]; exact cnt_some (by omega))
  have e : bestS (row :: rest) left = row.getD j 0 + bestS rest (delC left j) := by rw [bestS, q3]
  refine ⟨j, by omega, q2, e, by have := cnt_del left q2 n (by omega); omega, fun i qi li => by rw [e]; exact q4 i (by omega) li, ?_, by rw [refOut, q6]⟩
  have hf : (List.range row.length).find? (fun k => left k && row.getD k 0 + bestS rest (delC left k) == bestS (row :: rest) left) = some j := by
    rw [List.find?_range_eq_some]
    refine ⟨by rw [q2, e]; simp, List.mem_range.2 q1, fun i qi => ?_⟩
    cases li : left i with
    | false => rfl
    | true =>
      have := q5 i qi li
      rw [e]
      simp only [Bool.true_and, Bool.not_eq_true', beq_eq_false_iff_ne, ne_eq]
      omega
  rw [chooseS, hf]
/-- what the program chooses is what the document chooses -/
theorem choose_ref {n : Nat} : ∀ {rows : List (List Int)} {left : Nat → Bool}, SqOk n rows → rows.length ≤ cntL left n → chooseS rows left = refOut rows left
  | [], _, _, _ => rfl
  | row :: rest, left, h, hc => by
    obtain ⟨j, _, _, _, q4, _, q6, q7⟩ := best_step h (by simpa using hc)
    rw [q6, q7, choose_ref (sq_tail h) q4]
theorem choose_len {n : Nat} : ∀ {rows : List (List Int)} {left : Nat → Bool}, SqOk n rows → rows.length ≤ cntL left n → (chooseS rows left).length = rows.length
  | [], _, _, _ => rfl
  | row :: rest, left, h, hc => by
    obtain ⟨j, _, _, _, q4, _, q6, _⟩ := best_step h (by simpa using hc)
    rw [q6, List.length_cons, choose_len (sq_tail h) q4, List.length_cons]

/-! ### a choice's cost -/
/-! ### a row that is dearer for all columns -/
end Go.Proofs.YtgabchhplmncnaaGreatDoor
namespace Go.Proofs.YtgabchhplmncnaaGreatDoor
def bitsOf (s : Nat) : Nat → Bool := fun k => s.testBit k
theorem bit_del_small : ∀ s, s < 256 → ∀ k, k < 8 → s.testBit k = true → ∀ j, j < 8 → (s - 2 ^ k).testBit j = (s.testBit j && j != k) := by decide +kernel
theorem low_small : ∀ s, s < 256 → 0 < s → cntL (bitsOf (s &&& (s - 1))) 8 + 1 = cntL (bitsOf s) 8 ∧ s &&& (s - 1) < s := by decide +kernel
theorem bits_le {s k : Nat} (h : s.testBit k = true) : 2 ^ k ≤ s := Nat.ge_two_pow_of_testBit h
theorem bits_del {s k : Nat} (hs : s < 256) (hk : k < 8) (h : bitsOf s k = true) : bitsOf (s - 2 ^ k) = delC (bitsOf s) k := by
  funext j
  unfold bitsOf delC
  by_cases hj : j < 8
  · exact bit_del_small s hs k hk h j hj
  · show (s - 2 ^ k).testBit j = (s.testBit j && j != k)
    have h1 : s < 2 ^ j := Nat.lt_of_lt_of_le hs (Nat.pow_le_pow_right (n := 2) (by decide) (show 8 ≤ j by omega))
    rw [Nat.testBit_lt_two_pow h1, Nat.testBit_lt_two_pow (Nat.lt_of_le_of_lt (Nat.sub_le _ _) h1)]; rfl
theorem bits_full (n k : Nat) : bitsOf (2 ^ n - 1) k = decide (k < n) := Nat.testBit_two_pow_sub_one n k
theorem cnt_full (n : Nat) : ∀ (k : Nat), k ≤ n → cntL (bitsOf (2 ^ n - 1)) k = k
  | 0, _ => rfl
  | k + 1, h => by rw [cntL, cnt_full n k (by omega), if_pos (by rw [bits_full]; simp; omega)]
theorem cnt_beyond {s n : Nat} (h : s < 2 ^ n) : ∀ (k : Nat), n ≤ k → cntL (bitsOf s) k = cntL (bitsOf s) n
  | 0, q => by rw [show n = 0 by omega]
  | k + 1, q => by
    by_cases e : n = k + 1
    · rw [e]
    · rw [cntL, cnt_beyond h k (by omega), if_neg]; · rfl
      unfold bitsOf
      rw [Nat.testBit_lt_two_pow (Nat.lt_of_lt_of_le h (Nat.pow_le_pow_right (n := 2) (by decide) (show n ≤ k by omega)))]
      decide
theorem cnt_zero (n : Nat) : cntL (bitsOf 0) n = 0 := by
  induction n with
  | zero => rfl
  | succ n ih => rw [cntL, ih, if_neg (by unfold bitsOf; simp)]
theorem cnt_pos {s : Nat} (h : s < 256) (h0 : 0 < s) : 0 < cntL (bitsOf s) 8 := by have := (low_small s h h0).1; omega
end Go.Proofs.YtgabchhplmncnaaGreatDoor
namespace Go.Proofs.YtgabchhplmncnaaGreatDoor

/-- rows that may be, with bounded costs -/
def SqBd (n : Nat) (rows : List (List Int)) : Prop := ∀ row ∈ rows, row.length = n ∧ ∀ c ∈ row, 0 ≤ c ∧ c ≤ 100000
theorem SqBd.ok {n : Nat} {rows : List (List Int)} (h : SqBd n rows) : SqOk n rows := fun r hr => ⟨(h r hr).1, fun c hc => ((h r hr).2 c hc).1⟩
theorem SqBd.drop {n : Nat} {rows : List (List Int)} (h : SqBd n rows) (k : Nat) : SqBd n (rows.drop k) := fun r hr => h r (List.mem_of_mem_drop hr)
theorem SqBd.tail {n : Nat} {row : List Int} {rest : List (List Int)} (h : SqBd n (row :: rest)) : SqBd n rest := fun r hr => h r (List.mem_cons_of_mem _ hr)
theorem SqBd.at {n : Nat} {row : List Int} {rest : List (List Int)} (h : SqBd n (row :: rest)) (k : Nat) : 0 ≤ row.getD k 0 ∧ row.getD k 0 ≤ 100000 := by
  rw [List.getD_eq_getElem?_getD]
  cases e : row[k]? with
  | none => exact ⟨Int.le_refl _, by decide⟩
  | some c => exact (h row (List.mem_cons_self ..)).2 c (List.mem_of_getElem? e)
theorem best_le {n : Nat} : ∀ {rows : List (List Int)} {left : Nat → Bool}, SqBd n rows → rows.length ≤ cntL left n → 0 ≤ bestS rows left ∧ bestS rows left ≤ 100000 * rows.length
  | [], _, _, _ => ⟨Int.le_refl _, Int.le_refl _⟩
  | row :: rest, left, h, hc => by
    obtain ⟨j, _, _, q3, q4, _⟩ := best_step h.ok (by simpa using hc)
    have h1 := h.at j
    have h2 := best_le (left := delC left j) h.tail q4
    rw [q3, List.length_cons]
    omega
theorem cnt_le (left : Nat → Bool) : ∀ n, cntL left n ≤ n
  | 0 => Nat.le_refl _
  | n + 1 => by have := cnt_le left n; rw [cntL]; split <;> omega
/-- how many columns a set has -/
def cntN (s : Nat) : Nat := cntL (bitsOf s) 8
/-- the least cost of a set of columns for the last rows -/
def bestN (rows : List (List Int)) (s : Nat) : Int := bestS (rows.drop (rows.length - cntN s)) (bitsOf s)
theorem cntN_le {s n : Nat} (h : s < 2 ^ n) (hn : n ≤ 8) : cntN s ≤ n := by
  unfold cntN
  rw [cnt_beyond h 8 hn]
  exact cnt_le _ _
theorem cntN_zero : cntN 0 = 0 := cnt_zero 8
theorem cntN_full {n : Nat} (hn : n ≤ 8) : cntN (2 ^ n - 1) = n := by
  unfold cntN
  rw [cnt_beyond (n := n) (by have := Nat.two_pow_pos n; omega) 8 hn, cnt_full n n (Nat.le_refl _)]
theorem pow_small {s n : Nat} (h : s < 2 ^ n) (hn : n ≤ 8) : s < 256 := Nat.lt_of_lt_of_le h (Nat.pow_le_pow_right (n := 2) (by decide) hn)
theorem cntN_pos {s : Nat} (h : s < 256) (h0 : 0 < s) : 0 < cntN s := cnt_pos h h0
theorem cntN_low {s : Nat} (h : s < 256) (h0 : 0 < s) : cntN (s &&& (s - 1)) + 1 = cntN s ∧ s &&& (s - 1) < s := low_small s h h0
theorem cntN_del {s k : Nat} (h : s < 256) (hk : k < 8) (hb : bitsOf s k = true) : cntN (s - 2 ^ k) + 1 = cntN s ∧ 2 ^ k ≤ s := by
  unfold cntN
  rw [bits_del h hk hb]
  exact ⟨cnt_del (bitsOf s) hb 8 hk, bits_le hb⟩
theorem bestN_zero (rows : List (List Int)) : bestN rows 0 = 0 := by
  unfold bestN
  rw [cntN_zero, Nat.sub_zero, List.drop_length]; rfl
/-- a set with a column less: what the rows behind cost -/
theorem bestN_del {rows : List (List Int)} {s k r : Nat} (h : s < 256) (hk : k < 8) (hb : bitsOf s k = true) (hr : r + cntN s = rows.length) : bestN rows (s - 2 ^ k) = bestS (rows.drop (r + 1)) (delC (bitsOf s) k) := by
  have := (cntN_del h hk hb).1
  unfold bestN
  rw [bits_del h hk hb, show rows.length - cntN (s - 2 ^ k) = r + 1 by omega]
/-- and what they cost at most -/
theorem bestN_bd {rows : List (List Int)} {s : Nat} (hq : SqBd rows.length rows) (hn : rows.length ≤ 8) (h : s < 2 ^ rows.length) : 0 ≤ bestN rows s ∧ bestN rows s ≤ 800000 := by
  have hc := cntN_le h hn
  have := best_le (left := bitsOf s) (hq.drop (rows.length - cntN s)) (by rw [List.length_drop]; unfold cntN at *; rw [cnt_beyond h 8 hn] at hc ⊢; omega)
  unfold bestN
  rw [List.length_drop] at this
  omega
theorem bestN_step {rows : List (List Int)} {row : List Int} {s r : Nat} (hr : r + cntN s = rows.length) (hx : rows[r]? = some row) : bestN rows s = minGo (fun k => row.getD k 0 + bestS (rows.drop (r + 1)) (delC (bitsOf s) k)) (bitsOf s) row.length := by
  unfold bestN
  rw [show rows.length - cntN s = r by omega]
  obtain ⟨hk, e⟩ := List.getElem?_eq_some_iff.1 hx
  rw [List.drop_eq_getElem_cons hk, e, bestS]
/-! ### the numbers' bits -/
end Go.Proofs.YtgabchhplmncnaaGreatDoor
namespace Go.Proofs.YtgabchhplmncnaaGreatDoor

end Go.Proofs.YtgabchhplmncnaaGreatDoor
namespace Go.Proofs.YtgabchhplmncnaaGreatDoor

def toB (x : List UInt8) : ByteArray := ⟨x.toArray⟩
theorem toB_data (x : List UInt8) : (toB x).data.toList = x := by simp [toB]
theorem toB_of (s : ByteArray) : toB s.data.toList = s := by cases s; simp [toB]
theorem toB_append (x y : List UInt8) : toB (x ++ y) = toB x ++ toB y := by
  apply ByteArray.ext
  simp [toB, ByteArray.data_append]
theorem bytes_append (s t : ByteArray) : (s ++ t).data.toList = s.data.toList ++ t.data.toList := by simp [ByteArray.data_append]

theorem map_toB : ∀ l : List ByteArray, l.map (toB ∘ fun x => x.data.toList) = l
  | [] => rfl
  | x :: l => by rw [List.map_cons, map_toB l]; rfl
/-- what stands between separators -/
def parts (d : UInt8) : List UInt8 → List (List UInt8)
  | [] => [[]]
  | c :: r => if c = d then [] :: parts d r else (c :: (parts d r).headD []) :: (parts d r).tail
theorem parts_ne (d : UInt8) : ∀ s, parts d s ≠ []
  | [] => by simp [parts]
  | c :: r => by rw [parts]; split <;> simp
theorem parts_sep (d : UInt8) (r : List UInt8) : parts d (d :: r) = [] :: parts d r := by rw [parts, if_pos rfl]
theorem parts_other {d c : UInt8} (h : c ≠ d) {r h' : List UInt8} {t : List (List UInt8)} (e : parts d r = h' :: t) : parts d (c :: r) = (c :: h') :: t := by
  rw [parts, if_neg h, e]; rfl
theorem parts_cut {d : UInt8} : ∀ {a : List UInt8} (r : List UInt8), (∀ x ∈ a, x ≠ d) → parts d (a ++ d :: r) = a :: parts d r
  | [], r, _ => parts_sep d r
  | c :: _a, r, h => parts_other (h c (List.mem_cons_self ..)) (parts_cut r (fun x hx => h x (List.mem_cons_of_mem _ hx)))
theorem parts_none {d : UInt8} : ∀ {a : List UInt8}, (∀ x ∈ a, x ≠ d) → parts d a = [a]
  | [], _ => rfl
  | c :: _a, h => parts_other (h c (List.mem_cons_self ..)) (parts_none (fun x hx => h x (List.mem_cons_of_mem _ hx)))
theorem split_parts (d : UInt8) : ∀ s, Lib.split s [d] = parts d s
  | [] => by
    have : Lib.index [] [d] = -1 := rfl
    unfold Lib.split
    rw [Lib.count_miss this]; rfl
  | c :: r => by
    have ih := split_parts d r
    by_cases h : c = d
    · subst h
      have e : Lib.index (c :: r) [c] = (0 : Nat) := by rw [Lib.index_one]; simp [Lib.indexByte]
      unfold Lib.split at ih ⊢
      rw [Lib.count_hit (by simp) e, parts_sep, Nat.add_comm, Lib.splitK, if_neg (by rw [e]; decide), e]
      simp only [Int.toNat_natCast, Nat.zero_add, List.take_zero, List.length_cons, List.length_nil, List.drop_succ_cons, List.drop_zero]
      rw [ih]
    · have e : Lib.index (c :: r) [d] = if Lib.index r [d] == -1 then -1 else Lib.index r [d] + 1 := by
        rw [Lib.index_one, Lib.index_one, Lib.indexByte, if_neg (by simpa using h)]
      by_cases hm : Lib.index r [d] = -1
      · have e2 : Lib.index (c :: r) [d] = -1 := by rw [e, hm]; rfl
        unfold Lib.split at ih ⊢
        rw [Lib.count_miss hm] at ih
        rw [Lib.count_miss e2]
        exact (parts_other h ih.symm).symm
      · have hge := Lib.index_ge r [d]
        obtain ⟨i, hi⟩ : ∃ i : Nat, Lib.index r [d] = i := ⟨(Lib.index r [d]).toNat, by omega⟩
        have e2 : Lib.index (c :: r) [d] = ((i + 1 : Nat) : Int) := by
          rw [e, if_neg (by simpa using hm), hi]; rfl
        unfold Lib.split at ih ⊢
        rw [Lib.count_hit (by simp) hi, Nat.add_comm, Lib.splitK, if_neg (by rw [hi]; simp), hi] at ih
        rw [Lib.count_hit (by simp) e2, Nat.add_comm, Lib.splitK, if_neg (by rw [e2]; intro hh; have := eq_of_beq hh; omega), e2]
        simp only [Int.toNat_natCast, List.length_cons, List.length_nil] at ih ⊢
        rw [parts_other h ih.symm]
        rfl
theorem splitB_parts (d : UInt8) (s : ByteArray) : Lib.splitB ⟨#[d]⟩ 0 (Lib.countB s ⟨#[d]⟩) s = (parts d s.data.toList).map toB := by
  have e := Lib.splitB_data ⟨#[d]⟩ 0 (Lib.countB s ⟨#[d]⟩) s
  have e2 : Lib.splitK [d] 0 (Lib.countB s ⟨#[d]⟩) s.data.toList = parts d s.data.toList := split_parts d _
  have e3 : ((Lib.splitB ⟨#[d]⟩ 0 (Lib.countB s ⟨#[d]⟩) s).map (·.data.toList)).map toB = Lib.splitB ⟨#[d]⟩ 0 (Lib.countB s ⟨#[d]⟩) s := by
    rw [List.map_map]
    exact map_toB _
  rw [← e3, e]
  congr 1

/-! ### texts -/
/-! ### paths -/
def letterB (c : UInt8) : Bool := decide (97 ≤ c.toNat) && decide (c.toNat ≤ 122) || decide (48 ≤ c.toNat) && decide (c.toNat ≤ 57) || decide (c.toNat = 46) || decide (c.toNat = 45)
def nameOk (x : List UInt8) : Bool := !(x == []) && !(x == [46]) && !(x == [46, 46]) && x.all letterB
def pathFault (s : ByteArray) : Int := if 20 < s.size then 3 else if (parts 47 s.data.toList).all nameOk then 0 else 5
end Go.Proofs.YtgabchhplmncnaaGreatDoor
namespace Go.Proofs.YtgabchhplmncnaaGreatDoor

/-! ### numbers -/
def dec3 (n : Nat) : List UInt8 :=
  if n < 10 then [UInt8.ofNat (48 + n)] else if n < 100 then [UInt8.ofNat (48 + n / 10), UInt8.ofNat (48 + n % 10)] else [UInt8.ofNat (48 + n / 10 / 10), UInt8.ofNat (48 + n / 10 % 10), UInt8.ofNat (48 + n % 10)]
theorem digits_three {n : Nat} (h : n < 1000) : Lib.decDigits n = dec3 n := by
  unfold dec3
  by_cases h1 : n < 10
  · rw [if_pos h1, Lib.decDigits_one h1]
  · rw [if_neg h1]
    by_cases h2 : n < 100
    · rw [if_pos h2, Lib.decDigits_two h1 h2]
    · rw [if_neg h2, Lib.decDigits, dif_neg h1, Lib.decDigits_two (by omega) (by omega)]
      rfl
theorem dec3_chars : ∀ n, n < 1000 → (dec3 n).all (fun c => decide (48 ≤ c.toNat) && decide (c.toNat ≤ 57)) = true := by decide +kernel
theorem dec3_len : ∀ n, n < 1000 → (dec3 n).length ≤ 3 := by decide +kernel
theorem dec_digit {n : Nat} (h : n < 1000) {c : UInt8} (hc : c ∈ Lib.decDigits n) : 48 ≤ c.toNat ∧ c.toNat ≤ 57 := by
  rw [digits_three h] at hc
  have := List.all_eq_true.1 (dec3_chars n h) c hc
  simpa using this

/-! ### cuts -/
/-! ### spans, heads -/
def spanL (ahead : Int) (many : Nat) : List UInt8 := Lib.itoa (if 0 < many then ahead + 1 else ahead) ++ [44] ++ Lib.itoa many
theorem itoa_nat (n : Nat) : Lib.itoa n = Lib.decDigits n := by
  unfold Lib.itoa
  rw [if_neg (by omega)]; rfl
def atAt : List UInt8 := [64, 64, 32, 45]
def endAt : List UInt8 := [32, 64, 64]
def headL (a : Int) (x : Nat) (b : Int) (y : Nat) : List UInt8 := atAt ++ (spanL a x ++ [32, 43] ++ spanL b y ++ endAt)
theorem span_chars {a : Int} {m : Nat} (h0 : 0 ≤ a) (h1 : a < 999) (hm : m < 1000) {c : UInt8} (hc : c ∈ spanL a m) : c.toNat = 44 ∨ (48 ≤ c.toNat ∧ c.toNat ≤ 57) := by
  obtain ⟨x, hx, hx3⟩ : ∃ x : Nat, (if 0 < m then a + 1 else a) = (x : Int) ∧ x < 1000 := ⟨(if 0 < m then a + 1 else a).toNat, by split <;> omega, by split <;> omega⟩
  unfold spanL at hc
  rw [hx, itoa_nat, itoa_nat] at hc
  rcases List.mem_append.1 hc with hc | hc
  · rcases List.mem_append.1 hc with hc | hc
    · exact .inr (dec_digit hx3 hc)
    · rw [List.mem_singleton.1 hc]; exact .inl rfl
  · exact .inr (dec_digit hm hc)
end Go.Proofs.YtgabchhplmncnaaGreatDoor
namespace Go.Proofs.YtgabchhplmncnaaGreatDoor

def signOf (m : Mark) : UInt8 := UInt8.ofNat m.sign.toNat
def markL (m : Mark) : List UInt8 := signOf m :: m.text.data.toList
def hunkL (h : Hunk) : List (List UInt8) := headL h.old (oldN h.marks) h.new (newN h.marks) :: h.marks.map markL
def linesU (l : List Hunk) : List (List UInt8) := l.flatMap hunkL
def textL (l : List (List UInt8)) : List UInt8 := (l.map fun x => x ++ [10]).flatten
def textU (l : List Hunk) : List UInt8 := textL (linesU l)
def SignOk (m : Mark) : Prop := m.sign = 32 ∨ m.sign = 45 ∨ m.sign = 43
theorem oldN_cons (m : Mark) (ms : List Mark) : oldN (m :: ms) = (if m.sign ≠ 43 then 1 else 0) + oldN ms := by
  unfold oldN those
  rw [List.filter_cons]
  by_cases h : m.sign = 43
  · rw [if_neg (by simp [h]), if_neg (by simp [h]), Nat.zero_add]
  · rw [if_pos (by simp [h]), if_pos h, List.map_cons, List.length_cons, Nat.add_comm]
theorem newN_cons (m : Mark) (ms : List Mark) : newN (m :: ms) = (if m.sign ≠ 45 then 1 else 0) + newN ms := by
  unfold newN those
  rw [List.filter_cons]
  by_cases h : m.sign = 45
  · rw [if_neg (by simp [h]), if_neg (by simp [h]), Nat.zero_add]
  · rw [if_pos (by simp [h]), if_pos h, List.map_cons, List.length_cons, Nat.add_comm]
/-- a hunk that may be written -/
def HeadOk (h : Hunk) : Prop := 0 ≤ h.old ∧ h.old < 999 ∧ 0 ≤ h.new ∧ h.new < 999 ∧ oldN h.marks < 1000 ∧ newN h.marks < 1000 ∧ ∀ m ∈ h.marks, SignOk m
/-! ### what is read was written so -/
end Go.Proofs.YtgabchhplmncnaaGreatDoor
namespace Go.Proofs.YtgabchhplmncnaaGreatDoor

theorem parts_text : ∀ (ls : List (List UInt8)) (r : List UInt8), (∀ x ∈ ls, ∀ c ∈ x, c ≠ 10) → parts 10 (textL ls ++ r) = ls ++ parts 10 r
  | [], _, _ => rfl
  | x :: ls, r, h => by
    have e : textL (x :: ls) ++ r = x ++ 10 :: (textL ls ++ r) := by
      show (x ++ [10] ++ textL ls) ++ r = _
      simp
    rw [e, parts_cut _ (h x (List.mem_cons_self ..)), parts_text ls r fun y hy => h y (List.mem_cons_of_mem _ hy)]
    rfl
/-! ### hunks that may be -/
theorem mark_ok {m : Mark} (h : markFault m = 0) : SignOk m ∧ (∀ c ∈ m.text.data.toList, c ≠ 10) ∧ m.text.size ≤ 80 := by
  unfold markFault at h
  by_cases hs : m.sign ≠ 32 ∧ m.sign ≠ 45 ∧ m.sign ≠ 43
  · rw [if_pos hs] at h; cases h
  · rw [if_neg hs] at h
    unfold lineFault at h
    cases hn : hasNl m.text with
    | true => rw [hn] at h; cases h
    | false =>
      rw [hn] at h
      refine ⟨?_, fun c hc e => ?_, ?_⟩
      · unfold SignOk
        by_cases h1 : m.sign = 32
        · exact .inl h1
        · by_cases h2 : m.sign = 45
          · exact .inr (.inl h2)
          · by_cases h3 : m.sign = 43
            · exact .inr (.inr h3)
            · exact absurd ⟨h1, h2, h3⟩ hs
      · subst e
        unfold hasNl at hn
        rw [List.contains_iff_mem.2 hc] at hn; cases hn
      · by_cases hz : 80 < m.text.size
        · rw [if_neg (by decide), if_pos hz] at h; cases h
        · omega
theorem marks_ok {ms : List Mark} (h : scriptFault ms = 0) : ∀ m ∈ ms, markFault m = 0 := by
  unfold scriptFault at h
  by_cases hl : 120 < ms.length
  · rw [if_pos hl] at h; cases h
  · rw [if_neg hl] at h
    exact (firstOf_zero markFault ms).1 h
theorem one_ok {h : Hunk} {fin more : Int} (e : oneFault h fin more = 0) : (∀ m ∈ h.marks, markFault m = 0) ∧ 0 ≤ h.old ∧ 0 ≤ h.new ∧ h.old + oldN h.marks ≤ 60 ∧ h.new + newN h.marks ≤ 60 ∧ fin ≤ h.old ∧ h.new = h.old + more := by
  unfold oneFault at e
  by_cases h1 : scriptFault h.marks ≠ 0
  · rw [if_pos h1] at e; exact absurd e h1
  · rw [if_neg h1] at e
    by_cases h2 : hasChange h.marks = false
    · rw [if_pos h2] at e; cases e
    · rw [if_neg h2] at e
      by_cases h3 : h.old < 0 ∨ 60 < h.old ∨ h.new < 0 ∨ 60 < h.new ∨ 60 < h.old + oldN h.marks ∨ 60 < h.new + newN h.marks
      · rw [if_pos h3] at e; cases e
      · rw [if_neg h3] at e
        by_cases h4 : h.old < fin ∨ h.new ≠ h.old + more
        · rw [if_pos h4] at e; cases e
        · refine ⟨marks_ok (by simpa using h1), ?_, ?_, ?_, ?_, ?_, ?_⟩ <;> omega
theorem one_head {h : Hunk} {fin more : Int} (e : oneFault h fin more = 0) : HeadOk h := by
  obtain ⟨q1, q2, q3, q4, q5, _⟩ := one_ok e
  exact ⟨q2, by omega, q3, by omega, by omega, by omega, fun m hm => (mark_ok (q1 m hm)).1⟩
theorem dec_len {n : Nat} (h : n < 1000) : (Lib.decDigits n).length ≤ 3 := by rw [digits_three h]; exact dec3_len n h
theorem span_len {a : Int} {m : Nat} (h0 : 0 ≤ a) (h1 : a < 999) (hm : m < 1000) : (spanL a m).length ≤ 7 := by
  obtain ⟨x, hx, hx3⟩ : ∃ x : Nat, (if 0 < m then a + 1 else a) = (x : Int) ∧ x < 1000 := ⟨(if 0 < m then a + 1 else a).toNat, by split <;> omega, by split <;> omega⟩
  unfold spanL
  rw [hx, itoa_nat, itoa_nat, List.length_append, List.length_append]
  have := dec_len hx3
  have := dec_len hm
  simp only [List.length_singleton]
  omega
theorem head_len {h : Hunk} (hh : HeadOk h) : (headL h.old (oldN h.marks) h.new (newN h.marks)).length ≤ 23 := by
  obtain ⟨h1, h2, h3, h4, h5, h6, _⟩ := hh
  have := span_len h1 h2 h5
  have := span_len h3 h4 h6
  unfold headL atAt endAt
  simp only [List.length_append, List.length_cons, List.length_nil]
  omega
theorem marks_len : ∀ (ms : List Mark), (∀ m ∈ ms, markFault m = 0) → (textL (ms.map markL)).length ≤ 82 * (oldN ms + newN ms)
  | [], _ => by simp [textL]
  | m :: ms, h => by
    have ih := marks_len ms fun k hk => h k (List.mem_cons_of_mem _ hk)
    obtain ⟨q1, _, q3⟩ := mark_ok (h m (List.mem_cons_self ..))
    have e : (textL ((m :: ms).map markL)).length = m.text.size + 2 + (textL (ms.map markL)).length := by
      show (markL m ++ [10] ++ textL (ms.map markL)).length = _
      unfold markL
      simp only [List.length_append, List.length_cons, List.length_nil, Array.length_toList, ByteArray.size_data]
    rw [e, oldN_cons, newN_cons]
    have : 1 ≤ (if m.sign ≠ 43 then 1 else 0) + (if m.sign ≠ 45 then 1 else 0) := by
      rcases q1 with q | q | q <;> rw [q] <;> decide
    omega
theorem textL_app (a b : List (List UInt8)) : textL (a ++ b) = textL a ++ textL b := by unfold textL; rw [List.map_append, List.flatten_append]
theorem hunk_len {h : Hunk} {fin more : Int} (e : oneFault h fin more = 0) : (textL (hunkL h)).length ≤ 24 + 82 * (oldN h.marks + newN h.marks) := by
  have h1 := head_len (one_head e)
  have h2 := marks_len h.marks (one_ok e).1
  have : (textL (hunkL h)).length = (headL h.old (oldN h.marks) h.new (newN h.marks)).length + 1 + (textL (h.marks.map markL)).length := by
    show (headL h.old (oldN h.marks) h.new (newN h.marks) ++ [10] ++ textL (h.marks.map markL)).length = _
    simp only [List.length_append, List.length_singleton]
  omega
theorem go_ok : ∀ (l : List Hunk) (i : Nat) (fin more : Int), fin ≤ 60 → fin + more ≤ 60 → (hunksGo i fin more l).2 = 0 →
    (∀ h ∈ l, HeadOk h) ∧ (∀ x ∈ linesU l, ∀ c ∈ x, c ≠ 10) ∧ ((textL (linesU l)).length : Int) ≤ 24 * l.length + 82 * ((60 - fin) + (60 - fin - more))
  | [], _, fin, more, h1, h2, _ => ⟨fun _ h => (by cases h), fun _ h => (by cases h), by show (0 : Int) ≤ 24 * 0 + _; omega⟩
  | h :: l, i, fin, more, h1, h2, e => by
    rw [hunksGo] at e
    by_cases h0 : oneFault h fin more = 0
    · rw [if_pos h0] at e
      obtain ⟨q1, q2, q3, q4, q5, q6, q7⟩ := one_ok h0
      obtain ⟨i1, i2, i3⟩ := go_ok l (i + 1) (h.old + oldN h.marks) (more + newN h.marks - oldN h.marks) (by omega) (by omega) e
      have hl := hunk_len h0
      have eu : linesU (h :: l) = hunkL h ++ linesU l := rfl
      refine ⟨fun k hk => ?_, fun x hx c hc => ?_, ?_⟩
      · rcases List.mem_cons.1 hk with rfl | hk
        · exact one_head h0
        · exact i1 k hk
      · rw [eu] at hx
        rcases List.mem_append.1 hx with hx | hx
        · obtain ⟨a1, a2, a3, a4, a5, a6, a7⟩ := one_head h0
          rcases List.mem_cons.1 hx with rfl | hx
          · have dig : ∀ {a : Int} {m : Nat}, 0 ≤ a → a < 999 → m < 1000 → ∀ d ∈ spanL a m, d ≠ 10 := fun b0 b1 b2 d hd e => by
              have := span_chars b0 b1 b2 hd
              rw [e] at this
              exact absurd this (by decide)
            unfold headL atAt endAt at hc
            intro e
            rcases List.mem_append.1 hc with hc | hc
            · rw [e] at hc; exact absurd hc (by decide)
            · rcases List.mem_append.1 hc with hc | hc
              · rcases List.mem_append.1 hc with hc | hc
                · rcases List.mem_append.1 hc with hc | hc
                  · exact dig a1 a2 a5 c hc e
                  · rw [e] at hc; exact absurd hc (by decide)
                · exact dig a3 a4 a6 c hc e
              · rw [e] at hc; exact absurd hc (by decide)
          · obtain ⟨m, hm, rfl⟩ := List.mem_map.1 hx
            obtain ⟨s1, s2, _⟩ := mark_ok (q1 m hm)
            rcases List.mem_cons.1 hc with rfl | hc
            · unfold signOf
              rcases s1 with s | s | s <;> rw [s] <;> decide
            · exact s2 c hc
        · exact i2 x hx c hc
      · rw [eu, textL_app, List.length_append, List.length_cons]
        omega
    · rw [if_neg h0] at e
      exact absurd e h0
theorem hunks_ok {l : List Hunk} (e : (hunksFault l).2 = 0) : (∀ h ∈ l, HeadOk h) ∧ (∀ x ∈ linesU l, ∀ c ∈ x, c ≠ 10) ∧ (textU l).length ≤ 400000 := by
  unfold hunksFault at e
  by_cases hl : 60 < l.length
  · rw [if_pos hl] at e; cases e
  · rw [if_neg hl] at e
    obtain ⟨h1, h2, h3⟩ := go_ok l 0 0 0 (by decide) (by decide) e
    refine ⟨h1, h2, ?_⟩
    show (textL (linesU l)).length ≤ _
    omega
end Go.Proofs.YtgabchhplmncnaaGreatDoor
namespace Go.Proofs.YtgabchhplmncnaaGreatDoor

def noneL : List UInt8 := [47, 100, 101, 118, 47, 110, 117, 108, 108]
def mmL : List UInt8 := [45, 45, 45, 32]
def ppL : List UInt8 := [43, 43, 43, 32]
def fromL (w : Int) (p : List UInt8) : List UInt8 := if w = 2 then noneL else [97, 47] ++ p
def toL (w : Int) (p : List UInt8) : List UInt8 := if w = 3 then noneL else [98, 47] ++ p
def changeL (c : Change) : List (List UInt8) := (mmL ++ fromL c.what c.path.data.toList) :: (ppL ++ toL c.what c.path.data.toList) :: linesU c.hunks
def linesG (p : List Change) : List (List UInt8) := p.flatMap changeL
end Go.Proofs.YtgabchhplmncnaaGreatDoor
