/-
  PARTS: GENERAL LAWS ON WORLDS AND DATA: which blocks a call may have changed ('Chg'), and what a row of cells reads as ('Dat'). No program in sight.; WHAT THE FUNCTIONS OF THE LAYERS 1 TO 4 COMPUTE, in plain Lean: lines, scripts, hunks. No program in sight.; WHAT A ROW OF CELLS READS AS: 'Dat', for the types of this program. No program in sight.; FROM A LAW's WALK TO ITS STATEMENT: how the arguments read ('Opens'), and what is to be said behind the call ('post_law').; THE WALKS OF LAYER 1: One, Check, Texts.; errors.As AT AN Errno, and plain.Told: of nil OK, of an Errno it.; WHAT ALL CARDS OF A DOOR SEAT WANT: the listed variable's cell, a world that meets the condition.; WHAT THE CARDS WANT WHERE utf8's TABLES ARE LISTED: the variables' cells, a world that meets the condition.; THE PACKAGE VARIABLES that strconv and strings read, as the walks want them.; WHAT THE CARDS WANT WHERE strconv's TABLES AND ERRORS ARE LISTED: the variables' cells, a world that meets the condition.; THE ERRORS' CELLS OF strconv AT A CALL.; WHAT THE CARDS WANT WHERE strconv's TABLES AND ERRORS AND errors.errorType ARE LISTED.; HOW ARGUMENTS READ: files, changes, and a struct that is an argument by itself.; TEXTS AS LINES, PATHS, in plain Lean (chapter 1).; ROWS OF BYTES: an element's cell; as a string, and a string as bytes.; HUNKS AS TEXTS, in plain Lean (chapter 5): numbers, spans, heads; lines written and read.; BYTES AS LETTERS, in plain Lean: what is written is read; 57 bytes more ahead are a line more ahead.; MAILS AS TEXTS, in plain Lean (chapter 12): one mail.
-/
import Derived.WalkKit
import Derived.Deep.Draws
import GoSem.Core.Value
import Derived.Test.YtjiaidchcldocaaGreatDoorRows
import Derived.ProofKit
import Derived.OpenShut
import Derived.JoinedCond
import Derived.Deep.Slices
import Derived.Deep.Strs
import Derived.Test.YtjiaidchcldocaaGreatDoorPfShelf
import Derived.WalkLawsBesides
import Derived.WalkSpells
import Derived.Deep.QuietTactic
import Derived.BigQuiet
import Derived.Lib.Hide
import Derived.Stop.Asserts
import Derived.RowKitTokens
import Derived.LaidEql
import Derived.Test.YtjiaidchcldocaaGreatDoorCards
import Derived.Test.YtjiaidchcldocaaGreatDoorTie
import Derived.Deep.DeepHandedRow
import Derived.LaidLaws
import Derived.LaidHandle
import Derived.ChangeMaps5
import Derived.Lib.AppendIntMem
import Derived.Lib.LaidTab
import Derived.LaidSub
import Derived.ChangeSame
import Derived.Lib.Split
import Derived.Laws.IdiomStrings
import Derived.Laws.BytesArg
import Derived.Lib.ItoaNum
import Derived.Lib.AtoiTie
set_option linter.unusedVariables false
set_option linter.unusedSimpArgs false
namespace Go.Proofs.YtjiaidchcldocaaGreatDoor
open Go.RowKit

structure Chg (O : Nat → Prop) (w w' : World) : Prop where
  os : w'.os = w.os
  tape : w'.tape = w.tape
  output : w'.output = w.output
  size : w.heap.size ≤ w'.heap.size
  block : ∀ k, k < w.heap.size → ¬ O k → w'.heap[k]? = w.heap[k]?

def Never : Nat → Prop := fun _ => False
def From (B : Nat) : Nat → Prop := fun k => B ≤ k
def Old (B : Nat) : Nat → Prop := fun k => k < B
def OwnB (v : Value) : Nat → Prop := fun k => v.ownBlock = some k

theorem Chg.refl (O : Nat → Prop) (w : World) : Chg O w w := ⟨rfl, rfl, rfl, Nat.le_refl _, fun _ _ _ => rfl⟩
theorem Chg.trans {O : Nat → Prop} {a b c : World} (h : Chg O a b) (k : Chg O b c) : Chg O a c :=
  ⟨k.os.trans h.os, k.tape.trans h.tape, k.output.trans h.output, Nat.le_trans h.size k.size,
    fun i hi ho => (k.block i (Nat.lt_of_lt_of_le hi h.size) ho).trans (h.block i hi ho)⟩
theorem Chg.mono {O O' : Nat → Prop} {w w' : World} (h : Chg O w w') (hO : ∀ k, k < w.heap.size → O k → O' k) : Chg O' w w' :=
  ⟨h.os, h.tape, h.output, h.size, fun k hk hn => h.block k hk (fun ho => hn (hO k hk ho))⟩
theorem Chg.trans' {O O' : Nat → Prop} {a b c : World} (h : Chg O a b) (k : Chg O' b c) (hO : ∀ i, i < a.heap.size → O' i → O i) : Chg O a c :=
  ⟨k.os.trans h.os, k.tape.trans h.tape, k.output.trans h.output, Nat.le_trans h.size k.size,
    fun i hi ho => (k.block i (Nat.lt_of_lt_of_le hi h.size) (fun hx => ho (hO i hi hx))).trans (h.block i hi ho)⟩
theorem Chg.drew {O : Nat → Prop} {a w : World} (h : Chg O a w) : Chg O a w.drew := ⟨h.os, h.tape, h.output, h.size, h.block⟩
theorem Chg.drewN {O : Nat → Prop} {a w : World} (h : Chg O a w) (n : Nat) : Chg O a (w.drewN n) := ⟨h.os, h.tape, h.output, h.size, h.block⟩
theorem Chg.alloc {O : Nat → Prop} {a w : World} (h : Chg O a w) (o : Obj) : Chg O a (w.alloc o) :=
  ⟨h.os, h.tape, h.output, Nat.le_trans h.size (by simp), fun k hk hn => by rw [Below.heap_alloc _ _ _ (Nat.lt_of_lt_of_le hk h.size)]; exact h.block k hk hn⟩
theorem Chg.setCell {O : Nat → Prop} {a w : World} (h : Chg O a w) {p : Addr} (hp : a.heap.size ≤ p.block ∨ O p.block) (u : Value) : Chg O a (w.setCell p u) :=
  ⟨h.os, h.tape, h.output, by simpa [World.setCell] using h.size, fun k hk hn => by
    rw [Below.heap_setCell _ _ _ _ (by rintro rfl; rcases hp with hp | hp; · omega
                                       · exact hn hp)]
    exact h.block k hk hn⟩
theorem Chg.of_grown {w w' : World} {row : Option Nat} (h : w.grownBy w' row) : Chg (fun k => row = some k) w w' :=
  ⟨h.os, h.tape, h.output, h.size, fun k hk hn => h.block k hk (fun e => hn e.symm)⟩
theorem Chg.of_below {w w' : World} (h : Below w.heap.size w w') : Chg Never w w' :=
  ⟨h.os, h.tape, h.output, h.size, fun k hk _ => h.block k hk⟩
theorem Chg.never {w w' : World} (h : Chg Never w w') : Below w.heap.size w w' :=
  ⟨h.os, h.tape, h.output, h.size, fun k hk => h.block k hk (fun x => x)⟩
theorem Chg.cell {O : Nat → Prop} {w w' : World} (h : Chg O w w') {p : Addr} {v : Value} (hc : w.cell? p = some v) (hp : ¬ O p.block) : w'.cell? p = some v := by
  have hlt := World.block_lt_of_cell? w p hc
  rw [← hc]; exact World.cell?_of_block (h.block _ hlt hp)
theorem Chg.cellNever {w w' : World} (h : Chg Never w w') {p : Addr} {v : Value} (hc : w.cell? p = some v) : w'.cell? p = some v := h.cell hc (fun x => x)
theorem Chg.frozen {O : Nat → Prop} {w w' : World} (h : Chg O w w') {p : Addr} (hlt : p.block < w.heap.size) (hp : ¬ O p.block) : w'.frozen? p = w.frozen? p :=
  World.frozen?_of_block (h.block _ hlt hp)
end Go.Proofs.YtjiaidchcldocaaGreatDoor
namespace Go.Proofs.YtjiaidchcldocaaGreatDoor

structure Mark where
  sign : Int
  text : ByteArray
  deriving DecidableEq
structure Hunk where
  old : Int
  new : Int
  marks : List Mark
  deriving DecidableEq
structure File where
  path : ByteArray
  lines : List ByteArray
  deriving DecidableEq
structure Change where
  what : Int
  path : ByteArray
  hunks : List Hunk
  deriving DecidableEq
structure Mail where
  sender : ByteArray
  subject : ByteArray
  ident : ByteArray
  body : List UInt8
  deriving DecidableEq

def firstOf {α : Type} (f : α → Int) : List α → Int
  | [] => 0
  | x :: r => if f x = 0 then firstOf f r else f x

theorem firstOf_zero {α : Type} (f : α → Int) : ∀ l : List α, firstOf f l = 0 ↔ ∀ x ∈ l, f x = 0
  | [] => by simp [firstOf]
  | x :: r => by
    simp only [firstOf, List.mem_cons, forall_eq_or_imp]
    by_cases h : f x = 0
    · simp [h, firstOf_zero f r]
    · simp [h]

def hasNl (s : ByteArray) : Bool := s.data.toList.contains 10
def lineFault (s : ByteArray) : Int := if hasNl s then 2 else if 80 < s.size then 3 else 0
def linesFault (l : List ByteArray) : Int := if 60 < l.length then 3 else firstOf lineFault l
def markFault (m : Mark) : Int := if m.sign ≠ 32 ∧ m.sign ≠ 45 ∧ m.sign ≠ 43 then 1 else lineFault m.text
def scriptFault (s : List Mark) : Int := if 120 < s.length then 3 else firstOf markFault s

def those (s : List Mark) (no : Int) : List ByteArray := (s.filter fun m => m.sign ≠ no).map (·.text)
def oldOf (s : List Mark) : List ByteArray := those s 43
def newOf (s : List Mark) : List ByteArray := those s 45
def changes (s : List Mark) : Nat := (s.filter fun m => m.sign ≠ 32).length

def far : List ByteArray → List ByteArray → Nat
  | [], b => b.length
  | x :: a, [] => (x :: a).length
  | x :: a, y :: b => if x = y then far a b else 1 + min (far a (y :: b)) (far (x :: a) b)
termination_by a b => a.length + b.length

def script : List ByteArray → List ByteArray → List Mark
  | [], [] => []
  | x :: a, [] => ⟨45, x⟩ :: script a []
  | [], y :: b => ⟨43, y⟩ :: script [] b
  | x :: a, y :: b =>
    if x = y then ⟨32, x⟩ :: script a b
    else if far a (y :: b) + 1 = far (x :: a) (y :: b) then ⟨45, x⟩ :: script a (y :: b)
    else ⟨43, y⟩ :: script (x :: a) b
termination_by a b => a.length + b.length

def oldN (s : List Mark) : Nat := (those s 43).length
def newN (s : List Mark) : Nat := (those s 45).length
def hasChange (s : List Mark) : Bool := s.any fun m => m.sign ≠ 32
def oneFault (h : Hunk) (fin more : Int) : Int :=
  if scriptFault h.marks ≠ 0 then scriptFault h.marks
  else if hasChange h.marks = false then 4
  else if h.old < 0 ∨ 60 < h.old ∨ h.new < 0 ∨ 60 < h.new ∨ 60 < h.old + oldN h.marks ∨ 60 < h.new + newN h.marks then 1
  else if h.old < fin ∨ h.new ≠ h.old + more then 2
  else 0
def hunksGo : Nat → Int → Int → List Hunk → Nat × Int
  | _, _, _, [] => (0, 0)
  | i, fin, more, h :: r => if oneFault h fin more = 0 then hunksGo (i + 1) (h.old + oldN h.marks) (more + newN h.marks - oldN h.marks) r else (i, oneFault h fin more)
def hunksFault (l : List Hunk) : Nat × Int := if 60 < l.length then (0, 3) else hunksGo 0 0 0 l
end Go.Proofs.YtjiaidchcldocaaGreatDoor
namespace Go.Proofs.YtjiaidchcldocaaGreatDoor
open Go.RowKit

class Dat (α : Type) where
  n : Nat
  rd : World → (Nat → Prop) → List Value → α → Prop
  bulk : α → Nat
  pos : 0 < n
  len : ∀ {w O cs x}, rd w O cs x → cs.length = n
  one : ∀ {w O cs x}, rd w O cs x → ∀ u ∈ cs, u.oneCell' = true
  keep : ∀ {w w' : World} {O O' O'' : Nat → Prop} {cs x}, rd w O cs x → Chg O' w w' → (∀ k, k < w.heap.size → O' k → O k) → (∀ k, k < w.heap.size → O'' k → O k) → rd w' O'' cs x

def Rdv {α : Type} [Dat α] (w : World) (O : Nat → Prop) (v : Value) (x : α) : Prop := Dat.rd w O [v] x

theorem Dat.never {α : Type} [Dat α] {w w' : World} {O : Nat → Prop} {cs : List Value} {x : α} (h : Dat.rd w O cs x) (hc : Chg Never w w') : Dat.rd w' O cs x :=
  Dat.keep h hc (fun _ _ h => h.elim) (fun _ _ h => h)
theorem Rdv.never {α : Type} [Dat α] {w w' : World} {O : Nat → Prop} {v : Value} {x : α} (h : Rdv w O v x) (hc : Chg Never w w') : Rdv w' O v x := Dat.never h hc
theorem Rdv.keep {α : Type} [Dat α] {w w' : World} {O O' O'' : Nat → Prop} {v : Value} {x : α} (h : Rdv w O v x) (hc : Chg O' w w') (h1 : ∀ k, k < w.heap.size → O' k → O k) (h2 : ∀ k, k < w.heap.size → O'' k → O k) : Rdv w' O'' v x := Dat.keep h hc h1 h2
theorem Rdv.sub {α : Type} [Dat α] {w : World} {O O' : Nat → Prop} {v : Value} {x : α} (h : Rdv w O v x) (h2 : ∀ k, k < w.heap.size → O' k → O k) : Rdv w O' v x := Dat.keep h (Chg.refl Never w) (fun _ _ h => h.elim) h2

def I64 (x : Int) : Prop := -9223372036854775808 ≤ x ∧ x ≤ 9223372036854775807
instance : Dat Int where
  n := 1
  rd _ _ cs x := cs = [.int .i64 x] ∧ I64 x
  bulk _ := 1
  pos := by decide
  len := by rintro _ _ _ _ ⟨rfl, _⟩; rfl
  one := by rintro _ _ _ _ ⟨rfl, _⟩ u hu; simp at hu; subst hu; rfl
  keep := by intro _ _ _ _ _ _ _ h _ _ _; exact h
instance : Dat Bool where
  n := 1
  rd _ _ cs x := cs = [.bool x]
  bulk _ := 1
  pos := by decide
  len := by rintro _ _ _ _ rfl; rfl
  one := by rintro _ _ _ _ rfl u hu; simp at hu; subst hu; rfl
  keep := by intro _ _ _ _ _ _ _ h _ _ _; exact h
instance : Dat UInt8 where
  n := 1
  rd _ _ cs x := cs = [.int .u8 x.toNat]
  bulk _ := 1
  pos := by decide
  len := by rintro _ _ _ _ rfl; rfl
  one := by rintro _ _ _ _ rfl u hu; simp at hu; subst hu; rfl
  keep := by intro _ _ _ _ _ _ _ h _ _ _; exact h
instance : Dat ByteArray where
  n := 1
  rd _ _ cs x := cs = [.string x] ∧ x.size ≤ maxLen
  bulk x := x.size + 1
  pos := by decide
  len := by rintro _ _ _ _ ⟨rfl, _⟩; rfl
  one := by rintro _ _ _ _ ⟨rfl, _⟩ u hu; simp at hu; subst hu; rfl
  keep := by intro _ _ _ _ _ _ _ h _ _ _; exact h
instance : Dat Mark where
  n := 2
  rd _ _ cs m := cs = [.int .u8 m.sign, .string m.text] ∧ 0 ≤ m.sign ∧ m.sign < 256 ∧ m.text.size ≤ maxLen
  bulk m := m.text.size + 3
  pos := by decide
  len := by rintro _ _ _ _ ⟨rfl, _⟩; rfl
  one := by rintro _ _ _ _ ⟨rfl, _⟩ u hu; simp at hu; rcases hu with rfl | rfl <;> rfl
  keep := by intro _ _ _ _ _ _ _ h _ _ _; exact h

def CellsAt (w : World) (b off : Nat) (es : List Value) : Prop := ∀ (j : Nat) (u : Value), es[j]? = some u → w.cell? ⟨b, off + j, none⟩ = some u

theorem CellsAt.lt {w : World} {b off : Nat} {es : List Value} (h : CellsAt w b off es) (hn : 0 < es.length) : b < w.heap.size :=
  World.block_lt_of_cell? w ⟨b, off + 0, none⟩ (h 0 es[0] (by simp [hn]))
theorem CellsAt.keep {w w' : World} {O : Nat → Prop} {b off : Nat} {es : List Value} (h : CellsAt w b off es) (hc : Chg O w w') (hb : ¬ O b) : CellsAt w' b off es :=
  fun j u hj => hc.cell (p := ⟨b, off + j, none⟩) (h j u hj) hb

def Elems {α : Type} [Dat α] (w : World) (O : Nat → Prop) (a : Option Addr) (l : List α) : Prop :=
  ∀ (i : Nat) (x : α), l[i]? = some x → ∃ b off es, a = some ⟨b, off, none⟩ ∧ ¬ O b ∧ CellsAt w b (off + i * Dat.n α) es ∧ Dat.rd w O es x

theorem Elems.keep {α : Type} [Dat α] {w w' : World} {O O' O'' : Nat → Prop} {a : Option Addr} {l : List α} (h : Elems w O a l) (hc : Chg O' w w') (h1 : ∀ k, k < w.heap.size → O' k → O k) (h2 : ∀ k, k < w.heap.size → O'' k → O k) : Elems w' O'' a l := by
  intro i x hx
  obtain ⟨b, off, es, ha, hb, hcs, hr⟩ := h i x hx
  have hlt := hcs.lt (by rw [Dat.len hr]; exact Dat.pos (α := α))
  exact ⟨b, off, es, ha, fun hb' => hb (h2 b hlt hb'), hcs.keep hc (fun hb' => hb (h1 b hlt hb')), Dat.keep hr hc h1 h2⟩

instance {α : Type} [Dat α] : Dat (List α) where
  n := 1
  rd w O cs l := ∃ a cap, cs = [.slice a l.length cap] ∧ l.length ≤ cap ∧ cap ≤ maxLen ∧ Elems w O a l
  bulk l := (l.map Dat.bulk).sum + 1
  pos := by decide
  len := by rintro _ _ _ _ ⟨a, cap, rfl, _⟩; rfl
  one := by rintro _ _ _ _ ⟨a, cap, rfl, _⟩ u hu; simp at hu; subst hu; rfl
  keep := by
    rintro w w' O O' O'' cs l ⟨a, cap, rfl, h1, h2, h3⟩ hc k1 k2
    exact ⟨a, cap, rfl, h1, h2, h3.keep hc k1 k2⟩

instance : Dat Hunk where
  n := 3
  rd w O cs h := ∃ v, cs = [.int .i64 h.old, .int .i64 h.new, v] ∧ Dat.rd w O [v] h.marks
  bulk h := Dat.bulk h.marks + 3
  pos := by decide
  len := by rintro _ _ _ _ ⟨v, rfl, _⟩; rfl
  one := by
    rintro _ _ _ _ ⟨v, rfl, hv⟩ u hu
    simp only [List.mem_cons, List.not_mem_nil, or_false] at hu
    rcases hu with rfl | rfl | rfl
    · rfl
    · rfl
    · exact Dat.one hv _ (by simp)
  keep := by
    rintro w w' O O' O'' cs l ⟨v, rfl, h⟩ hc k1 k2
    exact ⟨v, rfl, Dat.keep h hc k1 k2⟩
instance : Dat File where
  n := 2
  rd w O cs h := ∃ v, cs = [.string h.path, v] ∧ h.path.size ≤ maxLen ∧ Dat.rd w O [v] h.lines
  bulk h := h.path.size + Dat.bulk h.lines + 2
  pos := by decide
  len := by rintro _ _ _ _ ⟨v, rfl, _⟩; rfl
  one := by
    rintro _ _ _ _ ⟨v, rfl, _, hv⟩ u hu
    simp only [List.mem_cons, List.not_mem_nil, or_false] at hu
    rcases hu with rfl | rfl
    · rfl
    · exact Dat.one hv _ (by simp)
  keep := by
    rintro w w' O O' O'' cs l ⟨v, rfl, hp, h⟩ hc k1 k2
    exact ⟨v, rfl, hp, Dat.keep h hc k1 k2⟩
instance : Dat Change where
  n := 3
  rd w O cs h := ∃ v, cs = [.int .i64 h.what, .string h.path, v] ∧ h.path.size ≤ maxLen ∧ Dat.rd w O [v] h.hunks
  bulk h := h.path.size + Dat.bulk h.hunks + 3
  pos := by decide
  len := by rintro _ _ _ _ ⟨v, rfl, _⟩; rfl
  one := by
    rintro _ _ _ _ ⟨v, rfl, _, hv⟩ u hu
    simp only [List.mem_cons, List.not_mem_nil, or_false] at hu
    rcases hu with rfl | rfl | rfl
    · rfl
    · rfl
    · exact Dat.one hv _ (by simp)
  keep := by
    rintro w w' O O' O'' cs l ⟨v, rfl, hp, h⟩ hc k1 k2
    exact ⟨v, rfl, hp, Dat.keep h hc k1 k2⟩
instance : Dat Mail where
  n := 4
  rd w O cs m := ∃ v, cs = [.string m.sender, .string m.subject, .string m.ident, v] ∧ m.sender.size ≤ maxLen ∧ m.subject.size ≤ maxLen ∧ m.ident.size ≤ maxLen ∧ Dat.rd w O [v] m.body
  bulk m := m.sender.size + m.subject.size + m.ident.size + Dat.bulk m.body + 4
  pos := by decide
  len := by rintro _ _ _ _ ⟨v, rfl, _⟩; rfl
  one := by
    rintro _ _ _ _ ⟨v, rfl, _, _, _, hv⟩ u hu
    simp only [List.mem_cons, List.not_mem_nil, or_false] at hu
    rcases hu with rfl | rfl | rfl | rfl
    · rfl
    · rfl
    · rfl
    · exact Dat.one hv _ (by simp)
  keep := by
    rintro w w' O O' O'' cs l ⟨v, rfl, h1, h2, h3, h⟩ hc k1 k2
    exact ⟨v, rfl, h1, h2, h3, Dat.keep h hc k1 k2⟩
instance : Dat (Int × Int) where
  n := 2
  rd _ _ cs x := cs = [.int .i64 x.1, .int .i64 x.2]
  bulk _ := 3
  pos := by decide
  len := by rintro _ _ _ _ rfl; rfl
  one := by rintro _ _ _ _ rfl u hu; simp at hu; rcases hu with rfl | rfl <;> rfl
  keep := by intro _ _ _ _ _ _ _ h _ _ _; exact h

theorem rdv_slice {α : Type} [Dat α] {w : World} {O : Nat → Prop} {v : Value} {l : List α} (h : Rdv w O v l) : ∃ a cap, v = .slice a l.length cap ∧ l.length ≤ cap ∧ cap ≤ maxLen ∧ Elems w O a l := by
  obtain ⟨a, cap, e, h1⟩ := h
  simp only [List.cons.injEq, and_true] at e
  exact ⟨a, cap, e, h1⟩
theorem rdv_nil {α : Type} [Dat α] (w : World) (O : Nat → Prop) : Rdv w O (.slice none 0 0) ([] : List α) :=
  ⟨none, 0, rfl, Nat.le_refl _, Nat.zero_le _, fun i x h => by simp at h⟩

def Own {α : Type} [Dat α] (e : TypeId) (w : World) (O : Nat → Prop) (v : Value) (l : List α) : Prop :=
  ∃ xs, w.ownsRow 0 e (Dat.n α) v l.length xs ∧ (∀ k, v.ownBlock = some k → ¬ O k) ∧
    ∀ (i : Nat) (x : α), l[i]? = some x → Dat.rd w (fun k => O k ∨ v.ownBlock = some k) ((xs.drop (i * Dat.n α)).take (Dat.n α)) x

theorem own_nil {α : Type} [Dat α] (e : TypeId) (w : World) (O : Nat → Prop) : Own e w O (.slice none 0 0) ([] : List α) :=
  ⟨[], World.ownsRow_nil _ _ _ _, fun k h => by simp [Value.ownBlock] at h, fun i x h => by simp at h⟩

theorem elems_str {w : World} {O : Nat → Prop} {a : Option Addr} {l : List ByteArray} (h : Elems w O a l) {i : Nat} {x : ByteArray} (hx : l[i]? = some x) :
    ∃ b off, a = some ⟨b, off, none⟩ ∧ ¬ O b ∧ b < w.heap.size ∧ w.cell? ⟨b, off + i, none⟩ = some (.string x) ∧ x.size ≤ maxLen := by
  obtain ⟨b, off, es, ha, hb, hcs, rfl, hs⟩ := h i x hx
  refine ⟨b, off, ha, hb, hcs.lt (by simp), ?_, hs⟩
  have := hcs 0 (.string x) rfl
  simpa [Dat.n] using this
theorem elems_mark {w : World} {O : Nat → Prop} {a : Option Addr} {l : List Mark} (h : Elems w O a l) {i : Nat} {x : Mark} (hx : l[i]? = some x) :
    ∃ b off, a = some ⟨b, off, none⟩ ∧ ¬ O b ∧ b < w.heap.size ∧ w.cell? ⟨b, off + i * 2, none⟩ = some (.int .u8 x.sign) ∧ w.cell? ⟨b, off + i * 2 + 1, none⟩ = some (.string x.text) ∧ 0 ≤ x.sign ∧ x.sign < 256 ∧ x.text.size ≤ maxLen := by
  obtain ⟨b, off, es, ha, hb, hcs, rfl, hs⟩ := h i x hx
  refine ⟨b, off, ha, hb, hcs.lt (by simp), ?_, ?_, hs⟩
  · simpa [Dat.n] using hcs 0 _ rfl
  · simpa [Dat.n] using hcs 1 _ rfl

def RdAll {α : Type} [Dat α] (w : World) : List Value → List α → Prop
  | _, [] => True
  | cs, x :: l => Dat.rd w Never (cs.take (Dat.n α)) x ∧ RdAll w (cs.drop (Dat.n α)) l
theorem rdAll_get {α : Type} [Dat α] {w : World} : ∀ (l : List α) (cs : List Value), RdAll w cs l → ∀ (i : Nat) (x : α), l[i]? = some x → Dat.rd w Never ((cs.drop (i * Dat.n α)).take (Dat.n α)) x
  | [], _, _, i, x, hx => by simp at hx
  | y :: l, cs, h, 0, x, hx => by
    simp only [List.getElem?_cons_zero, Option.some.injEq] at hx
    subst hx
    simpa using h.1
  | y :: l, cs, h, i + 1, x, hx => by
    have := rdAll_get l _ h.2 i x (by simpa using hx)
    rw [List.drop_drop] at this
    rwa [show (i + 1) * Dat.n α = Dat.n α + i * Dat.n α by rw [Nat.succ_mul, Nat.add_comm]]
theorem rdv_lit {α : Type} [Dat α] {w : World} {g : Nat} {e : TypeId} {cs : List Value} {l : List α} {n : Nat} (h : w.heap[g]? = some (.cells cs.toArray e (0, 0))) (hn : n = l.length) (hm : n ≤ 1000) (hr : RdAll w cs l) :
    Rdv w Never (.slice (some ⟨g, 0, none⟩) n n) l := by
  subst hn
  refine ⟨some ⟨g, 0, none⟩, l.length, rfl, Nat.le_refl _, by unfold maxLen; omega, ?_⟩
  intro i x hx
  have hr' := rdAll_get l cs hr i x hx
  refine ⟨g, 0, _, rfl, fun h => h, ?_, hr'⟩
  intro j u hj
  rw [List.getElem?_take] at hj
  split at hj
  · rw [List.getElem?_drop] at hj
    simp only [World.cell?, h]
    simpa using hj
  · cases hj
end Go.Proofs.YtjiaidchcldocaaGreatDoor
namespace Go.Proofs.YtjiaidchcldocaaGreatDoor
open Go.ChangeShapes Go.WideShapes Go.ChangeAt Go.RowKit

theorem own : ownKnob Tryz.prog.godebug = none := by kernel_rfl
theorem laidOut : laidOutB Tryz.prog = true := by kernel_rfl

theorem trodAll_stays {H : Type} {enc : TypeId × Value → H} {P : Program} (hl : laidOutB P = true) {W W' : World} : ∀ (ts : List TypeId) (vs : List Value) (ds : List (DataW H)) (ps : List MemPlace),
    (∀ t ∈ ts, P.readableRec t = true ∧ t < P.types.size) → DataW.TrodAll enc P W 0 (fun _ => true) true ts vs ds ps → (∀ x ∈ ps, W.sameAt W' x) → (∀ x ∈ ps, x.block < W.heap.size) →
    DataW.TrodAll enc P W' 0 (fun b => decide (b < W.heap.size)) true ts vs ds ps
  | [], [], [], ps, _, h, _, _ => h
  | t :: ts, v :: vs, d :: ds, ps, ht, h, h1, h2 => by
    obtain ⟨p, q, hp, hq, rfl⟩ := h
    refine ⟨p, q, ?_, ?_, rfl⟩
    · exact WideElems.Trod_stays hl (ht t (List.mem_cons_self ..)).1 (ht t (List.mem_cons_self ..)).2 hp (fun x hx => h1 x (List.mem_append_left _ hx)) (fun x hx => by simpa using h2 x (List.mem_append_left _ hx))
    · exact trodAll_stays hl ts vs ds q (fun t' h' => ht t' (List.mem_cons_of_mem _ h')) hq (fun x hx => h1 x (List.mem_append_right _ hx)) (fun x hx => h2 x (List.mem_append_right _ hx))
  | [], [], _ :: _, _, _, h, _, _ => h.elim
  | [], _ :: _, _, _, _, h, _, _ => h.elim
  | _ :: _, [], _, _, _, h, _, _ => h.elim
  | _ :: _, _ :: _, [], _, _, h, _, _ => h.elim

theorem post_law {H : Type} {enc : TypeId × Value → H} {P : Program} {f : Func} {s : ChangeSpec} {W W' : World} {args : Array Value} {ds gs : List (DataW H)} {before : List MemPlace} {tb : TypeId}
    (hW : DataW.Whole enc P f.params.toList s.vars false W args.toList ds gs before) (hvars : s.vars = []) (hres : f.resultTypes = #[tb]) (htb : P.underlying tb = some .bool)
    (hfn : s.fn H ds = { results := [.lit (.bool true)], args := ds }) (hl : laidOutB P = true) (hread : ∀ t ∈ f.params.toList, P.readableRec t = true ∧ t < P.types.size) (hc : Chg Never W W') :
    s.post enc P f false true false false W args (.bool true) W' := by
  have hlt := hW.lt
  have hb : Below W.heap.size W W' := hc.never
  obtain ⟨p, q, h1, h2, h3, h4, h5⟩ := id hW
  rw [hvars] at h2
  have hgs : gs = [] ∧ q = [] := by
    cases gs with
    | nil => exact ⟨rfl, h2⟩
    | cons g gs => exact h2.elim
  obtain ⟨rfl, rfl⟩ := hgs
  rw [List.append_nil] at h3
  subst h3
  refine ⟨ds, [], before, [], before, [], hW, ?_, ?_, ?_, ?_, fun h => by cases h⟩
  · rw [List.append_nil, hfn, hres]
    exact ⟨[], [], ⟨1, by simp [DataW.trod, htb, Value.cells]⟩, rfl, rfl⟩
  · rw [List.append_nil, hfn]
    exact trodAll_stays hl _ _ _ _ hread h1 (fun x hx => hb.same (hlt x hx)) hlt
  · rw [hvars, List.append_nil, hfn]; rfl
  · exact hb.frame _

def Opens (P : Program) (t : TypeId) (α : Type) [Dat α] : Prop :=
  ∀ (H : Type) (enc : TypeId × Value → H) (w : World) (base : Nat) (spare : Nat → Bool) (held : Bool) (fuel : Nat) (cs : List Value) (d : DataW H) (ps : List MemPlace),
    DataW.trod enc P w base spare held fuel t cs = some (d, ps) → ∃ x : α, Dat.rd w Never cs x ∧ Dat.bulk x ≤ Rows.uptoBulk d

theorem opens_string {P : Program} {t : TypeId} (ht : P.underlying t = some .string) : Opens P t ByteArray := by
  intro H enc w base spare held fuel cs d ps h
  obtain ⟨s, rfl, hx, hs⟩ := DataW.trod_string ht h
  simp only [Prod.mk.injEq] at hx
  obtain ⟨rfl, rfl⟩ := hx
  refine ⟨s, ⟨rfl, hs⟩, ?_⟩
  show s.size + 1 ≤ Rows.uptoBulk (.lit (.string s.data.toList))
  simp only [Rows.uptoBulk]
  rw [Array.length_toList]
  exact Nat.le_refl _
theorem u8_of_wf {n : Int} (h : (Lit.int .u8 n).wf = true) : 0 ≤ n ∧ n < 256 := by
  have := bounds_u8 h
  omega
theorem opens_byte {P : Program} {t : TypeId} (ht : P.underlying t = some (.int .u8)) : Opens P t UInt8 := by
  intro H enc w base spare held fuel cs d ps h
  obtain ⟨n, rfl, hx, hw⟩ := DataW.trod_int ht h
  simp only [Prod.mk.injEq] at hx
  obtain ⟨rfl, rfl⟩ := hx
  have hn := u8_of_wf hw
  refine ⟨UInt8.ofNat n.toNat, ?_, by simp [Dat.bulk, Rows.uptoBulk]⟩
  show [Value.int .u8 n] = [Value.int .u8 _]
  have : ((UInt8.ofNat n.toNat).toNat : Int) = n := by
    rw [UInt8.toNat_ofNat']; omega
  rw [this]

theorem addr_add {a : Addr} (h : a.spot = none) (k : Nat) : a.add k = ⟨a.block, a.off + k, none⟩ := by
  cases a
  simp only at h
  subst h
  unfold Addr.add
  split <;> simp_all
theorem spot_of_cell {w : World} {a : Addr} {v : Value} (h : w.cell? a = some v) : a.spot = none := by
  unfold World.cell? at h
  split at h
  · by_cases hs : a.spot.isSome = true
    · simp [hs] at h
    · simpa using hs
  · simp at h

theorem opens_slice {P : Program} {t e : TypeId} {α : Type} [Dat α] (ht : P.underlying t = some (.slice e)) (hn : P.cellsOf e = Dat.n α) (he : Opens P e α) : Opens P t (List α) := by
  intro H enc w base spare held fuel cs d ps h
  rcases Deep.open_slice ht h with ⟨rfl, hx⟩ | ⟨a, len, cap, m, n, D, Pl, rfl, hb, hl, hm, hmm, hx, hel⟩
  · simp only [Prod.mk.injEq] at hx
    obtain ⟨rfl, rfl⟩ := hx
    exact ⟨[], ⟨none, 0, rfl, Nat.le_refl _, Nat.zero_le _, fun i x hi => by simp at hi⟩, by simp [Dat.bulk, Rows.uptoBulk]⟩
  · simp only [Prod.mk.injEq] at hx
    obtain ⟨rfl, rfl⟩ := hx
    have hlm : len ≤ m := by rw [hmm]; split <;> omega
    have hpos := Dat.pos (α := α)
    have key : ∀ k, k ≤ len → ∃ l : List α, l.length = k ∧ Elems w Never (some a) l ∧ (l.map Dat.bulk).sum ≤ Rows.uptoBulkAll ((List.range k).map D) := by
      intro k
      induction k with
      | zero => intro _; exact ⟨[], rfl, fun i x hi => by simp at hi, by simp [Rows.uptoBulkAll]⟩
      | succ k ih =>
        intro hk
        obtain ⟨l, h1, h2, h3⟩ := ih (by omega)
        obtain ⟨es, hes, htr⟩ := hel k (by omega)
        obtain ⟨x, hx, hbx⟩ := he H enc w base spare held n es (D k) (Pl k) htr
        obtain ⟨hbase, hlen, hcell⟩ := World.cells?_some hes
        refine ⟨l ++ [x], by simp [h1], ?_, ?_⟩
        · intro i y hy
          rcases Nat.lt_or_ge i l.length with hi | hi
          · rw [List.getElem?_append_left hi] at hy
            exact h2 i y hy
          · have e : i = k := by
              have := (List.getElem?_eq_some_iff.1 hy).1
              simp at this
              omega
            subst e
            rw [List.getElem?_append_right hi, h1] at hy
            simp at hy
            subst hy
            obtain ⟨es0, hes0, _⟩ := hel 0 (by omega)
            obtain ⟨_, hlen0, hcell0⟩ := World.cells?_some hes0
            have hsp : a.spot = none := by
              have := hcell0 0 (by rw [hn]; exact hpos)
              rw [List.getElem?_eq_getElem (by rw [hlen0, hn]; exact hpos)] at this
              have h' : w.cell? a = some (es0[0]'(by rw [hlen0, hn]; exact hpos)) := by simpa [Addr.add] using this
              exact spot_of_cell h'
            refine ⟨a.block, a.off, es, ?_, fun h => h, ?_, hx⟩
            · cases a; simp_all
            · intro j u hj
              have hjl := (List.getElem?_eq_some_iff.1 hj).1
              have := hcell j (by omega)
              rw [addr_add hsp, addr_add rfl, hn] at this
              rw [this, hj]
        · rw [List.range_succ, List.map_append, List.map_append, List.sum_append]
          have e1 : ∀ (p q : List (DataW H)), Rows.uptoBulkAll (p ++ q) = Rows.uptoBulkAll p + Rows.uptoBulkAll q := by
            intro p q
            induction p with
            | nil => simp [Rows.uptoBulkAll]
            | cons z p ih => simp only [List.cons_append, Rows.uptoBulkAll, ih]; omega
          rw [e1]
          simp only [List.map_cons, List.map_nil, List.sum_cons, List.sum_nil, Rows.uptoBulkAll]
          omega
    obtain ⟨l, h1, h2, h3⟩ := key len (Nat.le_refl _)
    refine ⟨l, ⟨some a, cap, by rw [h1], by omega, hm, h2⟩, ?_⟩
    simp only [Dat.bulk, Rows.uptoBulk]
    omega

theorem opens_mark {P : Program} {t : TypeId} {f0 f1 : Field} (ht : P.underlying t = some (.struct #[f0, f1])) (hc : P.cellsOf t = 2) (o0 : f0.offset = 0) (o1 : f1.offset = 1) (k0 : P.cellsOf f0.type = 1) (k1 : P.cellsOf f1.type = 1)
    (h0 : P.underlying f0.type = some (.int .u8)) (h1 : P.underlying f1.type = some .string) : Opens P t Mark := by
  intro H enc w base spare held fuel cs d ps h
  obtain ⟨y0, y1, n, hx, hl, e0, e1⟩ := trod_struct2 ht h
  rw [hc] at hl
  match cs, hl with
  | [c0, c1], _ =>
    rw [o0, k0] at e0
    rw [o1, k1] at e1
    obtain ⟨m, m1, m2, m3⟩ := DataW.trod_int h0 e0
    obtain ⟨s, s1, s2, s3⟩ := DataW.trod_string h1 e1
    simp at m1 s1
    subst m1 s1 m2 s2
    simp only [Prod.mk.injEq] at hx
    obtain ⟨rfl, rfl⟩ := hx
    have hm := u8_of_wf m3
    refine ⟨⟨m, s⟩, ⟨rfl, hm.1, hm.2, s3⟩, ?_⟩
    show s.size + 3 ≤ Rows.uptoBulk (.agg [.lit (.int .u8 m), .lit (.string s.data.toList)])
    simp only [Rows.uptoBulk, Rows.uptoBulkAll]
    rw [Array.length_toList]
    show s.size + 3 ≤ 1 + (s.size + 1 + 0) + 1
    omega
theorem opens_hunk {P : Program} {t : TypeId} {f0 f1 f2 : Field} (ht : P.underlying t = some (.struct #[f0, f1, f2])) (hc : P.cellsOf t = 3) (o0 : f0.offset = 0) (o1 : f1.offset = 1) (o2 : f2.offset = 2) (k0 : P.cellsOf f0.type = 1) (k1 : P.cellsOf f1.type = 1) (k2 : P.cellsOf f2.type = 1)
    (h0 : P.underlying f0.type = some (.int .i64)) (h1 : P.underlying f1.type = some (.int .i64)) (h2 : Opens P f2.type (List Mark)) : Opens P t Hunk := by
  intro H enc w base spare held fuel cs d ps h
  obtain ⟨y0, y1, y2, n, hx, hl, e0, e1, e2⟩ := Deep.trod_struct3 ht h
  rw [hc] at hl
  match cs, hl with
  | [c0, c1, c2], _ =>
    rw [o0, k0] at e0
    rw [o1, k1] at e1
    rw [o2, k2] at e2
    obtain ⟨m, m1, m2, m3⟩ := DataW.trod_int h0 e0
    obtain ⟨s, s1, s2, s3⟩ := DataW.trod_int h1 e1
    simp at m1 s1 e2
    subst m1 s1 m2 s2
    obtain ⟨l, hl1, hl2⟩ := h2 H enc w base spare held n [c2] y2.1 y2.2 e2
    simp only [Prod.mk.injEq] at hx
    obtain ⟨rfl, rfl⟩ := hx
    refine ⟨⟨m, s, l⟩, ⟨c2, rfl, hl1⟩, ?_⟩
    show Dat.bulk l + 3 ≤ Rows.uptoBulk (.agg [.lit (.int .i64 m), .lit (.int .i64 s), y2.1])
    simp only [Rows.uptoBulk, Rows.uptoBulkAll]
    omega

theorem opens_strs : Opens Tryz.prog 86 (List ByteArray) := opens_slice Tryz.underlying86 (by kernel_rfl) (opens_string Tryz.underlying9)
theorem opens_bytes : Opens Tryz.prog 29 (List UInt8) := opens_slice Tryz.underlying29 (by kernel_rfl) (opens_byte Tryz.underlying5)
theorem opens_marks : Opens Tryz.prog 127 (List Mark) := opens_slice Tryz.underlying127 (by kernel_rfl) (opens_mark Tryz.underlying126 (by kernel_rfl) rfl rfl (by kernel_rfl) (by kernel_rfl) Tryz.underlying5 Tryz.underlying9)
theorem opens_hunks : Opens Tryz.prog 83 (List Hunk) := opens_slice Tryz.underlying83 (by kernel_rfl) (opens_hunk Tryz.underlying129 (by kernel_rfl) rfl rfl rfl (by kernel_rfl) (by kernel_rfl) (by kernel_rfl) Tryz.underlying3 Tryz.underlying3 opens_marks)

theorem small_of {H : Type} {l : List (DataW H)} (hk : Rows.uptoSmall H l = true) : Rows.uptoBulkAll l ≤ 1048576 := of_decide_eq_true hk
end Go.Proofs.YtjiaidchcldocaaGreatDoor
namespace Go.Proofs.YtjiaidchcldocaaGreatDoor
open Go.RowKit

def errV (k : Int) : Value := if k = 0 then .nilIface else .iface 38 (.int .i64 k)
theorem errV_zero : errV 0 = .nilIface := rfl
theorem errV_pos {k : Int} (h : k ≠ 0) : errV k = .iface 38 (.int .i64 k) := by simp [errV, h]

theorem indexByte_nonneg (l : List UInt8) (c : UInt8) : decide (0 ≤ Lib.indexByte l c) = l.contains c := by
  have key : ∀ l : List UInt8, -1 ≤ Lib.indexByte l c ∧ (0 ≤ Lib.indexByte l c ↔ c ∈ l) := by
    intro l
    induction l with
    | nil => simp [Lib.indexByte]
    | cons b l ih =>
      obtain ⟨i1, i2⟩ := ih
      simp only [Lib.indexByte]
      by_cases hb : b = c
      · simp [hb]
      · by_cases hm : Lib.indexByte l c = -1
        · have : c ∉ l := fun h => by have := i2.2 h; omega
          simp [hb, hm, this, Ne.symm hb]
        · have : c ∈ l := i2.1 (by omega)
          simp [hb, hm, this]
          omega
  have := (key l).2
  by_cases hm : c ∈ l
  · simp [hm, this.2 hm]
  · have hn : ¬ 0 ≤ Lib.indexByte l c := fun h => hm (this.1 h)
    simp [hm, hn]
theorem hasNl_index (s : ByteArray) : decide (0 ≤ Lib.indexByte s.data.toList 10) = hasNl s := indexByte_nonneg _ _
theorem drop_eq {α : Type} {l : List α} {k : Nat} {x : α} (h : l[k]? = some x) : l.drop k = x :: l.drop (k + 1) := by
  obtain ⟨hk, hx⟩ := List.getElem?_eq_some_iff.1 h
  rw [List.drop_eq_getElem_cons hk, hx]

theorem one_any (s : ByteArray) (w : World) (hs : s.size ≤ maxLen) :
    Calls Tryz.prog 130 #[.string s] w fun e w' => e = .returned (errV (lineFault s)) ∧ w = w' := by
  unfold maxLen at hs
  by_cases h1 : hasNl s = true
  · go_enter Tryz.func130, Tryz.ntmps130
    go_wp2_with (go_at_call 149; refine (Tryz.strings_Contains_one _ _ _).mono ?_; rintro e w' ⟨rfl, rfl⟩; rw [hasNl_index, h1])
    go_ret
    exact ⟨by simp [lineFault, h1, errV], rfl⟩
  · have h1' : hasNl s = false := by simpa using h1
    by_cases h2 : 80 < s.size
    · go_enter Tryz.func130, Tryz.ntmps130
      go_wp2_with (go_at_call 149; refine (Tryz.strings_Contains_one _ _ _).mono ?_; rintro e w' ⟨rfl, rfl⟩; rw [hasNl_index, h1'])
      go_ret
      exact ⟨by simp [lineFault, h1', h2, errV], rfl⟩
    · go_enter Tryz.func130, Tryz.ntmps130
      go_wp2_with (go_at_call 149; refine (Tryz.strings_Contains_one _ _ _).mono ?_; rintro e w' ⟨rfl, rfl⟩; rw [hasNl_index, h1'])
      go_ret
      exact ⟨by simp [lineFault, h1', h2, errV], rfl⟩

theorem check_any (l : List ByteArray) (v : Value) (w : World) (h : Rdv w Never v l) :
    Calls Tryz.prog 81 #[v] w fun e w' => e = .returned (errV (linesFault l)) ∧ w = w' := by
  obtain ⟨a, cap, rfl, h1, h2, h3⟩ := rdv_slice h
  unfold maxLen at h2
  by_cases h4 : 60 < l.length
  · go_enter Tryz.func81, Tryz.ntmps81
    go_wp2
    go_ret
    exact ⟨by simp [linesFault, h4, errV], rfl⟩
  · go_enter Tryz.func81, Tryz.ntmps81
    go_wp2
    go_loop [12] (fun i => ∃ k : Nat, k ≤ l.length ∧ i = .int .i64 k ∧ Hid (firstOf lineFault (l.drop k) = linesFault l)) (fun i => l.length - (intOf i).toNat)
    case atStart => exact ⟨0, Nat.zero_le _, rfl, by simp [Hid, linesFault, h4]⟩
    case round =>
      obtain ⟨k, hk, rfl, hf⟩ := hrel
      by_cases hlt : k < l.length
      · obtain ⟨x, hx⟩ : ∃ x, l[k]? = some x := ⟨l[k], by simp [hlt]⟩
        obtain ⟨b, off, rfl, _, _, hc, hxs⟩ := elems_str h3 hx
        have hd := Lib.hid (drop_eq hx)
        clear hx h3 h
        by_cases hz : lineFault x = 0
        · go_wp2_with (go_at_call 130; refine (one_any _ _ hxs).mono ?_; rintro e w' ⟨rfl, rfl⟩; rw [hz, errV_zero])
          go_round
          case rel => exact ⟨k + 1, by omega, by go_num, by have := hf.out; rw [hd.out, firstOf, if_pos hz] at this; exact this⟩
          case measure => simp [intOf]; omega
        · go_wp2_with (go_at_call 130; refine (one_any _ _ hxs).mono ?_; rintro e w' ⟨rfl, rfl⟩; rw [errV_pos hz])
          go_ret
          have E : errV (linesFault l) = errV (lineFault x) := by rw [← hf.out, hd.out, firstOf, if_neg hz]
          exact ⟨by rw [E, errV_pos hz]; rfl, rfl⟩
      · go_wp2
        go_ret
        exact ⟨by have := hf.out; rw [List.drop_of_length_le (by omega), firstOf] at this; rw [← this]; rfl, rfl⟩

theorem take_same {α : Type} {l m : List α} {k : Nat} {x : α} (h : l.take k = m.take k) (hx : l[k]? = some x) (hy : m[k]? = some x) : l.take (k + 1) = m.take (k + 1) := by
  rw [List.take_add_one, List.take_add_one, h, hx, hy]
theorem ne_of_get {α : Type} {l m : List α} {k : Nat} {x y : α} (hx : l[k]? = some x) (hy : m[k]? = some y) (h : x ≠ y) : l ≠ m := by
  rintro rfl
  rw [hx] at hy
  exact h (Option.some.inj hy)
theorem str_beq_false {x y : ByteArray} (h : x ≠ y) : (x.toList == y.toList) = false := by
  rw [ByteArray.toList_eq, ByteArray.toList_eq]
  refine beq_eq_false_iff_ne.2 (fun e => h ?_)
  have := Array.toList_inj.1 e
  cases x; cases y; simp_all

theorem texts_any (l m : List ByteArray) (v u : Value) (w : World) (h : Rdv w Never v l) (g : Rdv w Never u m) :
    Calls Tryz.prog 41 #[v, u] w fun e w' => e = .returned (.bool (decide (l = m))) ∧ Chg Never w w' := by
  obtain ⟨a, cap, rfl, h1, h2, h3⟩ := rdv_slice h
  obtain ⟨c, cap', rfl, g1, g2, g3⟩ := rdv_slice g
  unfold maxLen at h2 g2
  by_cases h4 : l.length = m.length
  · have h4' : ((l.length : Int) != m.length) = false := by simp [h4]
    have H4 := Lib.hid h4
    clear h4
    go_enter Tryz.func41, Tryz.ntmps41
    go_wp2
    go_loopw [5] (fun i wr => ∃ k : Nat, k ≤ l.length ∧ i = .int .i64 k ∧ Hid (l.take k = m.take k) ∧ Chg Never w wr) (fun i _ => l.length - (intOf i).toNat)
    case atStart => exact ⟨0, Nat.zero_le _, rfl, by simp [Hid], Chg.refl _ _⟩
    case round =>
      obtain ⟨k, hk, rfl, hf, hc⟩ := hrel
      by_cases hlt : k < l.length
      · obtain ⟨x, hx⟩ : ∃ x, l[k]? = some x := ⟨l[k], by simp [hlt]⟩
        obtain ⟨y, hy⟩ : ∃ y, m[k]? = some y := ⟨m[k]'(by rw [← H4.out]; exact hlt), by simp [H4.out ▸ hlt]⟩
        obtain ⟨b, off, rfl, _, _, hcx, hxs⟩ := elems_str h3 hx
        obtain ⟨b', off', rfl, _, _, hcy, hys⟩ := elems_str g3 hy
        have hcx := hc.cellNever hcx
        have hcy := hc.cellNever hcy
        clear h3 g3 h g
        have hlm : k < m.length := by rw [← H4.out]; exact hlt
        have HX := Lib.hid hx
        have HY := Lib.hid hy
        clear hx hy
        have b1 : (k : Int) < l.length := by omega
        have b2 : (k : Int) < m.length := by omega
        by_cases hxy : x = y
        · subst hxy
          go_wp2
          go_quiet (fail)
          go_wp2
          go_roundw
          case rel => exact ⟨k + 1, by omega, by go_num, take_same hf HX.out HY.out, hc.drewN _⟩
          case measure => simp [intOf]; omega
        · have hne := str_beq_false hxy
          go_wp2
          go_quiet (fail)
          go_wp2
          go_ret
          exact ⟨by rw [decide_eq_false (ne_of_get HX.out HY.out hxy)]; rfl, hc.drewN _⟩
      · go_wp2
        go_ret
        have E : l = m := by
          have := hf.out
          rwa [List.take_of_length_le (by omega), List.take_of_length_le (by rw [← H4.out]; omega)] at this
        exact ⟨by rw [decide_eq_true E]; rfl, hc⟩
  · have h4' : ((l.length : Int) != m.length) = true := by simp; omega
    go_enter Tryz.func41, Tryz.ntmps41
    go_wp2
    go_ret
    exact ⟨by rw [decide_eq_false (fun e => h4 (by rw [e]))]; rfl, Chg.refl _ _⟩
end Go.Proofs.YtjiaidchcldocaaGreatDoor
namespace Go.Proofs.YtjiaidchcldocaaGreatDoor
open Go.RowKit Go.Extern.Stop Go.Stop Go.Extern

abbrev errT : Value := .iface 276 (.agg #[.pointer (some ⟨9, 26, none⟩)])
abbrev vP (a : Addr) : Value := .agg #[.pointer (some ⟨9, 182, none⟩), .pointer (some a), .int .u64 150]
abbrev vE (a : Addr) : Value := .agg #[.pointer (some ⟨9, 38, none⟩), .pointer (some a), .int .u64 130]
abbrev vEa (a : Addr) : Value := .agg #[.pointer (some ⟨9, 38, none⟩), .pointer (some a), .int .u64 386]
abbrev tP : Value := .agg #[.pointer (some ⟨9, 182, none⟩)]
abbrev tE : Value := .agg #[.pointer (some ⟨9, 38, none⟩)]

theorem as_valueOfP (t : Addr) (w : World) : (ReflectliteValue.unpack (.iface 182 (.pointer (some t)))).run Tryz.prog w
    = .ok (vP ⟨w.heap.size, 0, none⟩) (w.alloc (.cells #[.pointer (some t)] 182)) := by kernel_rfl
theorem as_typeP (a : Addr) (w : World) : (ReflectliteValue.methodAny (ReflectliteValue.valueError "reflectlite.Value.Type" 0) (fun t _ _ _ => ReflectliteType.toType t) #[vP a]).run Tryz.prog w
    = .ok (.iface 276 tP) w := by kernel_rfl
theorem as_kindP (w : World) : ((ReflectliteType.abiMethod fun t => (fun a : Nat => Value.int IntKind.u8 (a : Int)) <$> Rtype.kind t) #[.pointer (some ⟨9, 182, none⟩)]).run Tryz.prog w = .ok (.int .u8 22) w := by kernel_rfl
theorem as_kindE (w : World) : ((ReflectliteType.abiMethod fun t => (fun a : Nat => Value.int IntKind.u8 (a : Int)) <$> Rtype.kind t) #[.pointer (some ⟨9, 38, none⟩)]).run Tryz.prog w = .ok (.int .u8 2) w := by kernel_rfl
theorem as_rlm (z : Sem Value) (f : TypeId → Addr → Nat → Nat → Sem Value) (v : Value) :
    ReflectliteValue.method z f #[v] = (do match ← ReflectliteValue.parts v with | none => z | some (t, a, fl) => f t a fl (fl % 32)) := rfl
theorem as_partsP (a : Addr) (w : World) : (ReflectliteValue.parts (vP a)).run Tryz.prog w = .ok (some (182, a, 150)) w := by kernel_rfl
theorem as_isNilP (a p : Addr) (W : World) (ha : W.cell? a = some (.pointer (some p))) :
    (ReflectliteValue.method (ReflectliteValue.valueError "reflectlite.Value.IsNil" 0) ReflectliteValue.isNil #[vP a]).run Tryz.prog W = .ok (.bool false) W := by
  rw [as_rlm]
  simp only [Sem.run_bind, as_partsP, Result.andThen]
  simp [ReflectliteValue.isNil, loadVar, isAgg, underlying, Tryz.underlying182, ha, Result.andThen]
theorem as_methodKind (h : Value) (w : World) : (Go.method 463 276 (.agg #[h]) "Kind").run Tryz.prog w = .ok (254, h) w := by kernel_rfl
theorem as_elemP (w : World) : (ReflectliteType.method ReflectliteType.elem #[tP]).run Tryz.prog w = .ok (.iface 276 tE) w := by kernel_rfl
theorem as_implE (w : World) : (ReflectliteType.relation "Implements" ReflectliteType.implements_ #[tE, errT]).run Tryz.prog w = .ok (.bool true) w := by kernel_rfl
theorem as_typeOfE (v : Value) (w : World) : (ReflectliteType.typeOf #[.iface 38 v]).run Tryz.prog w = .ok (.iface 276 tE) w := by kernel_rfl
theorem as_assignE (w : World) : (ReflectliteType.relation "AssignableTo" ReflectliteType.assignableTo #[tE, .iface 276 tE]).run Tryz.prog w = .ok (.bool true) w := by kernel_rfl
theorem as_valueOfE (k : Int) (w : World) : (ReflectliteValue.unpack (.iface 38 (.int .i64 k))).run Tryz.prog w
    = .ok (vE ⟨w.heap.size, 0, none⟩) (w.alloc (.cells #[.int .i64 k] 38)) := by kernel_rfl
theorem as_elemOfP (w : World) : (Rtype.elem? 182).run Tryz.prog w = .ok (some 38) w := by kernel_rfl
theorem as_mkE (p : Addr) (w : World) : (ReflectliteValue.mk 38 p ReflectliteValue.flagAddr).run Tryz.prog w = .ok (vEa p) w := by kernel_rfl
theorem as_elemVP (a p : Addr) (W : World) (ha : W.cell? a = some (.pointer (some p))) :
    (ReflectliteValue.method (ReflectliteValue.valueError "reflectlite.Value.Elem" 0) ReflectliteValue.elem #[vP a]).run Tryz.prog W = .ok (vEa p) W := by
  rw [as_rlm]
  simp only [Sem.run_bind, as_partsP, Result.andThen]
  simp [ReflectliteValue.elem, loadVar, isAgg, underlying, Tryz.underlying182, ha, Result.andThen, as_elemOfP, as_mkE]
theorem as_rls (v x : Value) : ReflectliteValue.set #[v, x] = (do
    let (some (dst, a, fl), some (src, b, _)) := (← ReflectliteValue.parts v, ← ReflectliteValue.parts x)
      | unsupported (.noEntry "extern/(internal/reflectlite.Value).Set.zeroValue")
    if fl / ReflectliteValue.flagAddr % 2 == 0 then unsupported (.noEntry "extern/(internal/reflectlite.Value).Set.unaddressable")
    let val ← loadVar src b
    if ← Rtype.directlyAssignable dst src then storeVar dst a val
    else if ← Rtype.implements dst src then
      if (← Rtype.kind src) == 20 then
        match val with
        | .nilIface => unsupported (.noEntry "extern/reflectlite: a nil value of one interface type handed on as a value of another")
        | _ => storeVar dst a val
      else storeVar dst a (.iface src val)
    else panicString ("reflectlite.Set: value of type " ++ (← Rtype.spelt src) ++ " is not assignable to type " ++ (← Rtype.spelt dst))
    pure (.tuple #[])) := rfl
theorem as_partsEa (a : Addr) (w : World) : (ReflectliteValue.parts (vEa a)).run Tryz.prog w = .ok (some (38, a, 386)) w := by kernel_rfl
theorem as_partsE (a : Addr) (w : World) : (ReflectliteValue.parts (vE a)).run Tryz.prog w = .ok (some (38, a, 130)) w := by kernel_rfl
theorem as_directE (w : World) : (Rtype.directlyAssignable 38 38).run Tryz.prog w = .ok true w := by kernel_rfl
theorem as_setE (ta b : Addr) (k : Int) (old : Value) (W : World) (hb : W.cell? b = some (.int .i64 k)) (ht : W.cell? ta = some old) (hf : W.frozen? ta = false) :
    (ReflectliteValue.set #[vEa ta, vE b]).run Tryz.prog W = .ok (.tuple #[]) (W.setCell ta (.int .i64 k)) := by
  rw [as_rls]
  simp only [Sem.run_bind, as_partsEa, as_partsE, Result.andThen]
  simp [ReflectliteValue.flagAddr, loadVar, isAgg, underlying, Tryz.underlying38, hb, Result.andThen, as_directE, storeVar, Value.cells, storeCells, Addr.add]
  rw [run_store Tryz.prog W ta _ _ (by rfl)]
  simp [ht, hf]
theorem as_methodElem (h : Value) (w : World) : (Go.method 463 276 (.agg #[h]) "Elem").run Tryz.prog w = .ok (270, .agg #[h]) w := by kernel_rfl
theorem as_methodImplements (h : Value) (w : World) : (Go.method 463 276 (.agg #[h]) "Implements").run Tryz.prog w = .ok (271, .agg #[h]) w := by kernel_rfl
theorem as_methodAssignableTo (h : Value) (w : World) : (Go.method 463 276 (.agg #[h]) "AssignableTo").run Tryz.prog w = .ok (268, .agg #[h]) w := by kernel_rfl
abbrev asW1 (w : World) (t : Addr) : World := w.alloc (.cells #[.pointer (some t)] 182)
abbrev asC (w : World) : Obj := .cells #[.pointer (some ⟨9, 182, none⟩), .pointer (some ⟨w.heap.size, 0, none⟩), .int .u64 150] 234
abbrev asW2 (w : World) (t : Addr) : World := (asW1 w t).alloc (asC w)
abbrev asW3 (w : World) (t : Addr) : World := (asW2 w t).alloc (asC w)
abbrev asW4 (w : World) (t : Addr) (k : Int) : World := (asW3 w t).alloc (.cells #[.int .i64 k] 38)

set_option maxRecDepth 100000 in
set_option maxHeartbeats 4000000 in
theorem as_hit (k : Int) (t : Addr) (old : Value) (w : World) (hg : w.cell? ⟨0, 0, none⟩ = some errT) (ht0 : w.cell? t = some old) (hf0 : w.frozen? t = false) :
    Calls Tryz.prog 100 #[.iface 38 (.int .i64 k), .iface 182 (.pointer (some t))] w fun ev w' => ev = .returned (.bool true) ∧ w' = (asW4 w t k).setCell t (.int .i64 k) := by
  have h6 := @run_callFunc_extern Tryz.prog 153 _ (fun args => ReflectliteValue.unpack (args.getD 0 (.tuple #[]))) Tryz.func153 (by kernel_rfl) (by kernel_rfl) (by kernel_rfl) (by kernel_rfl)
  have h7 := @run_callFunc_extern Tryz.prog 154 _ (ReflectliteValue.methodAny (ReflectliteValue.valueError "reflectlite.Value.Type" 0) (fun t _ _ _ => ReflectliteType.toType t)) Tryz.func154 (by kernel_rfl) (by kernel_rfl) (by kernel_rfl) (by kernel_rfl)
  have h8 := @run_callFunc_extern Tryz.prog 155 _ (ReflectliteValue.method (ReflectliteValue.valueError "reflectlite.Value.IsNil" 0) ReflectliteValue.isNil) Tryz.func155 (by kernel_rfl) (by kernel_rfl) (by kernel_rfl) (by kernel_rfl)
  have h27 := @run_callFunc_extern Tryz.prog 254 _ (ReflectliteType.abiMethod fun t => do pure (.int .u8 (← Rtype.kind t))) Tryz.func254 (by kernel_rfl) (by kernel_rfl) (by kernel_rfl) (by kernel_rfl)
  have h37 := @run_callFunc_extern Tryz.prog 270 _ (ReflectliteType.method ReflectliteType.elem) Tryz.func270 (by kernel_rfl) (by kernel_rfl) (by kernel_rfl) (by kernel_rfl)
  have h38 := @run_callFunc_extern Tryz.prog 271 _ (ReflectliteType.relation "Implements" ReflectliteType.implements_) Tryz.func271 (by kernel_rfl) (by kernel_rfl) (by kernel_rfl) (by kernel_rfl)
  have h10 := @run_callFunc_extern Tryz.prog 195 _ ReflectliteType.typeOf Tryz.func195 (by kernel_rfl) (by kernel_rfl) (by kernel_rfl) (by kernel_rfl)
  have h35 := @run_callFunc_extern Tryz.prog 268 _ (ReflectliteType.relation "AssignableTo" ReflectliteType.assignableTo) Tryz.func268 (by kernel_rfl) (by kernel_rfl) (by kernel_rfl) (by kernel_rfl)
  have h11 := @run_callFunc_extern Tryz.prog 196 _ (ReflectliteValue.method (ReflectliteValue.valueError "reflectlite.Value.Elem" 0) ReflectliteValue.elem) Tryz.func196 (by kernel_rfl) (by kernel_rfl) (by kernel_rfl) (by kernel_rfl)
  have h12 := @run_callFunc_extern Tryz.prog 197 _ ReflectliteValue.set Tryz.func197 (by kernel_rfl) (by kernel_rfl) (by kernel_rfl) (by kernel_rfl)
  have tO := as_typeOfE
  have mA := as_methodAssignableTo
  have a25 := as_assignE
  have v25 := as_valueOfE
  have f6 := as_valueOfP
  have f7 := as_typeP
  have mK := as_methodKind
  have mE := as_methodElem
  have mI := as_methodImplements
  have k27 := as_kindP
  have k25 := as_kindE
  have e27 := as_elemP
  have i25 := as_implE
  have n8 := as_isNilP ⟨w.heap.size, 0, none⟩ t (asW2 w t) (by simp)
  have hlt : 0 < w.heap.size := by
    rcases Nat.lt_or_ge 0 w.heap.size with h | h
    · exact h
    · simp [World.cell?, Array.getElem?_eq_none h] at hg
  have hg2 : (asW2 w t).cell? ⟨0, 0, none⟩ = some errT := by
    rw [World.cell?_alloc_lt _ _ ⟨0, 0, none⟩ (by first | (simp; done) | (simp; omega)), World.cell?_alloc_lt _ _ ⟨0, 0, none⟩ hlt]; exact hg
  have htl : t.block < w.heap.size := by
    rcases Nat.lt_or_ge t.block w.heap.size with h | h
    · exact h
    · simp [World.cell?, Array.getElem?_eq_none h] at ht0
  have el := as_elemVP ⟨w.heap.size, 0, none⟩ t (asW3 w t) (by rw [World.cell?_alloc_lt _ _ ⟨w.heap.size, 0, none⟩ (by simp; omega)]; simp)
  have st := as_setE t ⟨w.heap.size + 1 + 1 + 1, 0, none⟩ k old (asW4 w t k)
    (by rw [World.cell?_alloc_at _ _ _ _ (by simp)]; rfl)
    (by rw [World.cell?_alloc_lt _ _ t (by simp; omega), World.cell?_alloc_lt _ _ t (by simp; omega), World.cell?_alloc_lt _ _ t (by simp; omega), World.cell?_alloc_lt _ _ t htl]; exact ht0)
    (by rw [World.frozen?_alloc_old _ _ t (by simp; omega), World.frozen?_alloc_old _ _ t (by simp; omega), World.frozen?_alloc_old _ _ t (by simp; omega), World.frozen?_alloc_old _ _ t (Nat.ne_of_lt htl)]; exact hf0)
  go_enter Tryz.func100, Tryz.ntmps100
  go_wp2
  refine wp_loop_rounds 1 ?_
  rw [rounds_succ]
  go_wp2
  go_ret
  exact ⟨rfl, rfl⟩

theorem told_hit (k : Int) (w : World) (hg : w.cell? ⟨0, 0, none⟩ = some errT) :
    Calls Tryz.prog 47 #[.iface 38 (.int .i64 k)] w fun e w' => e = .returned (.int .i64 k) ∧ Chg Never w w' := by
  have hlt : 0 < w.heap.size := by
    rcases Nat.lt_or_ge 0 w.heap.size with h | h
    · exact h
    · simp [World.cell?, Array.getElem?_eq_none h] at hg
  have hgA : (w.alloc (.cells #[.int .i64 0] 38)).cell? ⟨0, 0, none⟩ = some errT := by rw [World.cell?_alloc_lt _ _ ⟨0, 0, none⟩ hlt]; exact hg
  have htA : (w.alloc (.cells #[.int .i64 0] 38)).cell? ⟨w.heap.size, 0, none⟩ = some (.int .i64 0) := by simp
  have hfA : (w.alloc (.cells #[.int .i64 0] 38)).frozen? ⟨w.heap.size, 0, none⟩ = false := by simp
  go_enter Tryz.func47, Tryz.ntmps47
  go_wp2_with (go_at_call 100; refine (as_hit k _ (.int .i64 0) _ hgA htA hfA).mono ?_; rintro e w' ⟨rfl, rfl⟩)
  go_ret
  refine ⟨rfl, ?_⟩
  exact (((((Chg.refl Never w).alloc _).alloc _).alloc _).alloc _).alloc _
theorem told_nil (w : World) : Calls Tryz.prog 47 #[.nilIface] w fun e w' => e = .returned (.int .i64 0) ∧ Chg Never w w' := by
  go_enter Tryz.func47, Tryz.ntmps47
  go_wp2
  go_ret
  exact ⟨rfl, Chg.refl _ _⟩
theorem told_any (k : Int) (w : World) (hg : w.cell? ⟨0, 0, none⟩ = some errT) :
    Calls Tryz.prog 47 #[errV k] w fun e w' => e = .returned (.int .i64 k) ∧ Chg Never w w' := by
  by_cases h : k = 0
  · subst h; exact told_nil w
  · rw [errV_pos h]; exact told_hit k w hg
theorem error_any (k e : Int) (w : World) (hg : w.cell? ⟨0, 0, none⟩ = some errT) :
    Calls Tryz.prog 15 #[errV k, .int .i64 e] w fun x w' => x = .returned (.bool (k == e)) ∧ Chg Never w w' := by
  go_enter Tryz.func15, Tryz.ntmps15
  go_wp2_with (go_at_call 47; refine (told_any k _ hg).mono ?_; rintro e w' ⟨rfl, hc⟩)
  go_ret
  exact ⟨rfl, hc⟩
end Go.Proofs.YtjiaidchcldocaaGreatDoor
namespace Go.Proofs.YtjiaidchcldocaaGreatDoor
open Go.ChangeShapes Go.WideShapes Go.ChangeAt Go.RowKit

theorem as_et : Tryz.prog.globalNamed "errors.errorType" = some 0 := by kernel_rfl
theorem as_rt : (Tryz.prog.cutTypes.find? (·.1 == "internal/reflectlite.rtype")).map (·.2) = some 276 := by kernel_rfl
theorem as_oneRow : ((List.range 363).filter fun t => Tryz.prog.rowNamed t [101, 114, 114, 111, 114]) = [26] := by kernel_rfl
theorem as_size : Tryz.prog.types.size = 363 := by kernel_rfl
abbrev listed : List (String × DataW Unit) := [("errors.errorType", Rows.laid_errors_errorType)]

noncomputable def laidWorld (os : Os) : World :=
  let w0 := World.holding Tryz.prog os ⟨#[], #[], []⟩
  { w0 with heap := w0.heap.modify 0 fun
      | .cells _ t frozen => .cells #[errT] t frozen
      | o => o }
end Go.Proofs.YtjiaidchcldocaaGreatDoor
namespace Go.Proofs.YtjiaidchcldocaaGreatDoor
open Go.ChangeShapes Go.WideShapes Go.ChangeAt Go.RowKit

abbrev listedTE : List (String × DataW Unit) := [("unicode/utf8.acceptRanges", Rows.laid_unicode_utf8_acceptRanges), ("errors.errorType", Rows.laid_errors_errorType), ("unicode/utf8.first", Rows.laid_unicode_utf8_first)]
abbrev listedT : List (String × DataW Unit) := [("unicode/utf8.acceptRanges", Rows.laid_unicode_utf8_acceptRanges), ("unicode/utf8.first", Rows.laid_unicode_utf8_first)]
theorem handle_of_laidTE {W : World} (h : laidMetH Tryz.prog listedTE W) : W.cell? ⟨0, 0, none⟩ = some errT := by
  have h' : laidMet Tryz.prog listedT W ∧ handlesMet Tryz.prog listed W := h
  obtain ⟨name, u, ty, e1, e2, e3, e4, e5⟩ := h'.2 _ (List.mem_singleton.2 rfl)
  have en : name = [101, 114, 114, 111, 114] := (Option.some.inj e1).symm
  subst en
  obtain rfl := Option.some.inj (as_rt.symm.trans e2)
  have hm : ty ∈ (List.range 363).filter fun t => Tryz.prog.rowNamed t [101, 114, 114, 111, 114] := List.mem_filter.2 ⟨List.mem_range.2 (by rw [← as_size]; exact e3), e4⟩
  rw [as_oneRow] at hm
  obtain rfl := List.mem_singleton.1 hm
  have hh : typeHandle Tryz.prog 26 = .pointer (some ⟨9, 26, none⟩) := by kernel_rfl
  rw [hh] at e5
  simpa using World.var?_cell as_et e5 0
theorem maxlen_of {W : World} (h : W.ShapedOpen Tryz.prog) : ∃ m, W.cell? ⟨1, 0, none⟩ = some (.int .i64 m) := Go.Proofs.cell_of_shapedOpen_int (zero := #[.int .i64 0]) (t := 3) h (of_decide_eq_true (by kernel_rfl)) (by kernel_rfl) rfl (by kernel_rfl) (by kernel_rfl) Tryz.underlying3

def litOf : DataW Unit → List Value
  | .lit (.int k n) => [.int k n]
  | _ => []
def partOf : DataW Unit → List Value
  | .agg es => es.flatMap litOf
  | d => litOf d
def tableOf : DataW Unit → List Value
  | .agg ds => ds.flatMap partOf
  | d => litOf d
def setTable (w : World) (g : Nat) (cs : List Value) : World :=
  { w with heap := w.heap.modify g fun
      | .cells _ t frozen => .cells cs.toArray t frozen
      | o => o }
noncomputable def laidWorldT (os : Os) : World := setTable (setTable (laidWorld os) 6 (tableOf Rows.laid_unicode_utf8_acceptRanges)) 5 (tableOf Rows.laid_unicode_utf8_first)
end Go.Proofs.YtjiaidchcldocaaGreatDoor
namespace Go.Proofs.YtjiaidchcldocaaGreatDoor
open Go.RowKit Go.Sort

theorem pow_at : Tryz.prog.globalNamed "internal/strconv.uint64pow10" = some 4 := by kernel_rfl
def IsErrV (ev : Value) : Prop := ev = .nilIface ∨ ∃ te pe, ev = .iface te pe
structure Globs (w : World) (m : Int) : Prop where
  ml : w.cell? ⟨1, 0, none⟩ = some (.int .i64 m)
  tab : Lib.TabIs Tryz.prog w "internal/strconv.uint64pow10" .u64 Lib.pow10Tab
  es : ∃ ev, w.cell? ⟨2, 0, none⟩ = some ev ∧ IsErrV ev
  er : ∃ ev, w.cell? ⟨3, 0, none⟩ = some ev ∧ IsErrV ev
theorem tab_keep {O : Nat → Prop} {w w' : World} (h : Lib.TabIs Tryz.prog w "internal/strconv.uint64pow10" .u64 Lib.pow10Tab) (hc : Chg O w w') (hO : ¬ O 4) : Lib.TabIs Tryz.prog w' "internal/strconv.uint64pow10" .u64 Lib.pow10Tab := by
  unfold Lib.TabIs World.var? at *
  rw [pow_at] at h ⊢
  simp only [Option.bind_some] at h ⊢
  have hlt : 4 < w.heap.size := by
    rcases Nat.lt_or_ge 4 w.heap.size with q | q
    · exact q
    · rw [Array.getElem?_eq_none q] at h; cases h
  rw [hc.block _ hlt hO]
  exact h
theorem Globs.keepO {O : Nat → Prop} {w w' : World} {m : Int} (h : Globs w m) (hc : Chg O w w') (hO : ∀ k, k < 9 → ¬ O k) : Globs w' m := by
  obtain ⟨h1, h2, ⟨e1, h3, h4⟩, ⟨e2, h5, h6⟩⟩ := h
  exact ⟨hc.cell h1 (hO _ (by decide)), tab_keep h2 hc (hO _ (by decide)), ⟨e1, hc.cell h3 (hO _ (by decide)), h4⟩, ⟨e2, hc.cell h5 (hO _ (by decide)), h6⟩⟩
theorem Globs.never {w w' : World} {m : Int} (h : Globs w m) (hc : Chg Never w w') : Globs w' m := h.keepO hc (fun _ _ q => q)
theorem chg_grow (w : World) (k : Nat) (os : Array Obj) : Chg Never w (grow (w.drewN k) os) := Chg.of_below (Lib.below_grow w.heap.size w (Nat.le_refl _) k os)
end Go.Proofs.YtjiaidchcldocaaGreatDoor
namespace Go.Proofs.YtjiaidchcldocaaGreatDoor
open Go.ChangeShapes Go.WideShapes Go.ChangeAt Go.RowKit

abbrev listedGB : List (String × DataW Unit) := [("math/bits.deBruijn32tab", Rows.laid_math_bits_deBruijn32tab), ("math/bits.deBruijn64tab", Rows.laid_math_bits_deBruijn64tab), ("internal/strconv.uint64pow10", Rows.laid_internal_strconv_uint64pow10), ("unicode/utf8.acceptRanges", Rows.laid_unicode_utf8_acceptRanges), ("strconv.ErrRange", Rows.laid_strconv_ErrRange), ("strconv.ErrSyntax", Rows.laid_strconv_ErrSyntax), ("unicode/utf8.first", Rows.laid_unicode_utf8_first)]
theorem tabIs_of_laid {P : Program} {W : World} {name : String} {k : IntKind} {zs : List Int} {g : Nat} {t e : TypeId} {n : Nat}
    (hg : P.globalNamed name = some g) (hty : (P.globals[g]?).map (·.type) = some t) (ht : P.underlying t = some (.array n e)) (he : P.underlying e = some (.int k)) (hce : P.cellsOf e = 1) (hct : P.cellsOf t = n) :
    ∀ (l : List (String × DataW Unit)) (ps : List MemPlace), DataW.LaidVars P W l ps → (∃ d, d = Lib.tabData k zs ∧ (name, d) ∈ l) → Lib.TabIs P W name k zs
  | [], _, _, ⟨_, _, h⟩ => by cases h
  | (n', d') :: r, ps, hl, ⟨d, hd, h⟩ => by
    obtain ⟨g', t', cs, fuel, p, q, hg', ht', hvar, htr, hr, -⟩ := hl
    rcases List.mem_cons.1 h with e1 | h
    · injection e1 with e1 e2
      subst e1; subst e2; subst hd
      obtain rfl := Option.some.inj (hg.symm.trans hg')
      obtain rfl := Option.some.inj (hty.symm.trans ht')
      unfold Lib.TabIs
      rw [hvar, ← Lib.cells_of_tab ht he hce hct htr]
    · exact tabIs_of_laid hg hty ht he hce hct r q hr ⟨d, hd, h⟩
theorem pow_data : (Rows.laid_internal_strconv_uint64pow10 : DataW Unit) = Lib.tabData .u64 Lib.pow10Tab := by
  unfold Rows.laid_internal_strconv_uint64pow10 Lib.tabData
  congr 1
theorem tab_of {W : World} {l : List (String × DataW Unit)} (h : laidMet Tryz.prog l W) (hm : ("internal/strconv.uint64pow10", Rows.laid_internal_strconv_uint64pow10) ∈ l) : Lib.TabIs Tryz.prog W "internal/strconv.uint64pow10" .u64 Lib.pow10Tab := by
  obtain ⟨ps, hl, -⟩ := h
  exact tabIs_of_laid pow_at (t := 317) (e := 303) (n := 20) (by kernel_rfl) Tryz.underlying317 Tryz.underlying303 (by kernel_rfl) (by kernel_rfl) l ps hl ⟨_, pow_data, hm⟩
def textOf : DataW Unit → ByteArray
  | .iface _ (.ptr (.agg [.lit (.string s)])) => ⟨s.toArray⟩
  | _ => ⟨#[]⟩
def withErrs (w : World) : World :=
  let n := w.heap.size
  let w1 := setTable (setTable w 3 [.iface 325 (.pointer (some ⟨n, 0, none⟩))]) 2 [.iface 325 (.pointer (some ⟨n + 1, 0, none⟩))]
  { w1 with heap := (w1.heap.push (.cells #[.string (textOf Rows.laid_strconv_ErrRange)] 327 (0, 0))).push (.cells #[.string (textOf Rows.laid_strconv_ErrSyntax)] 327 (0, 0)) }
noncomputable def laidWorldG (os : Os) : World := withErrs (setTable (setTable (setTable (laidWorldT os) 7 (tableOf Rows.laid_math_bits_deBruijn32tab)) 8 (tableOf Rows.laid_math_bits_deBruijn64tab)) 4 (tableOf Rows.laid_internal_strconv_uint64pow10))
theorem laidWorldGB_met (os : Os) (args : Array Value) : laidMetH Tryz.prog listedGB ((laidWorldG os).forCall (fun _ _ => 0) ⟨#[], args, []⟩).memory :=
  (laidMet_of_run' 8 (by kernel_rfl) (by kernel_rfl) : laidMet Tryz.prog listedGB _)
end Go.Proofs.YtjiaidchcldocaaGreatDoor
namespace Go.Proofs.YtjiaidchcldocaaGreatDoor
open Go.ChangeShapes Go.WideShapes Go.ChangeAt Go.RowKit

theorem trod_isIface {H : Type} {enc : TypeId × Value → H} {P : Program} {w : World} {base : Nat} {sp : Nat → Bool} {held : Bool} {fuel : Nat} {t : TypeId} {ms : Array (String × TypeId)} {cs : List Value} {name : String} {x : DataW H} {p : List MemPlace}
    (ht : P.underlying t = some (.interface ms)) (h : DataW.trod enc P w base sp held fuel t cs = some (.iface name x, p)) : ∃ u v, cs = [.iface u v] := by
  cases fuel with
  | zero => simp [DataW.trod] at h
  | succ fuel =>
    match cs with
    | [.iface u v] => exact ⟨u, v, rfl⟩
    | [.nilIface] => simp [DataW.trod, ht] at h
    | [] => simp [DataW.trod, ht] at h
    | _ :: _ :: _ => simp [DataW.trod, ht] at h
    | [.bool _] | [.int _ _] | [.string _] | [.slice _ _ _] | [.pointer _] | [.agg _] | [.tuple _] => simp [DataW.trod, ht] at h
    | [v] => cases v <;> simp_all [DataW.trod]
theorem var_cell {P : Program} {W : World} {name : String} {g : Nat} {v : Value} {cs : Array Value} (hg : P.globalNamed name = some g) (h : W.var? P name = some cs) (hc : cs.toList = [v]) : W.cell? ⟨g, 0, none⟩ = some v := by
  unfold World.var? at h
  rw [hg] at h
  obtain rfl : cs = #[v] := by cases cs; simp_all
  simp only [Option.bind_some] at h
  cases hh : W.heap[g]? with
  | none => rw [hh] at h; cases h
  | some o =>
    rw [hh] at h
    cases o <;> simp_all [World.cell?]
theorem iface_of_laid {P : Program} {W : World} {name : String} {g : Nat} {t : TypeId} {ms : Array (String × TypeId)} {u : String} {x : DataW Unit}
    (hg : P.globalNamed name = some g) (hty : (P.globals[g]?).map (·.type) = some t) (ht : P.underlying t = some (.interface ms)) :
    ∀ (l : List (String × DataW Unit)) (ps : List MemPlace), DataW.LaidVars P W l ps → (∃ d, d = .iface u x ∧ (name, d) ∈ l) → ∃ v, W.cell? ⟨g, 0, none⟩ = some v ∧ IsErrV v
  | [], _, _, ⟨_, _, h⟩ => by cases h
  | (n', d') :: r, ps, hl, ⟨d, hd, h⟩ => by
    obtain ⟨g', t', cs, fuel, p, q, hg', ht', hvar, htr, hr, -⟩ := hl
    rcases List.mem_cons.1 h with e1 | h
    · injection e1 with e1 e2
      subst e1; subst e2; subst hd
      obtain rfl := Option.some.inj (hg.symm.trans hg')
      obtain rfl := Option.some.inj (hty.symm.trans ht')
      obtain ⟨u, v, hc⟩ := trod_isIface ht htr
      exact ⟨_, var_cell hg hvar hc, .inr ⟨u, v, rfl⟩⟩
    · exact iface_of_laid hg hty ht r q hr ⟨d, hd, h⟩
theorem es_of {W : World} {l : List (String × DataW Unit)} (h : laidMet Tryz.prog l W) (hm : ("strconv.ErrSyntax", Rows.laid_strconv_ErrSyntax) ∈ l) : ∃ v, W.cell? ⟨2, 0, none⟩ = some v ∧ IsErrV v := by
  obtain ⟨ps, hl, -⟩ := h
  exact iface_of_laid (t := 26) (by kernel_rfl) (by kernel_rfl) Tryz.underlying26 l ps hl ⟨_, rfl, hm⟩
theorem er_of {W : World} {l : List (String × DataW Unit)} (h : laidMet Tryz.prog l W) (hm : ("strconv.ErrRange", Rows.laid_strconv_ErrRange) ∈ l) : ∃ v, W.cell? ⟨3, 0, none⟩ = some v ∧ IsErrV v := by
  obtain ⟨ps, hl, -⟩ := h
  exact iface_of_laid (t := 26) (by kernel_rfl) (by kernel_rfl) Tryz.underlying26 l ps hl ⟨_, rfl, hm⟩
theorem globs_of {W : World} {m : Int} (hm : W.cell? ⟨1, 0, none⟩ = some (.int .i64 m)) {l : List (String × DataW Unit)} (hL : laidMet Tryz.prog l W) (hl : ("internal/strconv.uint64pow10", Rows.laid_internal_strconv_uint64pow10) ∈ l)
    (h1 : ("strconv.ErrSyntax", Rows.laid_strconv_ErrSyntax) ∈ l) (h2 : ("strconv.ErrRange", Rows.laid_strconv_ErrRange) ∈ l) : Globs W m :=
  ⟨hm, tab_of hL hl, es_of hL h1, er_of hL h2⟩
end Go.Proofs.YtjiaidchcldocaaGreatDoor
namespace Go.Proofs.YtjiaidchcldocaaGreatDoor
open Go.ChangeShapes Go.WideShapes Go.ChangeAt Go.RowKit

abbrev listedGI : List (String × DataW Unit) := [("math/bits.deBruijn32tab", Rows.laid_math_bits_deBruijn32tab), ("math/bits.deBruijn64tab", Rows.laid_math_bits_deBruijn64tab), ("internal/strconv.uint64pow10", Rows.laid_internal_strconv_uint64pow10), ("unicode/utf8.acceptRanges", Rows.laid_unicode_utf8_acceptRanges), ("errors.errorType", Rows.laid_errors_errorType), ("strconv.ErrRange", Rows.laid_strconv_ErrRange), ("strconv.ErrSyntax", Rows.laid_strconv_ErrSyntax), ("unicode/utf8.first", Rows.laid_unicode_utf8_first)]
theorem laidWorldG_metD (os : Os) (args : Array Value) : laidMet Tryz.prog listedGB ((laidWorldG os).forCall (fun _ _ => 0) ⟨#[], args, []⟩).memory := laidWorldGB_met os args
theorem laidWorldGI_met (os : Os) (args : Array Value) : laidMetH Tryz.prog listedGI ((laidWorldG os).forCall (fun _ _ => 0) ⟨#[], args, []⟩).memory :=
  laidMetH_of_parts (laidWorldG_metD os args) (by kernel_rfl)
theorem parts_of_laidGI {W : World} (h : laidMetH Tryz.prog listedGI W) : laidMet Tryz.prog listedGB W ∧ handlesMet Tryz.prog listed W := h
def keepT (x : String × DataW Unit) : Bool := x.1 == "unicode/utf8.acceptRanges" || x.1 == "unicode/utf8.first"
theorem keepT_GB : listedGB.filter keepT = listedT := by
  unfold keepT
  simp [listedGB, listedT]
theorem handle_of_laidGI {W : World} (h : laidMetH Tryz.prog listedGI W) : W.cell? ⟨0, 0, none⟩ = some errT := by
  have h1 := laidMet.filter keepT (parts_of_laidGI h).1
  rw [keepT_GB] at h1
  exact handle_of_laidTE (show laidMet Tryz.prog listedT W ∧ handlesMet Tryz.prog listed W from ⟨h1, (parts_of_laidGI h).2⟩)
end Go.Proofs.YtjiaidchcldocaaGreatDoor
namespace Go.Proofs.YtjiaidchcldocaaGreatDoor
open Go.ChangeShapes Go.WideShapes Go.ChangeAt Go.RowKit

theorem opens_file {P : Program} {t : TypeId} {f0 f1 : Field} (ht : P.underlying t = some (.struct #[f0, f1])) (hc : P.cellsOf t = 2) (o0 : f0.offset = 0) (o1 : f1.offset = 1) (k0 : P.cellsOf f0.type = 1) (k1 : P.cellsOf f1.type = 1)
    (h0 : P.underlying f0.type = some .string) (h1 : Opens P f1.type (List ByteArray)) : Opens P t File := by
  intro H enc w base spare held fuel cs d ps h
  obtain ⟨y0, y1, n, hx, hl, e0, e1⟩ := trod_struct2 ht h
  rw [hc] at hl
  match cs, hl with
  | [c0, c1], _ =>
    rw [o0, k0] at e0
    rw [o1, k1] at e1
    obtain ⟨s, s1, s2, s3⟩ := DataW.trod_string h0 e0
    simp at s1 e1
    subst s1 s2
    obtain ⟨l, hl1, hl2⟩ := h1 H enc w base spare held n [c1] y1.1 y1.2 e1
    simp only [Prod.mk.injEq] at hx
    obtain ⟨rfl, rfl⟩ := hx
    refine ⟨⟨s, l⟩, ⟨c1, rfl, s3, hl1⟩, ?_⟩
    show s.size + Dat.bulk l + 2 ≤ Rows.uptoBulk (.agg [.lit (.string s.data.toList), y1.1])
    simp only [Rows.uptoBulk, Rows.uptoBulkAll]
    rw [Array.length_toList]
    show s.size + Dat.bulk l + 2 ≤ s.size + 1 + (Rows.uptoBulk y1.1 + 0) + 1
    omega
theorem opens_change {P : Program} {t : TypeId} {f0 f1 f2 : Field} (ht : P.underlying t = some (.struct #[f0, f1, f2])) (hc : P.cellsOf t = 3) (o0 : f0.offset = 0) (o1 : f1.offset = 1) (o2 : f2.offset = 2) (k0 : P.cellsOf f0.type = 1) (k1 : P.cellsOf f1.type = 1) (k2 : P.cellsOf f2.type = 1)
    (h0 : P.underlying f0.type = some (.int .i64)) (h1 : P.underlying f1.type = some .string) (h2 : Opens P f2.type (List Hunk)) : Opens P t Change := by
  intro H enc w base spare held fuel cs d ps h
  obtain ⟨y0, y1, y2, n, hx, hl, e0, e1, e2⟩ := Deep.trod_struct3 ht h
  rw [hc] at hl
  match cs, hl with
  | [c0, c1, c2], _ =>
    rw [o0, k0] at e0
    rw [o1, k1] at e1
    rw [o2, k2] at e2
    obtain ⟨m, m1, m2, m3⟩ := DataW.trod_int h0 e0
    obtain ⟨s, s1, s2, s3⟩ := DataW.trod_string h1 e1
    simp at m1 s1 e2
    subst m1 s1 m2 s2
    obtain ⟨l, hl1, hl2⟩ := h2 H enc w base spare held n [c2] y2.1 y2.2 e2
    simp only [Prod.mk.injEq] at hx
    obtain ⟨rfl, rfl⟩ := hx
    refine ⟨⟨m, s, l⟩, ⟨c2, rfl, s3, hl1⟩, ?_⟩
    show s.size + Dat.bulk l + 3 ≤ Rows.uptoBulk (.agg [.lit (.int .i64 m), .lit (.string s.data.toList), y2.1])
    simp only [Rows.uptoBulk, Rows.uptoBulkAll]
    rw [Array.length_toList]
    show s.size + Dat.bulk l + 3 ≤ 1 + (s.size + 1 + (Rows.uptoBulk y2.1 + 0)) + 1
    omega

theorem opens_afile : Opens Tryz.prog 117 File := opens_file Tryz.underlying117 (by kernel_rfl) rfl rfl (by kernel_rfl) (by kernel_rfl) Tryz.underlying9 opens_strs
theorem opens_files : Opens Tryz.prog 41 (List File) := opens_slice Tryz.underlying41 (by kernel_rfl) opens_afile
theorem opens_achange : Opens Tryz.prog 85 Change := opens_change Tryz.underlying85 (by kernel_rfl) rfl rfl rfl (by kernel_rfl) (by kernel_rfl) (by kernel_rfl) Tryz.underlying3 Tryz.underlying9 opens_hunks
theorem opens_changes : Opens Tryz.prog 51 (List Change) := opens_slice Tryz.underlying51 (by kernel_rfl) opens_achange
theorem opens_series : Opens Tryz.prog 22 (List (List Change)) := opens_slice Tryz.underlying22 (by kernel_rfl) opens_changes
end Go.Proofs.YtjiaidchcldocaaGreatDoor
namespace Go.Proofs.YtjiaidchcldocaaGreatDoor

def toB (x : List UInt8) : ByteArray := ⟨x.toArray⟩
theorem toB_data (x : List UInt8) : (toB x).data.toList = x := by simp [toB]
theorem toB_of (s : ByteArray) : toB s.data.toList = s := by cases s; simp [toB]
theorem toB_append (x y : List UInt8) : toB (x ++ y) = toB x ++ toB y := by
  apply ByteArray.ext
  simp [toB, ByteArray.data_append]
theorem bytes_append (s t : ByteArray) : (s ++ t).data.toList = s.data.toList ++ t.data.toList := by simp [ByteArray.data_append]

theorem map_toB : ∀ l : List ByteArray, l.map (toB ∘ fun x => x.data.toList) = l
  | [] => rfl
  | x :: l => by rw [List.map_cons, map_toB l]; rfl
def parts (d : UInt8) : List UInt8 → List (List UInt8)
  | [] => [[]]
  | c :: r => if c = d then [] :: parts d r else (c :: (parts d r).headD []) :: (parts d r).tail
theorem parts_ne (d : UInt8) : ∀ s, parts d s ≠ []
  | [] => by simp [parts]
  | c :: r => by rw [parts]; split <;> simp
theorem parts_sep (d : UInt8) (r : List UInt8) : parts d (d :: r) = [] :: parts d r := by rw [parts, if_pos rfl]
theorem parts_other {d c : UInt8} (h : c ≠ d) {r h' : List UInt8} {t : List (List UInt8)} (e : parts d r = h' :: t) : parts d (c :: r) = (c :: h') :: t := by
  rw [parts, if_neg h, e]; rfl
theorem parts_cut {d : UInt8} : ∀ {a : List UInt8} (r : List UInt8), (∀ x ∈ a, x ≠ d) → parts d (a ++ d :: r) = a :: parts d r
  | [], r, _ => parts_sep d r
  | c :: _a, r, h => parts_other (h c (List.mem_cons_self ..)) (parts_cut r (fun x hx => h x (List.mem_cons_of_mem _ hx)))
theorem parts_none {d : UInt8} : ∀ {a : List UInt8}, (∀ x ∈ a, x ≠ d) → parts d a = [a]
  | [], _ => rfl
  | c :: _a, h => parts_other (h c (List.mem_cons_self ..)) (parts_none (fun x hx => h x (List.mem_cons_of_mem _ hx)))
theorem split_parts (d : UInt8) : ∀ s, Lib.split s [d] = parts d s
  | [] => by
    have : Lib.index [] [d] = -1 := rfl
    unfold Lib.split
    rw [Lib.count_miss this]; rfl
  | c :: r => by
    have ih := split_parts d r
    by_cases h : c = d
    · subst h
      have e : Lib.index (c :: r) [c] = (0 : Nat) := by rw [Lib.index_one]; simp [Lib.indexByte]
      unfold Lib.split at ih ⊢
      rw [Lib.count_hit (by simp) e, parts_sep, Nat.add_comm, Lib.splitK, if_neg (by rw [e]; decide), e]
      simp only [Int.toNat_natCast, Nat.zero_add, List.take_zero, List.length_cons, List.length_nil, List.drop_succ_cons, List.drop_zero]
      rw [ih]
    · have e : Lib.index (c :: r) [d] = if Lib.index r [d] == -1 then -1 else Lib.index r [d] + 1 := by
        rw [Lib.index_one, Lib.index_one, Lib.indexByte, if_neg (by simpa using h)]
      by_cases hm : Lib.index r [d] = -1
      · have e2 : Lib.index (c :: r) [d] = -1 := by rw [e, hm]; rfl
        unfold Lib.split at ih ⊢
        rw [Lib.count_miss hm] at ih
        rw [Lib.count_miss e2]
        exact (parts_other h ih.symm).symm
      · have hge := Lib.index_ge r [d]
        obtain ⟨i, hi⟩ : ∃ i : Nat, Lib.index r [d] = i := ⟨(Lib.index r [d]).toNat, by omega⟩
        have e2 : Lib.index (c :: r) [d] = ((i + 1 : Nat) : Int) := by
          rw [e, if_neg (by simpa using hm), hi]; rfl
        unfold Lib.split at ih ⊢
        rw [Lib.count_hit (by simp) hi, Nat.add_comm, Lib.splitK, if_neg (by rw [hi]; simp), hi] at ih
        rw [Lib.count_hit (by simp) e2, Nat.add_comm, Lib.splitK, if_neg (by rw [e2]; intro hh; have := eq_of_beq hh; omega), e2]
        simp only [Int.toNat_natCast, List.length_cons, List.length_nil] at ih ⊢
        rw [parts_other h ih.symm]
        rfl
theorem splitB_parts (d : UInt8) (s : ByteArray) : Lib.splitB ⟨#[d]⟩ 0 (Lib.countB s ⟨#[d]⟩) s = (parts d s.data.toList).map toB := by
  have e := Lib.splitB_data ⟨#[d]⟩ 0 (Lib.countB s ⟨#[d]⟩) s
  have e2 : Lib.splitK [d] 0 (Lib.countB s ⟨#[d]⟩) s.data.toList = parts d s.data.toList := split_parts d _
  have e3 : ((Lib.splitB ⟨#[d]⟩ 0 (Lib.countB s ⟨#[d]⟩) s).map (·.data.toList)).map toB = Lib.splitB ⟨#[d]⟩ 0 (Lib.countB s ⟨#[d]⟩) s := by
    rw [List.map_map]
    exact map_toB _
  rw [← e3, e]
  congr 1

def letterB (c : UInt8) : Bool := decide (97 ≤ c.toNat) && decide (c.toNat ≤ 122) || decide (48 ≤ c.toNat) && decide (c.toNat ≤ 57) || decide (c.toNat = 46) || decide (c.toNat = 45)
def nameOk (x : List UInt8) : Bool := !(x == []) && !(x == [46]) && !(x == [46, 46]) && x.all letterB
def pathFault (s : ByteArray) : Int := if 20 < s.size then 3 else if (parts 47 s.data.toList).all nameOk then 0 else 5
end Go.Proofs.YtjiaidchcldocaaGreatDoor
namespace Go.Proofs.YtjiaidchcldocaaGreatDoor
open Go.RowKit

theorem elems_byte {w : World} {O : Nat → Prop} {a : Option Addr} {l : List UInt8} (h : Elems w O a l) {i : Nat} {x : UInt8} (hx : l[i]? = some x) :
    ∃ b off, a = some ⟨b, off, none⟩ ∧ ¬ O b ∧ b < w.heap.size ∧ w.cell? ⟨b, off + i, none⟩ = some (.int .u8 x.toNat) := by
  obtain ⟨b, off, es, ha, hb, hc, rfl⟩ := h i x hx
  refine ⟨b, off, ha, hb, hc.lt (by simp), ?_⟩
  have := hc 0 _ rfl
  rw [show off + i * Dat.n UInt8 + 0 = off + i by show off + i * 1 + 0 = _; omega] at this
  exact this
theorem conv_str {w : World} {O : Nat → Prop} {v : Value} {l : List UInt8} (h : Rdv w O v l) : (convert 29 9 v).run Tryz.prog w = .ok (.string (toB l)) w := by
  obtain ⟨a, cap, rfl, h1, h2, h3⟩ := rdv_slice h
  by_cases h0 : l = []
  · subst h0
    cases a with
    | none => exact run_convert_bytes_nil w _ 5 Tryz.underlying29 Tryz.underlying5 _ cap _ Tryz.underlying9
    | some a => exact run_convert_bytes_back w _ _ 5 a cap [] Tryz.underlying29 Tryz.underlying5 Tryz.underlying9 (fun j hj => absurd hj (Nat.not_lt_zero j))
  · have hp : 0 < l.length := List.length_pos_iff.2 h0
    obtain ⟨b, off, rfl, _⟩ := elems_byte h3 (i := 0) (x := l[0]) (by simp [hp])
    refine run_convert_bytes_back w _ _ 5 ⟨b, off, none⟩ cap l Tryz.underlying29 Tryz.underlying5 Tryz.underlying9 (fun j hj => ?_)
    obtain ⟨b', off', e, _, _, hc⟩ := elems_byte h3 (i := j) (x := l[j]) (by simp [hj])
    simp only [Option.some.injEq, Addr.mk.injEq, and_true] at e
    obtain ⟨rfl, rfl⟩ := e
    rw [show (⟨b, off, none⟩ : Addr).add j = ⟨b, off + j, none⟩ by unfold Addr.add; split <;> simp_all]
    exact hc
theorem conv_bytes {w : World} {s : ByteArray} (hs : s.size ≤ maxLen) : ∃ c : Nat, ∃ o : Obj,
    (convert 9 29 (.string s)).run Tryz.prog w = .ok (.slice (some ⟨w.heap.size, 0, none⟩) s.size c) (w.drew.alloc o) ∧
      Rdv (w.drew.alloc o) (Old w.heap.size) (.slice (some ⟨w.heap.size, 0, none⟩) s.size c) s.data.toList := by
  refine ⟨_, _, run_bytes_of_string w _ _ 5 s Tryz.underlying9 Tryz.underlying29 Tryz.underlying5, ?_⟩
  have hl : s.data.toList.length = s.size := (Lib.size_eq s).symm
  have hge := grownCap_ge w s.size 0 5
  have hcm := grownCap_le_maxLen w s.size 0 5 hs
  refine ⟨some ⟨w.heap.size, 0, none⟩, grownCap w s.size 0 5, by rw [hl], by rw [hl]; exact hge, hcm, ?_⟩
  intro i x hx
  have hi := (List.getElem?_eq_some_iff.1 hx).1
  refine ⟨w.heap.size, 0, [.int .u8 x.toNat], rfl, fun h => absurd h (Nat.lt_irrefl _), ?_, rfl⟩
  intro j u hj
  match j, hj with
  | 0, hj =>
    simp only [List.getElem?_cons_zero, Option.some.injEq] at hj
    subst hj
    have hb := heap_alloc_new w.drew (.cells (bytesRow s (grownCap w s.size 0 5)) 5 ((bytesRow s (grownCap w s.size 0 5)).size, (bytesRow s (grownCap w s.size 0 5)).size + 1))
    have hb' : (w.drew.alloc (.cells (bytesRow s (grownCap w s.size 0 5)) 5 ((bytesRow s (grownCap w s.size 0 5)).size, (bytesRow s (grownCap w s.size 0 5)).size + 1))).heap[w.heap.size]? = _ := hb
    simp only [World.cell?, hb']
    show (bytesRow s _)[0 + i * 1 + 0]? = _
    rw [show 0 + i * 1 + 0 = i by omega, bytesRow, Array.getElem?_append_left (by simpa using hi), Array.getElem?_map]
    rw [Array.getElem?_toList] at hx
    rw [hx]; rfl
end Go.Proofs.YtjiaidchcldocaaGreatDoor
namespace Go.Proofs.YtjiaidchcldocaaGreatDoor

def dec3 (n : Nat) : List UInt8 :=
  if n < 10 then [UInt8.ofNat (48 + n)] else if n < 100 then [UInt8.ofNat (48 + n / 10), UInt8.ofNat (48 + n % 10)] else [UInt8.ofNat (48 + n / 10 / 10), UInt8.ofNat (48 + n / 10 % 10), UInt8.ofNat (48 + n % 10)]
theorem digits_three {n : Nat} (h : n < 1000) : Lib.decDigits n = dec3 n := by
  unfold dec3
  by_cases h1 : n < 10
  · rw [if_pos h1, Lib.decDigits_one h1]
  · rw [if_neg h1]
    by_cases h2 : n < 100
    · rw [if_pos h2, Lib.decDigits_two h1 h2]
    · rw [if_neg h2, Lib.decDigits, dif_neg h1, Lib.decDigits_two (by omega) (by omega)]
      rfl
theorem dec3_nat : ∀ n, n < 1000 → Lib.decNat (dec3 n) = some n := by decide +kernel
theorem dec3_chars : ∀ n, n < 1000 → (dec3 n).all (fun c => decide (48 ≤ c.toNat) && decide (c.toNat ≤ 57)) = true := by decide +kernel
theorem dec3_len : ∀ n, n < 1000 → (dec3 n).length ≤ 3 := by decide +kernel
def numOf (s : List UInt8) : Option Nat := if s.length ≤ 3 then match Lib.decNat s with
  | some n => if Lib.decDigits n = s then some n else none
  | none => none
  else none
theorem num_dec {n : Nat} (h : n < 1000) : numOf (Lib.decDigits n) = some n := by
  unfold numOf
  rw [digits_three h, if_pos (dec3_len n h), dec3_nat n h]
  show (if Lib.decDigits n = dec3 n then some n else none) = _
  rw [if_pos (digits_three h)]
theorem num_some {s : List UInt8} {n : Nat} (h : numOf s = some n) : n < 1000 ∧ Lib.decDigits n = s := by
  unfold numOf at h
  by_cases hl : s.length ≤ 3
  · rw [if_pos hl] at h
    cases hd : Lib.decNat s with
    | none => rw [hd] at h; cases h
    | some k =>
      rw [hd] at h
      simp only at h
      by_cases he : Lib.decDigits k = s
      · rw [if_pos he] at h
        injection h with h
        subst h
        refine ⟨?_, he⟩
        have h1 := Lib.decFrom_lt _ _ _ (Lib.decNat_some hd).2
        have : (10 : Nat) ^ s.length ≤ 10 ^ 3 := Nat.pow_le_pow_right (by decide) hl
        omega
      · rw [if_neg he] at h; cases h
  · rw [if_neg hl] at h; cases h
theorem dec_digit {n : Nat} (h : n < 1000) {c : UInt8} (hc : c ∈ Lib.decDigits n) : 48 ≤ c.toNat ∧ c.toNat ≤ 57 := by
  rw [digits_three h] at hc
  have := List.all_eq_true.1 (dec3_chars n h) c hc
  simpa using this

def cutSub (t : List UInt8) : List UInt8 → Option (List UInt8 × List UInt8)
  | [] => if t = [] then some ([], []) else none
  | c :: r => if t.isPrefixOf (c :: r) then some ([], (c :: r).drop t.length) else (cutSub t r).map fun p => (c :: p.1, p.2)
theorem cut_some {t : List UInt8} : ∀ {s a b : List UInt8}, cutSub t s = some (a, b) → s = a ++ t ++ b
  | [], a, b, h => by
    rw [cutSub] at h
    by_cases e : t = []
    · rw [if_pos e] at h
      injection h with h
      injection h with h1 h2
      rw [← h1, ← h2, e]; rfl
    · rw [if_neg e] at h; cases h
  | c :: r, a, b, h => by
    rw [cutSub] at h
    by_cases e : t.isPrefixOf (c :: r) = true
    · rw [if_pos e] at h
      injection h with h
      injection h with h1 h2
      rw [← h1, ← h2, List.nil_append]
      obtain ⟨q, hq⟩ := List.isPrefixOf_iff_prefix.1 e
      rw [← hq, List.drop_left]
    · rw [if_neg e] at h
      cases hr : cutSub t r with
      | none => rw [hr] at h; cases h
      | some p =>
        rw [hr] at h
        injection h with h
        injection h with h1 h2
        rw [← h1, ← h2, List.cons_append, List.cons_append, ← cut_some (a := p.1) (b := p.2) hr]
theorem cut_at {x : UInt8} {t : List UInt8} (b : List UInt8) : ∀ {a : List UInt8}, (∀ c ∈ a, c ≠ x) → cutSub (x :: t) (a ++ (x :: t) ++ b) = some (a, b)
  | [], _ => by
    rw [List.nil_append, List.cons_append, cutSub, if_pos (by rw [List.isPrefixOf_iff_prefix]; exact ⟨b, rfl⟩)]
    show some ([], (x :: t ++ b).drop (x :: t).length) = _
    rw [List.drop_left]
  | c :: a, h => by
    rw [List.cons_append, List.cons_append, cutSub, if_neg, cut_at b fun d hd => h d (List.mem_cons_of_mem _ hd)]
    · rfl
    · rw [List.isPrefixOf_iff_prefix]
      rintro ⟨q, hq⟩
      injection hq with h1 _
      exact h c (List.mem_cons_self ..) h1.symm
def dropPre (p s : List UInt8) : Option (List UInt8) := if p.isPrefixOf s then some (s.drop p.length) else none
def dropSuf (q s : List UInt8) : Option (List UInt8) := if q.isSuffixOf s then some (s.take (s.length - q.length)) else none
theorem pre_app (p r : List UInt8) : dropPre p (p ++ r) = some r := by
  unfold dropPre
  rw [if_pos (List.isPrefixOf_iff_prefix.2 ⟨r, rfl⟩), List.drop_left]
theorem pre_some {p s r : List UInt8} (h : dropPre p s = some r) : s = p ++ r := by
  unfold dropPre at h
  by_cases e : p.isPrefixOf s = true
  · rw [if_pos e] at h
    injection h with h
    obtain ⟨q, hq⟩ := List.isPrefixOf_iff_prefix.1 e
    rw [← h, ← hq, List.drop_left]
  · rw [if_neg e] at h; cases h
def spanL (ahead : Int) (many : Nat) : List UInt8 := Lib.itoa (if 0 < many then ahead + 1 else ahead) ++ [44] ++ Lib.itoa many
def spanOf (s : List UInt8) : Option (Int × Nat) := match cutSub [44] s with
  | none => none
  | some (a, b) => match numOf a with
    | none => none
    | some x => match numOf b with
      | none => none
      | some y => if 0 < y then (if x = 0 then none else some ((x : Int) - 1, y)) else some ((x : Int), y)
theorem itoa_nat (n : Nat) : Lib.itoa n = Lib.decDigits n := by
  unfold Lib.itoa
  rw [if_neg (by omega)]; rfl
def atAt : List UInt8 := [64, 64, 32, 45]
def endAt : List UInt8 := [32, 64, 64]
def headL (a : Int) (x : Nat) (b : Int) (y : Nat) : List UInt8 := atAt ++ (spanL a x ++ [32, 43] ++ spanL b y ++ endAt)
def headOf (s : List UInt8) : Option (Int × Nat × Int × Nat) := match dropPre atAt s with
  | none => none
  | some r => match dropSuf endAt r with
    | none => none
    | some m => match cutSub [32, 43] m with
      | none => none
      | some (u, v) => match spanOf u with
        | none => none
        | some (a, x) => match spanOf v with
          | none => none
          | some (b, y) => some (a, x, b, y)
theorem span_chars {a : Int} {m : Nat} (h0 : 0 ≤ a) (h1 : a < 999) (hm : m < 1000) {c : UInt8} (hc : c ∈ spanL a m) : c.toNat = 44 ∨ (48 ≤ c.toNat ∧ c.toNat ≤ 57) := by
  obtain ⟨x, hx, hx3⟩ : ∃ x : Nat, (if 0 < m then a + 1 else a) = (x : Int) ∧ x < 1000 := ⟨(if 0 < m then a + 1 else a).toNat, by split <;> omega, by split <;> omega⟩
  unfold spanL at hc
  rw [hx, itoa_nat, itoa_nat] at hc
  rcases List.mem_append.1 hc with hc | hc
  · rcases List.mem_append.1 hc with hc | hc
    · exact .inr (dec_digit hx3 hc)
    · rw [List.mem_singleton.1 hc]; exact .inl rfl
  · exact .inr (dec_digit hm hc)
end Go.Proofs.YtjiaidchcldocaaGreatDoor
namespace Go.Proofs.YtjiaidchcldocaaGreatDoor

def letters : List UInt8 := [65, 66, 67, 68, 69, 70, 71, 72, 73, 74, 75, 76, 77, 78, 79, 80, 81, 82, 83, 84, 85, 86, 87, 88, 89, 90, 97, 98, 99, 100, 101, 102, 103, 104, 105, 106, 107, 108, 109, 110, 111, 112, 113, 114, 115, 116, 117, 118, 119, 120, 121, 122, 48, 49, 50, 51, 52, 53, 54, 55, 56, 57, 43, 47]
end Go.Proofs.YtjiaidchcldocaaGreatDoor
namespace Go.Proofs.YtjiaidchcldocaaGreatDoor

def wordB (s : List UInt8) : Bool := !(s == []) && decide (s.length ≤ 40) && s.all fun c => decide (32 ≤ c.toNat) && decide (c.toNat ≤ 126)
def mailFault (m : Mail) : Int :=
  if wordB m.sender.data.toList = false ∨ wordB m.subject.data.toList = false ∨ wordB m.ident.data.toList = false ∨ 60 ∈ m.ident.data.toList ∨ 62 ∈ m.ident.data.toList then 5
  else if 40000 < m.body.length then 3 else 0
end Go.Proofs.YtjiaidchcldocaaGreatDoor
